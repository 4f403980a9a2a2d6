/-
  PanelVotes: for every input the law returns true, and each argument reads afterwards as it read before. No condition.
-/
import Derived.Test.YtnccjojfpkjihaaRows
import Derived.WalkKit
import Derived.Test.YtnccjojfpkjihaaK1
set_option linter.unusedSimpArgs false
set_option linter.unusedVariables false
/- panel: what marks are. -/
section
namespace Go.Eng
open Go Go.RowKit Go.Proofs
set_option maxRecDepth 100000
set_option maxHeartbeats 4000000
attribute [local irreducible] OwnT DefS
/-- Not longer than most, and no row longer than long. -/
def lgB (m : Nat) (M : Nat → Nat) (most long : Int) : Bool := !(decide ((m : Int) ≤ most) && allU (fun i => decide ((M i : Int) ≤ long)) m)
def longerBase : BaseF := fun args => match args with
  | [.row m sz_A f_A, .int .i64 most, .int .i64 long] => some ((sz_A = 1 ∧ NestR m 1 0 1 f_A) ∧ (most ≤ 1000), .bool (lgB m (nsM 0 f_A) most long))
  | _ => none
theorem longer_eq (m : Nat) (sz_A : Nat) (f_A : Nat → Nat → SV) (most : Int) (long : Int) : longerBase [.row m sz_A f_A, .int .i64 most, .int .i64 long] = some ((sz_A = 1 ∧ NestR m 1 0 1 f_A) ∧ (most ≤ 1000), .bool (lgB m (nsM 0 f_A) most long)) := rfl
theorem longer_base : Base Try.prog 12 longerBase := by
  intro args p v hq hp
  unfold longerBase at hq
  split at hq
  rotate_left
  · cases hq
  rename_i m sz_A f_A most long
  cases hq
  obtain ⟨⟨rfl, i_A⟩, pre⟩ := hp
  refine base_of (C := cx [] [] [] [] none) (cx_ok trivial trivial) rfl (g := 12) (fn := Try.f12)
    (args' := [.row m 1 (nestF 0 1 (nsA f_A) (nsM 0 f_A) (nsV 0 f_A)), .int .i64 most, .int .i64 long]) (fn_12) rfl 1000 (by
    simp only [BdL, Bd, and_self, and_true, true_and]
    exact (fun i j hi hj => nest_bd i_A i j hi hj)) ⟨SameD.nest i_A, SameD.rfl' _, SameD.rfl' _, trivial⟩ ?_
  generalize nsA f_A = A at *
  generalize nsM 0 f_A = M at *
  generalize nsV 0 f_A = V at *
  simp only [nestF_eq, nestR_lit, nsM_lit, nsV_lit, Try.f12, go_sem, ↓reduceIte, Nat.reduceAdd, Nat.reduceSub, Nat.reduceMul, Nat.reduceEqDiff, Nat.reduceLT, Nat.reduceLeDiff, Int.reduceToNat, Int.reduceLE, Int.reduceLT, Int.reduceEq, Int.reduceNeg, reduceCtorEq]
  refine loop_ofH { i : Nat // i ≤ m ∧ ∀ j, j < i → (fun i => decide ((M i : Int) ≤ long)) j = true } (fun i => [(7, .int .i64 (i.1 : Int)), (2, .int .i64 long), (1, .int .i64 most), (0, .row m 1 (nestF 0 1 A M V))]) (fun h _ => h) (fun i => m - i.1) (fun _ => ⟨rfl, rfl⟩) ⟨0, by omega, by omega⟩ (by (apply sub_of <;> simp only [go_sem, ↓reduceIte, Nat.reduceAdd, Nat.reduceSub, Nat.reduceMul, Nat.reduceEqDiff, Nat.reduceLT, Nat.reduceLeDiff, Int.reduceToNat, Int.reduceLE, Int.reduceLT, Int.reduceEq, Int.reduceNeg, reduceCtorEq] <;> (try simp [catF]) <;> (try exact fun j _ => Bd_nth (by simp [BdL, Bd]) j) <;> (try exact bd_setL (by simp [bdAs, BdL, Bd])) <;> (try exact nestF_bd _ _ _ _ _ _ _ _ _)) <;> ((repeat' refine And.intro ?_ ?_) <;> first | trivial | rfl | exact fun _ _ _ _ => trivial | exact nestF_bd _ _ _ _ _ _ _ _ _ | exact fun i hi => nestF_bd _ _ _ _ _ _ _ _ _ i 0 hi Nat.zero_lt_one)) ?_
  rintro ⟨i, hi, h3⟩
  simp only [nestF_eq, nestR_lit, nsM_lit, nsV_lit, Try.f12, go_sem, ↓reduceIte, Nat.reduceAdd, Nat.reduceSub, Nat.reduceMul, Nat.reduceEqDiff, Nat.reduceLT, Nat.reduceLeDiff, Int.reduceToNat, Int.reduceLE, Int.reduceLT, Int.reduceEq, Int.reduceNeg, reduceCtorEq]
  refine ⟨fun e1 => ⟨fun e2 => ⟨⟨by omega, by simpa using e1⟩, fun e3 => ?_, fun e3 => ?_⟩, fun e2 => ?_⟩, fun e1 => ?_⟩
  · simp only [decide_eq_true_eq] at e1 e3
    rw [lgB, allU_false (i := i) (by omega) (by simp; omega)]; simp
  · simp only [decide_eq_true_eq] at e1 e2
    simp only [decide_eq_false_iff_not] at e3
    have im : i < m := by omega
    refine ⟨⟨i + 1, by omega, below h3 (by simp; omega)⟩, by simp only []; omega, ?_⟩
    apply sub_of <;> simp only [wrap_s (show i < 1001 by omega) (by omega), go_sem, ↓reduceIte, Nat.reduceAdd, Nat.reduceSub, Nat.reduceMul, Nat.reduceEqDiff, Nat.reduceLT, Nat.reduceLeDiff, Int.reduceToNat, Int.reduceLE, Int.reduceLT, Int.reduceEq, Int.reduceNeg, reduceCtorEq] <;> ((repeat' refine And.intro ?_ ?_) <;> first | trivial | rfl | exact fun _ _ _ _ => trivial | exact nestF_bd _ _ _ _ _ _ _ _ _ | exact fun i hi => nestF_bd _ _ _ _ _ _ _ _ _ i 0 hi Nat.zero_lt_one)
  · simp only [decide_eq_true_eq] at e1
    simp only [decide_eq_false_iff_not] at e2
    rw [lgB, decide_eq_false (p := (m : Int) ≤ most) (by omega), decide_eq_true (by omega)]; rfl
  · simp only [decide_eq_false_iff_not] at e1
    obtain rfl : i = m := by omega
    rw [lgB, allU_true h3]
    by_cases h : (i : Int) ≤ most
    · rw [decide_eq_true h, decide_eq_false (by omega)]; rfl
    · rw [decide_eq_false h, decide_eq_true (by omega)]; rfl
def mkB (n : Nat) (s : Nat → Int) (k : Nat) (j : Nat → Int) (m : Nat) (M : Nat → Nat) (V : Nat → Nat → Int) : Bool :=
  decide (n ≤ 40) && decide (k ≤ 8) && decide (m = n) && allU (fun i => in3 (s i) 0 255) n && allU (fun i => in3 (j i) 0 255) k && allU (fun i => decide (M i = k) && allU (fun e => in3 (V i e) 0 10000) (M i)) m
def marksRBase : BaseF := fun args => match args with
  | [.agg [.row n sz_s f_s, .row k sz_j f_j, .row m sz_A f_A]] => some ((sz_s = 1 ∧ IntR n 1 f_s) ∧ (sz_j = 1 ∧ IntR k 1 f_j) ∧ (sz_A = 1 ∧ NestR m 1 0 1 f_A) ∧ (n ≤ 1000000 ∧ k ≤ 1000000 ∧ m ≤ 1000000), .bool (mkB n (fun i => (ivf f_s) i 0) k (fun i => (ivf f_j) i 0) m (nsM 0 f_A) (fun i e => (nsV 0 f_A) i e 0)))
  | _ => none
theorem marksR_eq (n : Nat) (sz_s : Nat) (f_s : Nat → Nat → SV) (k : Nat) (sz_j : Nat) (f_j : Nat → Nat → SV) (m : Nat) (sz_A : Nat) (f_A : Nat → Nat → SV) : marksRBase [.agg [.row n sz_s f_s, .row k sz_j f_j, .row m sz_A f_A]] = some ((sz_s = 1 ∧ IntR n 1 f_s) ∧ (sz_j = 1 ∧ IntR k 1 f_j) ∧ (sz_A = 1 ∧ NestR m 1 0 1 f_A) ∧ (n ≤ 1000000 ∧ k ≤ 1000000 ∧ m ≤ 1000000), .bool (mkB n (fun i => (ivf f_s) i 0) k (fun i => (ivf f_j) i 0) m (nsM 0 f_A) (fun i e => (nsV 0 f_A) i e 0))) := rfl
theorem marksR_base : Base Try.prog 29 marksRBase := by
  intro args p v hq hp
  unfold marksRBase at hq
  split at hq
  rotate_left
  · cases hq
  rename_i n sz_s f_s k sz_j f_j m sz_A f_A
  cases hq
  obtain ⟨⟨rfl, i_s⟩, ⟨rfl, i_j⟩, ⟨rfl, i_A⟩, pre⟩ := hp
  refine base_of (C := cx [] [] [(51, inBase), (57, clubRBase)] [(29, 6, p29_6)] none) (cx_ok trivial ⟨in_base, clubR_base, trivial⟩) rfl (g := 29) (fn := Try.f29)
    (args' := [.agg [.row n 1 (rowF .i64 (ivf f_s)), .row k 1 (rowF .i64 (ivf f_j)), .row m 1 (nestF 0 1 (nsA f_A) (nsM 0 f_A) (nsV 0 f_A))]]) (fn_29) rfl 1000 (by
    simp only [BdL, Bd, and_self, and_true, true_and]
    exact ⟨(fun i j hi hj => by rw [i_s i j hi hj]; trivial), (fun i j hi hj => by rw [i_j i j hi hj]; trivial), (fun i j hi hj => nest_bd i_A i j hi hj)⟩) ⟨SameD.agg ⟨SameD.int i_s, SameD.int i_j, SameD.nest i_A, trivial⟩, trivial⟩ ?_
  generalize ivf f_s = s at *
  generalize ivf f_j = j at *
  generalize nsA f_A = A at *
  generalize nsM 0 f_A = M at *
  generalize nsV 0 f_A = V at *
  simp only [rowF_eq]
  simp only [in_eq, clubR_eq, p29_6, nestF_eq, nestR_lit, nsM_lit, nsV_lit, Try.f29, go_sem, ↓reduceIte, Nat.reduceAdd, Nat.reduceSub, Nat.reduceMul, Nat.reduceEqDiff, Nat.reduceLT, Nat.reduceLeDiff, Int.reduceToNat, Int.reduceLE, Int.reduceLT, Int.reduceEq, Int.reduceNeg, reduceCtorEq]
  obtain ⟨p1, p2, p3⟩ := pre
  refine ⟨fun c1 => ?_, fun c1 => ⟨fun c2 => ?_, fun c2 => ⟨p1, fun c3 => ?_, fun c3 => ⟨p2, fun c4 => ?_, fun c4 => ⟨fun c5 => ?_, fun c5 => ?_⟩⟩⟩⟩⟩
  · simp only [decide_eq_true_eq] at c1
    rw [mkB, decide_eq_false (by omega)]; simp
  · simp only [decide_eq_true_eq] at c2
    rw [mkB, decide_eq_false (p := k ≤ 8) (by omega)]; simp
  · simp only [Bool.not_eq_true'] at c3
    rw [mkB, c3]; simp
  · simp only [Bool.not_eq_true'] at c4
    rw [mkB, c4]; simp
  · simp only [Bool.not_eq_true', decide_eq_false_iff_not] at c5
    rw [mkB, decide_eq_false (p := m = n) (by omega)]; simp
  simp only [decide_eq_false_iff_not] at c1 c2
  simp only [Bool.not_eq_false', decide_eq_true_eq] at c3 c4 c5
  obtain rfl : m = n := by omega
  have hmk : mkB m (fun i => s i 0) k (fun i => j i 0) m M (fun i e => V i e 0) = allU (fun i => decide (M i = k) && allU (fun e => in3 (V i e 0) 0 10000) (M i)) m := by
    rw [mkB, c3, c4, decide_eq_true (show m ≤ 40 by omega), decide_eq_true (show k ≤ 8 by omega), decide_eq_true (show m = m from rfl)]; simp
  rw [hmk]
  refine loop_ofH { i : Nat // i ≤ m ∧ ∀ q, q < i → (fun i => decide (M i = k) && allU (fun e => in3 (V i e 0) 0 10000) (M i)) q = true } (fun i => [(3, .int .i64 (i.1 : Int)), (1, .ptr 0 0)]) (fun h _ => h) (fun i => m - i.1) (fun _ => ⟨rfl, rfl⟩) ⟨0, by omega, by omega⟩ (by (apply sub_of <;> simp only [go_sem, ↓reduceIte, Nat.reduceAdd, Nat.reduceSub, Nat.reduceMul, Nat.reduceEqDiff, Nat.reduceLT, Nat.reduceLeDiff, Int.reduceToNat, Int.reduceLE, Int.reduceLT, Int.reduceEq, Int.reduceNeg, reduceCtorEq] <;> (try simp [catF]) <;> (try exact fun j _ => Bd_nth (by simp [BdL, Bd]) j) <;> (try exact bd_setL (by simp [bdAs, BdL, Bd])) <;> (try exact nestF_bd _ _ _ _ _ _ _ _ _)) <;> ((repeat' refine And.intro ?_ ?_) <;> first | trivial | rfl | exact fun _ _ _ _ => trivial | exact nestF_bd _ _ _ _ _ _ _ _ _ | exact fun i hi => nestF_bd _ _ _ _ _ _ _ _ _ i 0 hi Nat.zero_lt_one)) ?_
  rintro ⟨i, hi, h3⟩
  simp only [in_eq, clubR_eq, p29_6, nestF_eq, nestR_lit, nsM_lit, nsV_lit, Try.f29, go_sem, ↓reduceIte, Nat.reduceAdd, Nat.reduceSub, Nat.reduceMul, Nat.reduceEqDiff, Nat.reduceLT, Nat.reduceLeDiff, Int.reduceToNat, Int.reduceLE, Int.reduceLT, Int.reduceEq, Int.reduceNeg, reduceCtorEq]
  refine ⟨fun e1 => ⟨⟨by kernel_rfl, by kernel_rfl⟩, ⟨by omega, by simpa using e1⟩, fun e2 => ?_, fun e2 => ?_⟩, fun e1 => ?_⟩
  rotate_right
  · simp only [decide_eq_false_iff_not] at e1
    obtain rfl : i = m := by omega
    rw [allU_true h3]
  · simp only [decide_eq_true_eq] at e1
    simp only [Bool.not_eq_true', decide_eq_false_iff_not] at e2
    rw [allU_false (i := i) (by omega) (by rw [decide_eq_false (by omega)]; rfl)]
  · simp only [decide_eq_true_eq] at e1
    simp only [Bool.not_eq_false', decide_eq_true_eq] at e2
    have im : i < m := by omega
    refine loop_ofH { e : Nat // e ≤ M i ∧ ∀ q, q < e → (fun e => in3 (V i e 0) 0 10000) q = true } (fun e => [(4, .int .i64 (e.1 : Int)), (3, .int .i64 (i : Int)), (1, .ptr 0 0)]) (fun h _ => h) (fun e => M i - e.1) (fun _ => ⟨rfl, rfl⟩) ⟨0, by omega, by omega⟩ (by (apply sub_of <;> simp only [go_sem, ↓reduceIte, Nat.reduceAdd, Nat.reduceSub, Nat.reduceMul, Nat.reduceEqDiff, Nat.reduceLT, Nat.reduceLeDiff, Int.reduceToNat, Int.reduceLE, Int.reduceLT, Int.reduceEq, Int.reduceNeg, reduceCtorEq] <;> (try simp [catF]) <;> (try exact fun j _ => Bd_nth (by simp [BdL, Bd]) j) <;> (try exact bd_setL (by simp [bdAs, BdL, Bd])) <;> (try exact nestF_bd _ _ _ _ _ _ _ _ _)) <;> ((repeat' refine And.intro ?_ ?_) <;> first | trivial | rfl | exact fun _ _ _ _ => trivial | exact nestF_bd _ _ _ _ _ _ _ _ _ | exact fun i hi => nestF_bd _ _ _ _ _ _ _ _ _ i 0 hi Nat.zero_lt_one)) ?_
    rintro ⟨e, he, h4⟩
    simp only [in_eq, clubR_eq, p29_6, nestF_eq, nestR_lit, nsM_lit, nsV_lit, Try.f29, go_sem, ↓reduceIte, Nat.reduceAdd, Nat.reduceSub, Nat.reduceMul, Nat.reduceEqDiff, Nat.reduceLT, Nat.reduceLeDiff, Int.reduceToNat, Int.reduceLE, Int.reduceLT, Int.reduceEq, Int.reduceNeg, reduceCtorEq]
    refine ⟨⟨by omega, by omega⟩, fun e3 => ⟨⟨by omega, by omega⟩, ⟨by omega, by simpa using e3⟩, fun e4 => ?_, fun e4 => ?_⟩, fun e3 => ?_⟩
    · simp only [decide_eq_true_eq] at e3
      simp only [Bool.not_eq_true'] at e4
      rw [allU_false im (by rw [allU_false (i := e) (by omega) e4]; simp)]
    · simp only [decide_eq_true_eq] at e3
      have ek : e < M i := by omega
      refine ⟨⟨e + 1, by omega, below h4 (by simpa using e4)⟩, by simp only []; omega, ?_⟩
      apply sub_of <;> simp only [wrap_s ek (show M i ≤ 1000000 by omega), go_sem, ↓reduceIte, Nat.reduceAdd, Nat.reduceSub, Nat.reduceMul, Nat.reduceEqDiff, Nat.reduceLT, Nat.reduceLeDiff, Int.reduceToNat, Int.reduceLE, Int.reduceLT, Int.reduceEq, Int.reduceNeg, reduceCtorEq] <;> ((repeat' refine And.intro ?_ ?_) <;> first | trivial | rfl | exact fun _ _ _ _ => trivial | exact nestF_bd _ _ _ _ _ _ _ _ _ | exact fun i hi => nestF_bd _ _ _ _ _ _ _ _ _ i 0 hi Nat.zero_lt_one)
    · simp only [decide_eq_false_iff_not] at e3
      obtain rfl : e = M i := by omega
      refine ⟨⟨i + 1, by omega, below h3 (by rw [allU_true h4, decide_eq_true (by omega)]; rfl)⟩, by simp only []; omega, ?_⟩
      apply sub_of <;> simp only [wrap_s im p1, go_sem, ↓reduceIte, Nat.reduceAdd, Nat.reduceSub, Nat.reduceMul, Nat.reduceEqDiff, Nat.reduceLT, Nat.reduceLeDiff, Int.reduceToNat, Int.reduceLE, Int.reduceLT, Int.reduceEq, Int.reduceNeg, reduceCtorEq] <;> ((repeat' refine And.intro ?_ ?_) <;> first | trivial | rfl | exact fun _ _ _ _ => trivial | exact nestF_bd _ _ _ _ _ _ _ _ _ | exact fun i hi => nestF_bd _ _ _ _ _ _ _ _ _ i 0 hi Nat.zero_lt_one)
def areMarksBase : BaseF := fun args => match args with
  | [.agg [.row n sz_s f_s, .row k sz_j f_j, .row m sz_A f_A]] => some ((sz_s = 1 ∧ IntR n 1 f_s) ∧ (sz_j = 1 ∧ IntR k 1 f_j) ∧ (sz_A = 1 ∧ NestR m 1 0 1 f_A) ∧ (n ≤ 1000000 ∧ k ≤ 1000000 ∧ m ≤ 1000000), .bool (mkB n (fun i => (ivf f_s) i 0) k (fun i => (ivf f_j) i 0) m (nsM 0 f_A) (fun i e => (nsV 0 f_A) i e 0)))
  | _ => none
theorem areMarks_eq (n : Nat) (sz_s : Nat) (f_s : Nat → Nat → SV) (k : Nat) (sz_j : Nat) (f_j : Nat → Nat → SV) (m : Nat) (sz_A : Nat) (f_A : Nat → Nat → SV) : areMarksBase [.agg [.row n sz_s f_s, .row k sz_j f_j, .row m sz_A f_A]] = some ((sz_s = 1 ∧ IntR n 1 f_s) ∧ (sz_j = 1 ∧ IntR k 1 f_j) ∧ (sz_A = 1 ∧ NestR m 1 0 1 f_A) ∧ (n ≤ 1000000 ∧ k ≤ 1000000 ∧ m ≤ 1000000), .bool (mkB n (fun i => (ivf f_s) i 0) k (fun i => (ivf f_j) i 0) m (nsM 0 f_A) (fun i e => (nsV 0 f_A) i e 0))) := rfl
theorem areMarks_base : Base Try.prog 59 areMarksBase := by
  intro args p v hq hp
  unfold areMarksBase at hq
  split at hq
  rotate_left
  · cases hq
  rename_i n sz_s f_s k sz_j f_j m sz_A f_A
  cases hq
  obtain ⟨⟨rfl, i_s⟩, ⟨rfl, i_j⟩, ⟨rfl, i_A⟩, pre⟩ := hp
  refine base_of (C := cx [] [] [(42, hasIntBase), (64, areClubsBase)] [] none) (cx_ok trivial ⟨hasInt_base, areClubs_base, trivial⟩) rfl (g := 59) (fn := Try.f59)
    (args' := [.agg [.row n 1 (rowF .i64 (ivf f_s)), .row k 1 (rowF .i64 (ivf f_j)), .row m 1 (nestF 0 1 (nsA f_A) (nsM 0 f_A) (nsV 0 f_A))]]) (fn_59) rfl 1000 (by
    simp only [BdL, Bd, and_self, and_true, true_and]
    exact ⟨(fun i j hi hj => by rw [i_s i j hi hj]; trivial), (fun i j hi hj => by rw [i_j i j hi hj]; trivial), (fun i j hi hj => nest_bd i_A i j hi hj)⟩) ⟨SameD.agg ⟨SameD.int i_s, SameD.int i_j, SameD.nest i_A, trivial⟩, trivial⟩ ?_
  generalize ivf f_s = s at *
  generalize ivf f_j = j at *
  generalize nsA f_A = A at *
  generalize nsM 0 f_A = M at *
  generalize nsV 0 f_A = V at *
  simp only [rowF_eq]
  simp only [hasInt_eq, areClubs_eq, nestF_eq, nestR_lit, nsM_lit, nsV_lit, Try.f45, Try.f72, Try.f76, Try.f59, go_sem, ↓reduceIte, Nat.reduceAdd, Nat.reduceSub, Nat.reduceMul, Nat.reduceEqDiff, Nat.reduceLT, Nat.reduceLeDiff, Int.reduceToNat, Int.reduceLE, Int.reduceLT, Int.reduceEq, Int.reduceNeg, reduceCtorEq]
  obtain ⟨p1, p2, p3⟩ := pre
  refine ⟨fun c1 => ⟨fun c2 => ⟨fun c3 => ⟨p1, fun c4 => ⟨p2, fun c5 => ?_, fun c5 => ?_⟩, fun c4 => ?_⟩, fun c3 => ?_⟩, fun c2 => ?_⟩, fun c1 => ?_⟩
  rotate_left
  · rw [mkB, c5]; simp
  · rw [mkB, c4]; simp
  · simp only [decide_eq_false_iff_not] at c3
    rw [mkB, decide_eq_false (p := m = n) (by omega)]; simp
  · simp only [decide_eq_false_iff_not] at c2
    rw [mkB, decide_eq_false (p := k ≤ 8) (by omega)]; simp
  · simp only [decide_eq_false_iff_not] at c1
    rw [mkB, decide_eq_false (by omega)]; simp
  simp only [decide_eq_true_eq] at c1 c2 c3
  obtain rfl : m = n := by omega
  have hmk : mkB m (fun i => s i 0) k (fun i => j i 0) m M (fun i e => V i e 0) = allU (fun i => decide (M i = k) && allU (fun e => in3 (V i e 0) 0 10000) (M i)) m := by
    rw [mkB, c4, c5, decide_eq_true (show m ≤ 40 by omega), decide_eq_true (show k ≤ 8 by omega), decide_eq_true (show m = m from rfl)]; simp
  rw [hmk]
  refine loop_ofH { i : Nat // i ≤ m ∧ ∀ q, q < i → (fun i => decide (M i = k) && allU (fun e => in3 (V i e 0) 0 10000) (M i)) q = true } (fun i => [(8, .int .i64 (i.1 : Int)), (7, .int .i64 (m : Int)), (1, .func 76 [.ptr 0 0, .ptr 1 0]), (0, .row m 1 (nestF 0 1 A M V))]) (fun h _ => h) (fun i => m - i.1) (fun _ => ⟨rfl, rfl⟩) ⟨0, by omega, by omega⟩ (by (apply sub_of <;> simp only [go_sem, ↓reduceIte, Nat.reduceAdd, Nat.reduceSub, Nat.reduceMul, Nat.reduceEqDiff, Nat.reduceLT, Nat.reduceLeDiff, Int.reduceToNat, Int.reduceLE, Int.reduceLT, Int.reduceEq, Int.reduceNeg, reduceCtorEq] <;> (try simp [catF]) <;> (try exact fun j _ => Bd_nth (by simp [BdL, Bd]) j) <;> (try exact bd_setL (by simp [bdAs, BdL, Bd])) <;> (try exact nestF_bd _ _ _ _ _ _ _ _ _)) <;> ((repeat' refine And.intro ?_ ?_) <;> first | trivial | rfl | exact fun _ _ _ _ => trivial | exact nestF_bd _ _ _ _ _ _ _ _ _ | exact fun i hi => nestF_bd _ _ _ _ _ _ _ _ _ i 0 hi Nat.zero_lt_one)) ?_
  rintro ⟨i, hi, h3⟩
  simp only [hasInt_eq, areClubs_eq, nestF_eq, nestR_lit, nsM_lit, nsV_lit, Try.f45, Try.f72, Try.f76, Try.f59, go_sem, ↓reduceIte, Nat.reduceAdd, Nat.reduceSub, Nat.reduceMul, Nat.reduceEqDiff, Nat.reduceLT, Nat.reduceLeDiff, Int.reduceToNat, Int.reduceLE, Int.reduceLT, Int.reduceEq, Int.reduceNeg, reduceCtorEq]
  have h0 : (0 : Int) ≤ (i : Int) := by omega
  refine ⟨fun e1 => ⟨⟨by omega, by simpa using e1⟩, fun e2 => ?_, fun e2 => ⟨⟨by simp, ?_⟩, fun e3 => ?_, fun e3 => ?_⟩⟩, fun e1 => ?_⟩
  · simp only [decide_eq_true_eq] at e1
    simp only [Bool.not_eq_true', decide_eq_false_iff_not] at e2
    rw [allU_false (i := i) (by omega) (by rw [decide_eq_false (by omega)]; rfl)]; simp
  · simp only [Bool.not_eq_false', decide_eq_true_eq] at e2
    omega
  · simp only [decide_eq_true_eq] at e1
    simp only [limG, Bool.not_eq_true'] at e3
    rw [allU_false (i := i) (by omega) (by rw [e3]; simp)]; simp
  · simp only [decide_eq_true_eq] at e1
    simp only [Bool.not_eq_false', decide_eq_true_eq] at e2
    simp only [limG, Bool.not_eq_false'] at e3
    have im : i < m := by omega
    refine ⟨⟨i + 1, by omega, below h3 (by rw [e3, decide_eq_true (by omega)]; rfl)⟩, by simp only []; omega, ?_⟩
    apply sub_of <;> simp only [wrap_s im p1, go_sem, ↓reduceIte, Nat.reduceAdd, Nat.reduceSub, Nat.reduceMul, Nat.reduceEqDiff, Nat.reduceLT, Nat.reduceLeDiff, Int.reduceToNat, Int.reduceLE, Int.reduceLT, Int.reduceEq, Int.reduceNeg, reduceCtorEq] <;> ((repeat' refine And.intro ?_ ?_) <;> first | trivial | rfl | exact fun _ _ _ _ => trivial | exact nestF_bd _ _ _ _ _ _ _ _ _ | exact fun i hi => nestF_bd _ _ _ _ _ _ _ _ _ i 0 hi Nat.zero_lt_one)
  · simp only [decide_eq_false_iff_not] at e1
    obtain rfl : i = m := by omega
    rw [allU_true h3]
end Go.Eng
end

/- panel: ratios. -/
section
namespace Go.Eng
open Go Go.RowKit Go.Proofs
set_option maxRecDepth 100000
set_option maxHeartbeats 4000000
attribute [local irreducible] OwnT DefS
def lowN (p q : Int) : Int := p.tdiv (Int.gcd p q : Int)
def lowD (p q : Int) : Int := q.tdiv (Int.gcd p q : Int)
theorem gcd_step (a b : Int) : Int.gcd b (a.tmod b) = Int.gcd a b := by
  simp only [Int.gcd, Int.natAbs_tmod]
  rw [Nat.gcd_comm b.natAbs, ← Nat.gcd_rec, Nat.gcd_comm]
def big (x : Int) : Prop := -1000000000000000 ≤ x ∧ x ≤ 1000000000000000
theorem tmod_le (a : Int) {b : Int} (h : b ≠ 0) : (a.tmod b).natAbs < b.natAbs := by
  rw [Int.natAbs_tmod]; exact Nat.mod_lt _ (by omega)
theorem tmod_big {a b : Int} (h : b ≠ 0) (hb : big b) : big (a.tmod b) := by
  have := tmod_le a h
  obtain ⟨h1, h2⟩ := hb
  exact ⟨by omega, by omega⟩
theorem tdiv_big {a b : Int} (ha : big a) : big (a.tdiv b) := by
  have h4 : (a.tdiv b).natAbs = a.natAbs / b.natAbs := Int.natAbs_tdiv a b
  have h3 : a.natAbs / b.natAbs ≤ a.natAbs := Nat.div_le_self _ _
  obtain ⟨h1, h2⟩ := ha
  exact ⟨by omega, by omega⟩
theorem big_wrap {a : Int} (h : big a) : IntKind.i64.wrap a = a := wrap_id (by have := h.1; omega) (by have := h.2; omega)
theorem max_gcd {a b p q : Int} (h : Int.gcd a b = Int.gcd p q) (hb : b = 0) (ha : big a) : max a (IntKind.i64.wrap (0 - a)) = (Int.gcd p q : Int) := by
  obtain ⟨h1, h2⟩ := ha
  rw [wrap_id (by omega) (by omega), ← h, hb, Int.gcd_zero_right]
  omega
abbrev GcS (p q : Int) := { a : Int × Int // Int.gcd a.1 a.2 = Int.gcd p q ∧ big a.1 ∧ big a.2 }
def gcdRBase : BaseF := fun args => match args with
  | [.int .i64 p, .int .i64 q] => some ((big p ∧ big q), .int .i64 (Int.gcd p q : Int))
  | _ => none
theorem gcdR_eq (p : Int) (q : Int) : gcdRBase [.int .i64 p, .int .i64 q] = some ((big p ∧ big q), .int .i64 (Int.gcd p q : Int)) := rfl
theorem gcdR_base : Base Try.prog 80 gcdRBase := by
  intro args p v hq hp
  unfold gcdRBase at hq
  split at hq
  rotate_left
  · cases hq
  rename_i p q
  cases hq
  obtain pre := hp
  refine base_of (C := cx [] [] [] [(80, 2, p80_2)] none) (cx_ok trivial trivial) rfl (g := 80) (fn := Try.f80)
    (args' := [.int .i64 p, .int .i64 q]) (fn_80) rfl 1000 (by simp only [BdL, Bd, and_self, and_true, true_and]) ⟨SameD.rfl' _, SameD.rfl' _, trivial⟩ ?_
  simp only [p80_2, Try.f80, go_sem, ↓reduceIte, Nat.reduceAdd, Nat.reduceSub, Nat.reduceMul, Nat.reduceEqDiff, Nat.reduceLT, Nat.reduceLeDiff, Int.reduceToNat, Int.reduceLE, Int.reduceLT, Int.reduceEq, Int.reduceNeg, reduceCtorEq]
  obtain ⟨p1, p2⟩ := hp
  refine loop_ofH (GcS p q) (fun a => [(1, .int .i64 a.1.2), (0, .int .i64 a.1.1)]) (fun h _ => h) (fun a => a.1.2.natAbs) (fun _ => ⟨rfl, rfl⟩) ⟨(p, q), rfl, p1, p2⟩ (by (apply sub_of <;> simp only [go_sem, ↓reduceIte, Nat.reduceAdd, Nat.reduceSub, Nat.reduceMul, Nat.reduceEqDiff, Nat.reduceLT, Nat.reduceLeDiff, Int.reduceToNat, Int.reduceLE, Int.reduceLT, Int.reduceEq, Int.reduceNeg, reduceCtorEq] <;> (try simp [catF]) <;> (try exact fun j _ => Bd_nth (by simp [BdL, Bd]) j) <;> (try exact bd_setL (by simp [bdAs, BdL, Bd])) <;> (try exact nestF_bd _ _ _ _ _ _ _ _ _))) ?_
  rintro ⟨⟨a, b⟩, hg, ha, hb⟩
  simp only [p80_2, Try.f80, go_sem, ↓reduceIte, Nat.reduceAdd, Nat.reduceSub, Nat.reduceMul, Nat.reduceEqDiff, Nat.reduceLT, Nat.reduceLeDiff, Int.reduceToNat, Int.reduceLE, Int.reduceLT, Int.reduceEq, Int.reduceNeg, reduceCtorEq]
  refine ⟨fun e1 => ⟨⟨by kernel_rfl, by kernel_rfl⟩, ?_⟩, fun e1 => ?_⟩
  · simp only [Bool.not_eq_true', decide_eq_false_iff_not] at e1
    refine ⟨e1, ⟨(b, a.tmod b), by rw [← hg]; exact gcd_step a b, hb, tmod_big e1 hb⟩, tmod_le a e1, ?_⟩
    apply sub_of <;> simp only [go_sem, ↓reduceIte, Nat.reduceAdd, Nat.reduceSub, Nat.reduceMul, Nat.reduceEqDiff, Nat.reduceLT, Nat.reduceLeDiff, Int.reduceToNat, Int.reduceLE, Int.reduceLT, Int.reduceEq, Int.reduceNeg, reduceCtorEq] <;> first | trivial | rfl
  · simp only [Bool.not_eq_false', decide_eq_true_eq] at e1
    rw [max_gcd hg e1 ha]
def lowestBase : BaseF := fun args => match args with
  | [.agg [.int .i64 p, .int .i64 q]] => some ((big p ∧ big q ∧ 0 < q), .agg [.int .i64 (lowN p q), .int .i64 (lowD p q)])
  | _ => none
theorem lowest_eq (p : Int) (q : Int) : lowestBase [.agg [.int .i64 p, .int .i64 q]] = some ((big p ∧ big q ∧ 0 < q), .agg [.int .i64 (lowN p q), .int .i64 (lowD p q)]) := rfl
theorem lowest_base : Base Try.prog 86 lowestBase := by
  intro args p v hq hp
  unfold lowestBase at hq
  split at hq
  rotate_left
  · cases hq
  rename_i p q
  cases hq
  obtain pre := hp
  refine base_of (C := cx [] [] [] [(86, 1, p86_1), (86, 3, p86_3), (86, 5, p86_5)] none) (cx_ok trivial trivial) rfl (g := 86) (fn := Try.f86)
    (args' := [.agg [.int .i64 p, .int .i64 q]]) (fn_86) rfl 1000 (by simp only [BdL, Bd, and_self, and_true, true_and]) ⟨SameD.agg ⟨SameD.rfl' _, SameD.rfl' _, trivial⟩, trivial⟩ ?_
  simp only [p86_1, p86_3, p86_5, Try.f86, go_sem, ↓reduceIte, Nat.reduceAdd, Nat.reduceSub, Nat.reduceMul, Nat.reduceEqDiff, Nat.reduceLT, Nat.reduceLeDiff, Int.reduceToNat, Int.reduceLE, Int.reduceLT, Int.reduceEq, Int.reduceNeg, reduceCtorEq]
  obtain ⟨p1, p2, p3⟩ := hp
  refine ⟨⟨by kernel_rfl, by kernel_rfl⟩, ?_⟩
  refine loop_ofH (GcS p q) (fun a => [(4, .int .i64 a.1.2), (3, .int .i64 a.1.1), (2, .ptr 1 0), (1, .ptr 0 0)]) (fun h _ => h) (fun a => a.1.2.natAbs) (fun _ => ⟨rfl, rfl⟩) ⟨(p, q), rfl, p1, p2⟩ (by (apply sub_of <;> simp only [go_sem, ↓reduceIte, Nat.reduceAdd, Nat.reduceSub, Nat.reduceMul, Nat.reduceEqDiff, Nat.reduceLT, Nat.reduceLeDiff, Int.reduceToNat, Int.reduceLE, Int.reduceLT, Int.reduceEq, Int.reduceNeg, reduceCtorEq] <;> (try simp [catF]) <;> (try exact fun j _ => Bd_nth (by simp [BdL, Bd]) j) <;> (try exact bd_setL (by simp [bdAs, BdL, Bd])) <;> (try exact nestF_bd _ _ _ _ _ _ _ _ _))) ?_
  rintro ⟨⟨a, b⟩, hg, ha, hb⟩
  simp only [p86_1, p86_3, p86_5, Try.f86, go_sem, ↓reduceIte, Nat.reduceAdd, Nat.reduceSub, Nat.reduceMul, Nat.reduceEqDiff, Nat.reduceLT, Nat.reduceLeDiff, Int.reduceToNat, Int.reduceLE, Int.reduceLT, Int.reduceEq, Int.reduceNeg, reduceCtorEq]
  refine ⟨fun e1 => ⟨⟨by kernel_rfl, by kernel_rfl⟩, ?_⟩, fun e1 => ⟨⟨by kernel_rfl, by kernel_rfl⟩, ?_⟩⟩
  · simp only [Bool.not_eq_true', decide_eq_false_iff_not] at e1
    refine ⟨e1, ⟨(b, a.tmod b), by rw [← hg]; exact gcd_step a b, hb, tmod_big e1 hb⟩, tmod_le a e1, ?_⟩
    apply sub_of <;> simp only [go_sem, ↓reduceIte, Nat.reduceAdd, Nat.reduceSub, Nat.reduceMul, Nat.reduceEqDiff, Nat.reduceLT, Nat.reduceLeDiff, Int.reduceToNat, Int.reduceLE, Int.reduceLT, Int.reduceEq, Int.reduceNeg, reduceCtorEq] <;> first | trivial | rfl
  · simp only [Bool.not_eq_false', decide_eq_true_eq] at e1
    rw [max_gcd hg e1 ha]
    have hg0 : (Int.gcd p q : Int) ≠ 0 := by
      intro h
      have := Int.gcd_eq_zero_iff.1 (Int.ofNat.inj h)
      omega
    refine ⟨hg0, hg0, ?_⟩
    rw [big_wrap (tdiv_big p1), big_wrap (tdiv_big p2)]
    rfl
def plusBase : BaseF := fun args => match args with
  | [.agg [.int .i64 p, .int .i64 q], .agg [.int .i64 r, .int .i64 t]] => some ((big (p * t) ∧ big (r * q) ∧ big (p * t + r * q) ∧ big (q * t) ∧ 0 < q * t), .agg [.int .i64 (lowN (p * t + r * q) (q * t)), .int .i64 (lowD (p * t + r * q) (q * t))])
  | _ => none
theorem plus_eq (p : Int) (q : Int) (r : Int) (t : Int) : plusBase [.agg [.int .i64 p, .int .i64 q], .agg [.int .i64 r, .int .i64 t]] = some ((big (p * t) ∧ big (r * q) ∧ big (p * t + r * q) ∧ big (q * t) ∧ 0 < q * t), .agg [.int .i64 (lowN (p * t + r * q) (q * t)), .int .i64 (lowD (p * t + r * q) (q * t))]) := rfl
theorem plus_base : Base Try.prog 85 plusBase := by
  intro args p v hq hp
  unfold plusBase at hq
  split at hq
  rotate_left
  · cases hq
  rename_i p q r t
  cases hq
  obtain pre := hp
  refine base_of (C := cx [] [] [(86, lowestBase)] [] none) (cx_ok trivial ⟨lowest_base, trivial⟩) rfl (g := 85) (fn := Try.f85)
    (args' := [.agg [.int .i64 p, .int .i64 q], .agg [.int .i64 r, .int .i64 t]]) (fn_85) rfl 1000 (by simp only [BdL, Bd, and_self, and_true, true_and]) ⟨SameD.agg ⟨SameD.rfl' _, SameD.rfl' _, trivial⟩, SameD.agg ⟨SameD.rfl' _, SameD.rfl' _, trivial⟩, trivial⟩ ?_
  simp only [lowest_eq, Try.f85, go_sem, ↓reduceIte, Nat.reduceAdd, Nat.reduceSub, Nat.reduceMul, Nat.reduceEqDiff, Nat.reduceLT, Nat.reduceLeDiff, Int.reduceToNat, Int.reduceLE, Int.reduceLT, Int.reduceEq, Int.reduceNeg, reduceCtorEq]
  obtain ⟨p1, p2, p3, p4, p5⟩ := hp
  rw [big_wrap p1, big_wrap p2, big_wrap p3, big_wrap p4]
  exact ⟨⟨p3, p4, p5⟩, rfl⟩
def lessBase : BaseF := fun args => match args with
  | [.agg [.int .i64 p, .int .i64 q], .agg [.int .i64 r, .int .i64 t]] => some ((big r ∧ big (p * t) ∧ big ((-r) * q) ∧ big (p * t + (-r) * q) ∧ big (q * t) ∧ 0 < q * t), .agg [.int .i64 (lowN (p * t + (-r) * q) (q * t)), .int .i64 (lowD (p * t + (-r) * q) (q * t))])
  | _ => none
theorem less_eq (p : Int) (q : Int) (r : Int) (t : Int) : lessBase [.agg [.int .i64 p, .int .i64 q], .agg [.int .i64 r, .int .i64 t]] = some ((big r ∧ big (p * t) ∧ big ((-r) * q) ∧ big (p * t + (-r) * q) ∧ big (q * t) ∧ 0 < q * t), .agg [.int .i64 (lowN (p * t + (-r) * q) (q * t)), .int .i64 (lowD (p * t + (-r) * q) (q * t))]) := rfl
theorem less_base : Base Try.prog 78 lessBase := by
  intro args p v hq hp
  unfold lessBase at hq
  split at hq
  rotate_left
  · cases hq
  rename_i p q r t
  cases hq
  obtain pre := hp
  refine base_of (C := cx [] [] [(85, plusBase)] [] none) (cx_ok trivial ⟨plus_base, trivial⟩) rfl (g := 78) (fn := Try.f78)
    (args' := [.agg [.int .i64 p, .int .i64 q], .agg [.int .i64 r, .int .i64 t]]) (fn_78) rfl 1000 (by simp only [BdL, Bd, and_self, and_true, true_and]) ⟨SameD.agg ⟨SameD.rfl' _, SameD.rfl' _, trivial⟩, SameD.agg ⟨SameD.rfl' _, SameD.rfl' _, trivial⟩, trivial⟩ ?_
  simp only [plus_eq, Try.f78, go_sem, ↓reduceIte, Nat.reduceAdd, Nat.reduceSub, Nat.reduceMul, Nat.reduceEqDiff, Nat.reduceLT, Nat.reduceLeDiff, Int.reduceToNat, Int.reduceLE, Int.reduceLT, Int.reduceEq, Int.reduceNeg, reduceCtorEq]
  obtain ⟨p0, p1, p2, p3, p4, p5⟩ := hp
  rw [Int.zero_sub, big_wrap (show big (-r) from ⟨by have := p0.2; omega, by have := p0.1; omega⟩)]
  exact ⟨⟨p1, p2, p3, p4, p5⟩, rfl⟩
def ratioBase : BaseF := fun args => match args with
  | [.agg [.int .i64 p, .int .i64 q], .int .i64 t] => some ((big p ∧ big (q * t) ∧ 0 < q * t), .agg [.int .i64 (lowN p (q * t)), .int .i64 (lowD p (q * t))])
  | _ => none
theorem ratio_eq (p : Int) (q : Int) (t : Int) : ratioBase [.agg [.int .i64 p, .int .i64 q], .int .i64 t] = some ((big p ∧ big (q * t) ∧ 0 < q * t), .agg [.int .i64 (lowN p (q * t)), .int .i64 (lowD p (q * t))]) := rfl
theorem ratio_base : Base Try.prog 79 ratioBase := by
  intro args p v hq hp
  unfold ratioBase at hq
  split at hq
  rotate_left
  · cases hq
  rename_i p q t
  cases hq
  obtain pre := hp
  refine base_of (C := cx [] [] [(86, lowestBase)] [] none) (cx_ok trivial ⟨lowest_base, trivial⟩) rfl (g := 79) (fn := Try.f79)
    (args' := [.agg [.int .i64 p, .int .i64 q], .int .i64 t]) (fn_79) rfl 1000 (by simp only [BdL, Bd, and_self, and_true, true_and]) ⟨SameD.agg ⟨SameD.rfl' _, SameD.rfl' _, trivial⟩, SameD.rfl' _, trivial⟩ ?_
  simp only [lowest_eq, Try.f79, go_sem, ↓reduceIte, Nat.reduceAdd, Nat.reduceSub, Nat.reduceMul, Nat.reduceEqDiff, Nat.reduceLT, Nat.reduceLeDiff, Int.reduceToNat, Int.reduceLE, Int.reduceLT, Int.reduceEq, Int.reduceNeg, reduceCtorEq]
  obtain ⟨p1, p4, p5⟩ := hp
  rw [big_wrap p4]
  exact ⟨⟨p1, p4, p5⟩, rfl⟩
end Go.Eng
end

/- panel: ratios in lowest terms. -/
section
namespace Go.Eng
theorem gcd_pos {p q : Int} (h : 0 < q) : 0 < (Int.gcd p q : Int) := by
  have : Int.gcd p q ≠ 0 := fun h2 => by have := (Int.gcd_eq_zero_iff.1 h2).2; omega
  omega
theorem lowN_mul (p q : Int) : lowN p q * (Int.gcd p q : Int) = p := Int.tdiv_mul_cancel (Int.gcd_dvd_left ..)
theorem lowD_mul (p q : Int) : lowD p q * (Int.gcd p q : Int) = q := Int.tdiv_mul_cancel (Int.gcd_dvd_right ..)
theorem lowD_pos {p q : Int} (h : 0 < q) : 0 < lowD p q := by
  have h1 := lowD_mul p q
  have h2 := gcd_pos (p := p) h
  by_cases h3 : 0 < lowD p q
  · exact h3
  · have := Int.mul_le_mul_of_nonneg_right (show lowD p q ≤ 0 by omega) (Int.le_of_lt h2)
    omega
theorem gcd_mul_pos {c : Int} (hc : 0 < c) (p q : Int) : (Int.gcd (c * p) (c * q) : Int) = c * (Int.gcd p q : Int) := by
  rw [Int.gcd_mul_left]
  have : (c.natAbs : Int) = c := by omega
  rw [Int.natCast_mul, this]
theorem lowN_low {c : Int} (hc : 0 < c) (p q : Int) : lowN (c * p) (c * q) = lowN p q := by
  rw [lowN, gcd_mul_pos hc, Int.mul_tdiv_mul_of_pos _ _ hc]; rfl
theorem lowD_low {c : Int} (hc : 0 < c) (p q : Int) : lowD (c * p) (c * q) = lowD p q := by
  rw [lowD, gcd_mul_pos hc, Int.mul_tdiv_mul_of_pos _ _ hc]; rfl
theorem tdiv_le {a b A : Int} (h1 : -A ≤ a) (h2 : a ≤ A) : -A ≤ a.tdiv b ∧ a.tdiv b ≤ A := by
  have h4 : (a.tdiv b).natAbs = a.natAbs / b.natAbs := Int.natAbs_tdiv a b
  have h3 : a.natAbs / b.natAbs ≤ a.natAbs := Nat.div_le_self _ _
  omega
theorem low_join {u v x y t : Int} (hx : 0 < x) (hy : 0 < y) (ht : 0 < t) :
    lowN (lowN u (x * t) * lowD v (y * t) + -lowN v (y * t) * lowD u (x * t)) (lowD u (x * t) * lowD v (y * t)) = lowN (u * y - v * x) (x * y * t)
    ∧ lowD (lowN u (x * t) * lowD v (y * t) + -lowN v (y * t) * lowD u (x * t)) (lowD u (x * t) * lowD v (y * t)) = lowD (u * y - v * x) (x * y * t) := by
  have e1 := lowN_mul u (x * t)
  have e2 := lowD_mul u (x * t)
  have e3 := lowN_mul v (y * t)
  have e4 := lowD_mul v (y * t)
  have g1 := gcd_pos (p := u) (Int.mul_pos hx ht)
  have g2 := gcd_pos (p := v) (Int.mul_pos hy ht)
  revert e1 e2 e3 e4 g1 g2
  generalize lowN u (x * t) = a
  generalize lowD u (x * t) = b
  generalize lowN v (y * t) = c
  generalize lowD v (y * t) = d
  generalize (Int.gcd u (x * t) : Int) = g
  generalize (Int.gcd v (y * t) : Int) = h
  intro e1 e2 e3 e4 g1 g2
  have hG : 0 < g * h := Int.mul_pos g1 g2
  have k1 : (g * h) * (a * d + -c * b) = t * (u * y - v * x) := by
    have : (g * h) * (a * d + -c * b) = (a * g) * (d * h) - (c * h) * (b * g) := by
      rw [Int.mul_add, Int.neg_mul, Int.mul_neg]
      have q1 : g * h * (a * d) = a * g * (d * h) := by ac_rfl
      have q2 : g * h * (c * b) = c * h * (b * g) := by ac_rfl
      rw [q1, q2]; omega
    rw [this, e1, e2, e3, e4, Int.mul_sub]
    have q1 : u * (y * t) = t * (u * y) := by ac_rfl
    have q2 : v * (x * t) = t * (v * x) := by ac_rfl
    rw [q1, q2]
  have k2 : (g * h) * (b * d) = t * (x * y * t) := by
    have : (g * h) * (b * d) = (b * g) * (d * h) := by ac_rfl
    rw [this, e2, e4]
    ac_rfl
  exact ⟨by rw [← lowN_low hG, k1, k2, lowN_low ht], by rw [← lowD_low hG, k1, k2, lowD_low ht]⟩
theorem mulB {a b A B : Int} (h1 : -A ≤ a) (h2 : a ≤ A) (h3 : 0 ≤ b) (h4 : b ≤ B) : -(A * B) ≤ a * b ∧ a * b ≤ A * B := by
  have hA : 0 ≤ A := by omega
  have e1 : a * b ≤ A * b := Int.mul_le_mul_of_nonneg_right h2 h3
  have e2 : -A * b ≤ a * b := Int.mul_le_mul_of_nonneg_right h1 h3
  have e3 : A * b ≤ A * B := Int.mul_le_mul_of_nonneg_left h4 hA
  rw [Int.neg_mul] at e2
  omega
/-- The numbers of a difference of two low ratios are small. -/
theorem low_big {u v : Int} {x y k : Nat} (h1 : -4000000 ≤ u ∧ u ≤ 4000000) (h2 : -4000000 ≤ v ∧ v ≤ 4000000) (hx : 0 < x ∧ x ≤ 40) (hy : 0 < y ∧ y ≤ 40) (hk : 2 ≤ k ∧ k ≤ 8) :
    (big u ∧ big ((x : Int) * ((k : Int) - 1)) ∧ 0 < (x : Int) * ((k : Int) - 1)) ∧ (big v ∧ big ((y : Int) * ((k : Int) - 1)) ∧ 0 < (y : Int) * ((k : Int) - 1)) ∧
    (big (lowN v (y * ((k : Int) - 1))) ∧ big (lowN u (x * ((k : Int) - 1)) * lowD v (y * ((k : Int) - 1))) ∧ big (-lowN v (y * ((k : Int) - 1)) * lowD u (x * ((k : Int) - 1)))
      ∧ big (lowN u (x * ((k : Int) - 1)) * lowD v (y * ((k : Int) - 1)) + -lowN v (y * ((k : Int) - 1)) * lowD u (x * ((k : Int) - 1)))
      ∧ big (lowD u (x * ((k : Int) - 1)) * lowD v (y * ((k : Int) - 1))) ∧ 0 < lowD u (x * ((k : Int) - 1)) * lowD v (y * ((k : Int) - 1))) := by
  have px : 0 < (x : Int) * ((k : Int) - 1) := Int.mul_pos (by omega) (by omega)
  have py : 0 < (y : Int) * ((k : Int) - 1) := Int.mul_pos (by omega) (by omega)
  have mx := mulB (a := (x : Int)) (b := (k : Int) - 1) (A := 40) (B := 7) (by omega) (by omega) (by omega) (by omega)
  have my := mulB (a := (y : Int)) (b := (k : Int) - 1) (A := 40) (B := 7) (by omega) (by omega) (by omega) (by omega)
  have dx := lowD_pos (p := u) px
  have dy := lowD_pos (p := v) py
  have bx := tdiv_le (a := (x : Int) * ((k : Int) - 1)) (b := (Int.gcd u (x * ((k : Int) - 1)) : Int)) mx.1 mx.2
  have by' := tdiv_le (a := (y : Int) * ((k : Int) - 1)) (b := (Int.gcd v (y * ((k : Int) - 1)) : Int)) my.1 my.2
  have bu := tdiv_le (a := u) (b := (Int.gcd u (x * ((k : Int) - 1)) : Int)) (A := 4000000) h1.1 h1.2
  have bv := tdiv_le (a := v) (b := (Int.gcd v (y * ((k : Int) - 1)) : Int)) (A := 4000000) h2.1 h2.2
  change -(40 * 7) ≤ lowD u (x * ((k : Int) - 1)) ∧ lowD u (x * ((k : Int) - 1)) ≤ 40 * 7 at bx
  change -(40 * 7) ≤ lowD v (y * ((k : Int) - 1)) ∧ lowD v (y * ((k : Int) - 1)) ≤ 40 * 7 at by'
  change -4000000 ≤ lowN u (x * ((k : Int) - 1)) ∧ lowN u (x * ((k : Int) - 1)) ≤ 4000000 at bu
  change -4000000 ≤ lowN v (y * ((k : Int) - 1)) ∧ lowN v (y * ((k : Int) - 1)) ≤ 4000000 at bv
  revert dx dy bx by' bu bv
  generalize lowN u (x * ((k : Int) - 1)) = a
  generalize lowD u (x * ((k : Int) - 1)) = b
  generalize lowN v (y * ((k : Int) - 1)) = c
  generalize lowD v (y * ((k : Int) - 1)) = d
  intro dx dy bx by' bu bv
  have m1 := mulB (a := a) (b := d) (A := 4000000) (B := 280) bu.1 bu.2 (by omega) (by omega)
  have m2 := mulB (a := -c) (b := b) (A := 4000000) (B := 280) (by omega) (by omega) (by omega) (by omega)
  have m3 := mulB (a := b) (b := d) (A := 280) (B := 280) (by omega) (by omega) (by omega) (by omega)
  exact ⟨⟨⟨by omega, by omega⟩, ⟨by omega, by omega⟩, px⟩, ⟨⟨by omega, by omega⟩, ⟨by omega, by omega⟩, py⟩, ⟨by omega, by omega⟩, ⟨by omega, by omega⟩, ⟨by omega, by omega⟩, ⟨by omega, by omega⟩, ⟨by omega, by omega⟩, Int.mul_pos dx dy⟩
end Go.Eng
end

/- panel: biases. -/
section
namespace Go.Eng
open Go Go.RowKit Go.Proofs
set_option maxRecDepth 100000
set_option maxHeartbeats 4000000
attribute [local irreducible] OwnT DefS
/-- The sum of the first marks of a row. -/
def rsm (V : Nat → Nat → Int) (i : Nat) : Nat → Int
  | 0 => 0
  | e + 1 => rsm V i e + V i e
/-- The same without those of judge g. -/
def rso (V : Nat → Nat → Int) (g : Nat) (i : Nat) : Nat → Int
  | 0 => 0
  | e + 1 => rso V g i e + if e = g then 0 else V i e
theorem rso_eq (V : Nat → Nat → Int) (g i : Nat) : ∀ e, rsm V i e = rso V g i e + if g < e then V i g else 0
  | 0 => by simp [rsm, rso]
  | e + 1 => by
    simp only [rsm, rso, rso_eq V g i e]
    by_cases h : e = g
    · subst h
      rw [if_neg (by omega), if_pos rfl, if_pos (by omega)]
    · rw [if_neg h]
      by_cases h2 : g < e
      · rw [if_pos h2, if_pos (by omega)]; omega
      · rw [if_neg h2, if_neg (by omega)]; omega
/-- How far the marks of judge g are from all. -/
def offF (V : Nat → Nat → Int) (k g : Nat) (i : Nat) : Int := (k : Int) * V i g - rsm V i k
theorem offF_eq {V : Nat → Nat → Int} {k g i : Nat} (h : g < k) : offF V k g i = ((k : Int) - 1) * V i g - rso V g i k := by
  rw [offF, rso_eq V g i k, if_pos h, Int.sub_mul]; omega
def suF (b : Nat → Bool) (o : Nat → Int) : Nat → Int
  | 0 => 0
  | n + 1 => suF b o n + if b n then o n else 0
def cnF (b : Nat → Bool) : Nat → Nat
  | 0 => 0
  | n + 1 => cnF b n + if b n then 1 else 0
theorem cnF_le (b : Nat → Bool) : ∀ n, cnF b n ≤ n
  | 0 => Nat.le_refl _
  | n + 1 => by have := cnF_le b n; simp only [cnF]; split <;> omega
theorem rsm_bd {V : Nat → Nat → Int} {i k : Nat} (h : ∀ e, e < k → 0 ≤ V i e ∧ V i e ≤ 10000) : ∀ e, e ≤ k → 0 ≤ rsm V i e ∧ rsm V i e ≤ 10000 * e
  | 0, _ => by simp [rsm]
  | e + 1, he => by have := rsm_bd h e (by omega); have := h e (by omega); simp only [rsm]; omega
theorem rso_bd {V : Nat → Nat → Int} {i g k : Nat} (h : ∀ e, e < k → 0 ≤ V i e ∧ V i e ≤ 10000) : ∀ e, e ≤ k → 0 ≤ rso V g i e ∧ rso V g i e ≤ 10000 * e
  | 0, _ => by simp [rso]
  | e + 1, he => by have := rso_bd (g := g) h e (by omega); have := h e (by omega); simp only [rso]; split <;> omega
theorem suF_bd {b : Nat → Bool} {o : Nat → Int} {n : Nat} (h : ∀ i, i < n → -100000 ≤ o i ∧ o i ≤ 100000) : ∀ i, i ≤ n → -100000 * (i : Int) ≤ suF b o i ∧ suF b o i ≤ 100000 * i
  | 0, _ => by simp [suF]
  | i + 1, hi => by have := suF_bd (b := b) h i (by omega); have := h i (by omega); simp only [suF]; split <;> omega
/-- What is asked of marks and judge. -/
structure Bsp (n k m : Nat) (M : Nat → Nat) (V : Nat → Nat → Int) (g : Int) : Prop where
  n40 : n ≤ 40
  k8 : k ≤ 8
  mn : m = n
  row : ∀ i, i < m → M i = k
  val : ∀ i, i < m → ∀ e, e < k → 0 ≤ V i e ∧ V i e ≤ 10000
  g0 : 0 ≤ g
  gk : g < k
theorem Bsp.of {n k m s j M V} {g : Int} (h : mkB n s k j m M V = true) (hg : in3 g 0 ((k : Int) - 1) = true) : Bsp n k m M V g := by
  simp only [mkB, Bool.and_eq_true, decide_eq_true_eq, allU_iff] at h
  obtain ⟨⟨⟨⟨⟨h1, h2⟩, h3⟩, h4⟩, h5⟩, h6⟩ := h
  have h7 := in3_iff.1 hg
  exact ⟨h1, h2, h3, fun i hi => (h6 i hi).1, fun i hi e he => in3_iff.1 ((h6 i hi).2 e (by rw [(h6 i hi).1]; exact he)), by omega, by omega⟩
/-- The numbers of a bias. -/
structure Bs where
  sO : Int
  cO : Nat
  sR : Int
  cR : Nat
def bsF (s : Nat → Int) (jv : Int) (k g : Nat) (V : Nat → Nat → Int) (i : Nat) : Bs :=
  ⟨suF (fun i => decide (s i = jv)) (offF V k g) i, cnF (fun i => decide (s i = jv)) i, suF (fun i => !decide (s i = jv)) (offF V k g) i, cnF (fun i => !decide (s i = jv)) i⟩
def biK (k : Nat) (b : Bs) : Bool := !(decide (k < 2) || (decide (b.cO = 0) || decide (b.cR = 0)))
def biN (k : Nat) (b : Bs) : Int := if biK k b then lowN (b.sO * b.cR - b.sR * b.cO) (b.cO * b.cR * ((k : Int) - 1)) else 0
def biD (k : Nat) (b : Bs) : Int := if biK k b then lowD (b.sO * b.cR - b.sR * b.cO) (b.cO * b.cR * ((k : Int) - 1)) else 0
theorem off_bd {n k m M V} {g : Int} (h : Bsp n k m M V g) : ∀ i, i < n → -100000 ≤ offF V k g.toNat i ∧ offF V k g.toNat i ≤ 100000 := fun i hi => by
  obtain ⟨q1, q2, q3, q4, q5, q6, q7⟩ := h
  have h1 := rsm_bd (q5 i (by omega)) k (Nat.le_refl _)
  have h2 := q5 i (by omega) g.toNat (by omega)
  have h3 : (k : Int) * V i g.toNat ≤ 8 * 10000 := Int.mul_le_mul (by omega) h2.2 h2.1 (by omega)
  have h4 : 0 ≤ (k : Int) * V i g.toNat := Int.mul_nonneg (by omega) h2.1
  simp only [offF]
  omega
theorem mul_bd {a b A B : Int} (h1 : -A ≤ a) (h2 : a ≤ A) (h3 : 0 ≤ b) (h4 : b ≤ B) : -(A * B) ≤ a * b ∧ a * b ≤ A * B := by
  have hA : 0 ≤ A := by omega
  have e1 : a * b ≤ A * b := Int.mul_le_mul_of_nonneg_right h2 h3
  have e2 : -A * b ≤ a * b := Int.mul_le_mul_of_nonneg_right h1 h3
  have e3 : A * b ≤ A * B := Int.mul_le_mul_of_nonneg_left h4 hA
  rw [Int.neg_mul] at e2
  omega
theorem num_w {a b : Int} {c d : Nat} (h1 : -4000000 ≤ a ∧ a ≤ 4000000) (h2 : -4000000 ≤ b ∧ b ≤ 4000000) (h3 : c ≤ 40) (h4 : d ≤ 40) :
    IntKind.i64.wrap (IntKind.i64.wrap (a * c) - IntKind.i64.wrap (b * d)) = a * c - b * d ∧ big (a * c - b * d) := by
  have e1 := mul_bd (b := (c : Int)) (B := 40) h1.1 h1.2 (by omega) (by omega)
  have e2 := mul_bd (b := (d : Int)) (B := 40) h2.1 h2.2 (by omega) (by omega)
  rw [wrap_id (x := a * c) (by omega) (by omega), wrap_id (x := b * d) (by omega) (by omega), wrap_id (by omega) (by omega)]
  exact ⟨rfl, by omega, by omega⟩
theorem den_w {c d k : Nat} (h3 : c ≤ 40) (h4 : d ≤ 40) (hk : 1 ≤ k ∧ k ≤ 8) :
    IntKind.i64.wrap (IntKind.i64.wrap ((c : Int) * d) * IntKind.i64.wrap ((k : Int) - 1)) = (c : Int) * d * ((k : Int) - 1) ∧ big ((c : Int) * d * ((k : Int) - 1)) := by
  have e1 := mul_bd (a := (c : Int)) (A := 40) (b := (d : Int)) (B := 40) (by omega) (by omega) (by omega) (by omega)
  have e2 := mul_bd (a := (c : Int) * d) (A := 40 * 40) (b := (k : Int) - 1) (B := 7) (by omega) (by omega) (by omega) (by omega)
  rw [wrap_id (x := (c : Int) * d) (by omega) (by omega), wrap_id (x := (k : Int) - 1) (by omega) (by omega), wrap_id (by omega) (by omega)]
  exact ⟨rfl, by omega, by omega⟩
theorem den_pos {c d k : Nat} (h3 : c ≠ 0) (h4 : d ≠ 0) (hk : ¬ k < 2) : 0 < (c : Int) * d * ((k : Int) - 1) :=
  Int.mul_pos (Int.mul_pos (by omega) (by omega)) (by omega)
def biasRBase : BaseF := fun args => match args with
  | [.agg [.row n sz_s f_s, .row k sz_j f_j, .row m sz_A f_A], .int .i64 g] => some ((sz_s = 1 ∧ IntR n 1 f_s) ∧ (sz_j = 1 ∧ IntR k 1 f_j) ∧ (sz_A = 1 ∧ NestR m 1 0 1 f_A) ∧ (Bsp n k m (nsM 0 f_A) (fun i e => (nsV 0 f_A) i e 0) g), .tup [.agg [.int .i64 (biN k (bsF (fun i => (ivf f_s) i 0) ((ivf f_j) g.toNat 0) k g.toNat (fun i e => (nsV 0 f_A) i e 0) n)), .int .i64 (biD k (bsF (fun i => (ivf f_s) i 0) ((ivf f_j) g.toNat 0) k g.toNat (fun i e => (nsV 0 f_A) i e 0) n))], .bool (biK k (bsF (fun i => (ivf f_s) i 0) ((ivf f_j) g.toNat 0) k g.toNat (fun i e => (nsV 0 f_A) i e 0) n))])
  | _ => none
theorem biasR_eq (n : Nat) (sz_s : Nat) (f_s : Nat → Nat → SV) (k : Nat) (sz_j : Nat) (f_j : Nat → Nat → SV) (m : Nat) (sz_A : Nat) (f_A : Nat → Nat → SV) (g : Int) : biasRBase [.agg [.row n sz_s f_s, .row k sz_j f_j, .row m sz_A f_A], .int .i64 g] = some ((sz_s = 1 ∧ IntR n 1 f_s) ∧ (sz_j = 1 ∧ IntR k 1 f_j) ∧ (sz_A = 1 ∧ NestR m 1 0 1 f_A) ∧ (Bsp n k m (nsM 0 f_A) (fun i e => (nsV 0 f_A) i e 0) g), .tup [.agg [.int .i64 (biN k (bsF (fun i => (ivf f_s) i 0) ((ivf f_j) g.toNat 0) k g.toNat (fun i e => (nsV 0 f_A) i e 0) n)), .int .i64 (biD k (bsF (fun i => (ivf f_s) i 0) ((ivf f_j) g.toNat 0) k g.toNat (fun i e => (nsV 0 f_A) i e 0) n))], .bool (biK k (bsF (fun i => (ivf f_s) i 0) ((ivf f_j) g.toNat 0) k g.toNat (fun i e => (nsV 0 f_A) i e 0) n))]) := rfl
theorem biasR_base : Base Try.prog 61 biasRBase := by
  intro args p v hq hp
  unfold biasRBase at hq
  split at hq
  rotate_left
  · cases hq
  rename_i n sz_s f_s k sz_j f_j m sz_A f_A g
  cases hq
  obtain ⟨⟨rfl, i_s⟩, ⟨rfl, i_j⟩, ⟨rfl, i_A⟩, pre⟩ := hp
  refine base_of (C := cx [] [] [(80, gcdRBase)] [(61, 11, p61_11), (61, 20, p61_20)] none) (cx_ok trivial ⟨gcdR_base, trivial⟩) rfl (g := 61) (fn := Try.f61)
    (args' := [.agg [.row n 1 (rowF .i64 (ivf f_s)), .row k 1 (rowF .i64 (ivf f_j)), .row m 1 (nestF 0 1 (nsA f_A) (nsM 0 f_A) (nsV 0 f_A))], .int .i64 g]) (fn_61) rfl 1000 (by
    simp only [BdL, Bd, and_self, and_true, true_and]
    exact ⟨(fun i j hi hj => by rw [i_s i j hi hj]; trivial), (fun i j hi hj => by rw [i_j i j hi hj]; trivial), (fun i j hi hj => nest_bd i_A i j hi hj)⟩) ⟨SameD.agg ⟨SameD.int i_s, SameD.int i_j, SameD.nest i_A, trivial⟩, SameD.rfl' _, trivial⟩ ?_
  generalize ivf f_s = s at *
  generalize ivf f_j = j at *
  generalize nsA f_A = A at *
  generalize nsM 0 f_A = M at *
  generalize nsV 0 f_A = V at *
  simp only [rowF_eq]
  simp only [gcdR_eq, p61_11, p61_20, nestF_eq, nestR_lit, nsM_lit, nsV_lit, Try.f61, go_sem, ↓reduceIte, Nat.reduceAdd, Nat.reduceSub, Nat.reduceMul, Nat.reduceEqDiff, Nat.reduceLT, Nat.reduceLeDiff, Int.reduceToNat, Int.reduceLE, Int.reduceLT, Int.reduceEq, Int.reduceNeg, reduceCtorEq]
  have hob := off_bd pre
  have hsO := suF_bd (b := fun i => decide (s i 0 = j g.toNat 0)) hob
  have hsR := suF_bd (b := fun i => !decide (s i 0 = j g.toNat 0)) hob
  have hcO := cnF_le (fun i => decide (s i 0 = j g.toNat 0))
  have hcR := cnF_le (fun i => !decide (s i 0 = j g.toNat 0))
  obtain ⟨q1, q2, q3, q4, q5, q6, q7⟩ := pre
  have hmi : m = n := q3
  have hgn : g.toNat < k := by omega
  refine loop_ofH { i : Nat // i ≤ n } (fun i => [(11, .int .i64 (i.1 : Int)), (10, .int .i64 (suF (fun i => !decide (s i 0 = j g.toNat 0)) (offF (fun i e => V i e 0) k g.toNat) i.1)), (9, .int .i64 (suF (fun i => decide (s i 0 = j g.toNat 0)) (offF (fun i e => V i e 0) k g.toNat) i.1)), (8, .int .i64 (cnF (fun i => !decide (s i 0 = j g.toNat 0)) i.1 : Int)), (7, .int .i64 (cnF (fun i => decide (s i 0 = j g.toNat 0)) i.1 : Int)), (6, .int .i64 (k : Int)), (4, .ptr 1 0), (2, .ptr 0 0), (1, .int .i64 g)]) (fun h _ => h) (fun i => n - i.1) (fun _ => ⟨rfl, rfl⟩) ⟨0, by omega⟩ (by (apply sub_of <;> simp only [go_sem, ↓reduceIte, Nat.reduceAdd, Nat.reduceSub, Nat.reduceMul, Nat.reduceEqDiff, Nat.reduceLT, Nat.reduceLeDiff, Int.reduceToNat, Int.reduceLE, Int.reduceLT, Int.reduceEq, Int.reduceNeg, reduceCtorEq] <;> (try simp [catF]) <;> (try exact fun j _ => Bd_nth (by simp [BdL, Bd]) j) <;> (try exact bd_setL (by simp [bdAs, BdL, Bd])) <;> (try exact nestF_bd _ _ _ _ _ _ _ _ _)) <;> ((repeat' refine And.intro ?_ ?_) <;> first | trivial | rfl | exact fun _ _ _ _ => trivial | exact nestF_bd _ _ _ _ _ _ _ _ _ | exact fun i hi => nestF_bd _ _ _ _ _ _ _ _ _ i 0 hi Nat.zero_lt_one)) ?_
  rintro ⟨i, hi⟩
  simp only [gcdR_eq, p61_11, p61_20, nestF_eq, nestR_lit, nsM_lit, nsV_lit, Try.f61, go_sem, ↓reduceIte, Nat.reduceAdd, Nat.reduceSub, Nat.reduceMul, Nat.reduceEqDiff, Nat.reduceLT, Nat.reduceLeDiff, Int.reduceToNat, Int.reduceLE, Int.reduceLT, Int.reduceEq, Int.reduceNeg, reduceCtorEq]
  refine ⟨fun e1 => ?_, fun e1 => ?_⟩
  · simp only [decide_eq_true_eq] at e1
    have im : i < n := by omega
    have hMi : M i = k := q4 i (by omega)
    refine ⟨⟨by omega, by omega⟩, ⟨by omega, by omega⟩, ?_⟩
    have h2 := q5 i (by omega) g.toNat hgn
    have h3 : (k : Int) * V i g.toNat 0 ≤ 8 * 10000 := Int.mul_le_mul (by omega) h2.2 h2.1 (by omega)
    have h4 : 0 ≤ (k : Int) * V i g.toNat 0 := Int.mul_nonneg (by omega) h2.1
    rw [wrap_id (x := (k : Int) * V i g.toNat 0) (by omega) (by omega)]
    refine loop_ofH { e : Nat // e ≤ k } (fun e => [(13, .int .i64 (e.1 : Int)), (12, .int .i64 ((k : Int) * V i g.toNat 0 - rsm (fun i e => V i e 0) i e.1)), (11, .int .i64 (i : Int)), (10, .int .i64 (suF (fun i => !decide (s i 0 = j g.toNat 0)) (offF (fun i e => V i e 0) k g.toNat) i)), (9, .int .i64 (suF (fun i => decide (s i 0 = j g.toNat 0)) (offF (fun i e => V i e 0) k g.toNat) i)), (8, .int .i64 (cnF (fun i => !decide (s i 0 = j g.toNat 0)) i : Int)), (7, .int .i64 (cnF (fun i => decide (s i 0 = j g.toNat 0)) i : Int)), (6, .int .i64 (k : Int)), (4, .ptr 1 0), (2, .ptr 0 0), (1, .int .i64 g)]) (fun h _ => h) (fun e => k - e.1) (fun _ => ⟨rfl, rfl⟩) ⟨0, by omega⟩ (by ((apply sub_of <;> simp only [go_sem, ↓reduceIte, Nat.reduceAdd, Nat.reduceSub, Nat.reduceMul, Nat.reduceEqDiff, Nat.reduceLT, Nat.reduceLeDiff, Int.reduceToNat, Int.reduceLE, Int.reduceLT, Int.reduceEq, Int.reduceNeg, reduceCtorEq] <;> (try simp [catF]) <;> (try exact fun j _ => Bd_nth (by simp [BdL, Bd]) j) <;> (try exact bd_setL (by simp [bdAs, BdL, Bd])) <;> (try exact nestF_bd _ _ _ _ _ _ _ _ _)) <;> (try simp only [rsm, Int.sub_zero])) <;> ((repeat' refine And.intro ?_ ?_) <;> first | trivial | rfl | exact fun _ _ _ _ => trivial | exact nestF_bd _ _ _ _ _ _ _ _ _ | exact fun i hi => nestF_bd _ _ _ _ _ _ _ _ _ i 0 hi Nat.zero_lt_one)) ?_
    rintro ⟨e, he⟩
    simp only [gcdR_eq, p61_11, p61_20, nestF_eq, nestR_lit, nsM_lit, nsV_lit, Try.f61, go_sem, ↓reduceIte, Nat.reduceAdd, Nat.reduceSub, Nat.reduceMul, Nat.reduceEqDiff, Nat.reduceLT, Nat.reduceLeDiff, Int.reduceToNat, Int.reduceLE, Int.reduceLT, Int.reduceEq, Int.reduceNeg, reduceCtorEq]
    refine ⟨fun e2 => ?_, fun e2 => ?_⟩
    · simp only [decide_eq_true_eq] at e2
      have ek : e < k := by omega
      have h5 := q5 i (by omega) e ek
      have h6 := rsm_bd (V := fun i e => V i e 0) (q5 i (by omega)) e he
      refine ⟨⟨by omega, by omega⟩, ⟨by omega, by omega⟩, ⟨e + 1, by omega⟩, by simp only []; omega, ?_⟩
      have hw : IntKind.i64.wrap ((k : Int) * V i g.toNat 0 - rsm (fun i e => V i e 0) i e - V i e 0) = (k : Int) * V i g.toNat 0 - rsm (fun i e => V i e 0) i (e + 1) := by
        rw [wrap_id (by omega) (by omega)]; simp only [rsm]; omega
      apply sub_of <;> simp only [hw, wrap_s ek (show k ≤ 1000000 by omega), go_sem, ↓reduceIte, Nat.reduceAdd, Nat.reduceSub, Nat.reduceMul, Nat.reduceEqDiff, Nat.reduceLT, Nat.reduceLeDiff, Int.reduceToNat, Int.reduceLE, Int.reduceLT, Int.reduceEq, Int.reduceNeg, reduceCtorEq] <;> ((repeat' refine And.intro ?_ ?_) <;> first | trivial | rfl | exact fun _ _ _ _ => trivial | exact nestF_bd _ _ _ _ _ _ _ _ _ | exact fun i hi => nestF_bd _ _ _ _ _ _ _ _ _ i 0 hi Nat.zero_lt_one)
    · simp only [decide_eq_false_iff_not] at e2
      obtain rfl : e = k := by omega
      have o := hob i im
      have sO := hsO i (by omega)
      have sR := hsR i (by omega)
      have cO := hcO i
      have cR := hcR i
      have hoe : (e : Int) * V i g.toNat 0 - rsm (fun i e => V i e 0) i e = offF (fun i e => V i e 0) e g.toNat i := rfl
      rw [hoe]
      refine ⟨⟨by kernel_rfl, by kernel_rfl⟩, ⟨by omega, by omega⟩, ⟨by omega, by omega⟩, fun e3 => ?_, fun e3 => ?_⟩
      · refine ⟨⟨i + 1, by omega⟩, by simp only []; omega, ?_⟩
        have hw : IntKind.i64.wrap (suF (fun i => decide (s i 0 = j g.toNat 0)) (offF (fun i e => V i e 0) e g.toNat) i + offF (fun i e => V i e 0) e g.toNat i) = suF (fun i => decide (s i 0 = j g.toNat 0)) (offF (fun i e => V i e 0) e g.toNat) i + offF (fun i e => V i e 0) e g.toNat i := wrap_id (by omega) (by omega)
        have hc : IntKind.i64.wrap ((cnF (fun i => decide (s i 0 = j g.toNat 0)) i : Int) + 1) = ((cnF (fun i => decide (s i 0 = j g.toNat 0)) i + 1 : Nat) : Int) := by rw [wrap_id (by omega) (by omega)]; omega
        simp only [decide_eq_true_eq] at e3
        apply sub_of <;> simp only [hw, hc, suF, cnF, e3, decide_true, Bool.not_true, Bool.false_eq_true, if_true, if_false, Nat.add_zero, Int.add_zero, wrap_s im (show n ≤ 1000000 by omega), go_sem, ↓reduceIte, Nat.reduceAdd, Nat.reduceSub, Nat.reduceMul, Nat.reduceEqDiff, Nat.reduceLT, Nat.reduceLeDiff, Int.reduceToNat, Int.reduceLE, Int.reduceLT, Int.reduceEq, Int.reduceNeg, reduceCtorEq] <;> ((repeat' refine And.intro ?_ ?_) <;> first | trivial | rfl | exact fun _ _ _ _ => trivial | exact nestF_bd _ _ _ _ _ _ _ _ _ | exact fun i hi => nestF_bd _ _ _ _ _ _ _ _ _ i 0 hi Nat.zero_lt_one)
      · refine ⟨⟨i + 1, by omega⟩, by simp only []; omega, ?_⟩
        have hw : IntKind.i64.wrap (suF (fun i => !decide (s i 0 = j g.toNat 0)) (offF (fun i e => V i e 0) e g.toNat) i + offF (fun i e => V i e 0) e g.toNat i) = suF (fun i => !decide (s i 0 = j g.toNat 0)) (offF (fun i e => V i e 0) e g.toNat) i + offF (fun i e => V i e 0) e g.toNat i := wrap_id (by omega) (by omega)
        have hc : IntKind.i64.wrap ((cnF (fun i => !decide (s i 0 = j g.toNat 0)) i : Int) + 1) = ((cnF (fun i => !decide (s i 0 = j g.toNat 0)) i + 1 : Nat) : Int) := by rw [wrap_id (by omega) (by omega)]; omega
        simp only [decide_eq_false_iff_not] at e3
        apply sub_of <;> simp only [hw, hc, suF, cnF, e3, decide_false, Bool.not_false, Bool.false_eq_true, if_true, if_false, Nat.add_zero, Int.add_zero, wrap_s im (show n ≤ 1000000 by omega), go_sem, ↓reduceIte, Nat.reduceAdd, Nat.reduceSub, Nat.reduceMul, Nat.reduceEqDiff, Nat.reduceLT, Nat.reduceLeDiff, Int.reduceToNat, Int.reduceLE, Int.reduceLT, Int.reduceEq, Int.reduceNeg, reduceCtorEq] <;> ((repeat' refine And.intro ?_ ?_) <;> first | trivial | rfl | exact fun _ _ _ _ => trivial | exact nestF_bd _ _ _ _ _ _ _ _ _ | exact fun i hi => nestF_bd _ _ _ _ _ _ _ _ _ i 0 hi Nat.zero_lt_one)
  · simp only [decide_eq_false_iff_not] at e1
    obtain rfl : i = n := by omega
    have sO := hsO i (by omega)
    have sR := hsR i (by omega)
    have cO := hcO i
    have cR := hcR i
    simp only [bsF]
    revert sO sR cO cR
    generalize suF (fun i => decide (s i 0 = j g.toNat 0)) (offF (fun i e => V i e 0) k g.toNat) i = sO
    generalize suF (fun i => !decide (s i 0 = j g.toNat 0)) (offF (fun i e => V i e 0) k g.toNat) i = sR
    generalize cnF (fun i => decide (s i 0 = j g.toNat 0)) i = cO
    generalize cnF (fun i => !decide (s i 0 = j g.toNat 0)) i = cR
    intro h1 h2 h3 h4
    have hn := num_w (a := sO) (b := sR) (c := cR) (d := cO) (by omega) (by omega) (by omega) (by omega)
    have hd := den_w (c := cO) (d := cR) (k := k) (by omega) (by omega) (by omega)
    rw [hn.1, hd.1]
    refine ⟨fun c1 => ?_, fun c1 => ⟨fun c2 => ?_, fun c2 => ⟨fun c3 => ?_, fun c3 => ?_⟩⟩⟩
    · have hk : biK k ⟨sO, cO, sR, cR⟩ = false := by simp only [decide_eq_true_eq] at c1; rw [biK, decide_eq_true (p := k < 2) (by omega)]; rfl
      rw [biN, biD, hk]; rfl
    · have hk : biK k ⟨sO, cO, sR, cR⟩ = false := by simp only [decide_eq_true_eq] at c2; rw [biK, decide_eq_true (p := cO = 0) (by omega)]; simp
      rw [biN, biD, hk]; rfl
    · have hk : biK k ⟨sO, cO, sR, cR⟩ = false := by simp only [decide_eq_true_eq] at c3; rw [biK, decide_eq_true (p := cR = 0) (by omega)]; simp
      rw [biN, biD, hk]; rfl
    simp only [decide_eq_false_iff_not] at c1 c2 c3
    have hp := den_pos (c := cO) (d := cR) (k := k) (by omega) (by omega) (by omega)
    have hk : biK k ⟨sO, cO, sR, cR⟩ = true := by rw [biK, decide_eq_false (p := cR = 0) (by omega), decide_eq_false (p := cO = 0) (by omega), decide_eq_false (p := k < 2) (by omega)]; rfl
    have hg0 : (Int.gcd (sO * cR - sR * cO) (cO * cR * ((k : Int) - 1)) : Int) ≠ 0 := by
      intro h
      have := (Int.gcd_eq_zero_iff.1 (Int.ofNat.inj h)).2
      omega
    refine ⟨⟨hn.2, hd.2⟩, ⟨by kernel_rfl, by kernel_rfl⟩, hg0, hg0, ?_⟩
    rw [big_wrap (tdiv_big hn.2), big_wrap (tdiv_big hd.2), biN, biD, hk]
    rfl
theorem nth3_bd {a b c : SV} {x y : Nat} (h1 : Bd x y a) (h2 : Bd x y b) (h3 : Bd x y c) : ∀ i, i < 3 → Bd x y (nth [a, b, c] i)
  | 0, _ => h1
  | 1, _ => h2
  | 2, _ => h3
  | i + 3, h => by omega
def biasBase : BaseF := fun args => match args with
  | [.rptr sz_1 c_1, .int .i64 g] => (match c_1 0, c_1 1, c_1 2 with | .row n sz_s f_s, .row k sz_j f_j, .row m sz_A f_A => some ((sz_1 = 3) ∧ (sz_s = 1 ∧ IntR n 1 f_s) ∧ (sz_j = 1 ∧ IntR k 1 f_j) ∧ (sz_A = 1 ∧ NestR m 1 0 1 f_A) ∧ (Bsp n k m (nsM 0 f_A) (fun i e => (nsV 0 f_A) i e 0) g), .tup [.agg [.int .i64 (biN k (bsF (fun i => (ivf f_s) i 0) ((ivf f_j) g.toNat 0) k g.toNat (fun i e => (nsV 0 f_A) i e 0) n)), .int .i64 (biD k (bsF (fun i => (ivf f_s) i 0) ((ivf f_j) g.toNat 0) k g.toNat (fun i e => (nsV 0 f_A) i e 0) n))], .bool (biK k (bsF (fun i => (ivf f_s) i 0) ((ivf f_j) g.toNat 0) k g.toNat (fun i e => (nsV 0 f_A) i e 0) n))]) | _, _, _ => none)
  | _ => none
theorem bias_eq (sz_1 : Nat) (c_1 : Nat → SV) (g : Int) : biasBase [.rptr sz_1 c_1, .int .i64 g] = (match c_1 0, c_1 1, c_1 2 with | .row n sz_s f_s, .row k sz_j f_j, .row m sz_A f_A => some ((sz_1 = 3) ∧ (sz_s = 1 ∧ IntR n 1 f_s) ∧ (sz_j = 1 ∧ IntR k 1 f_j) ∧ (sz_A = 1 ∧ NestR m 1 0 1 f_A) ∧ (Bsp n k m (nsM 0 f_A) (fun i e => (nsV 0 f_A) i e 0) g), .tup [.agg [.int .i64 (biN k (bsF (fun i => (ivf f_s) i 0) ((ivf f_j) g.toNat 0) k g.toNat (fun i e => (nsV 0 f_A) i e 0) n)), .int .i64 (biD k (bsF (fun i => (ivf f_s) i 0) ((ivf f_j) g.toNat 0) k g.toNat (fun i e => (nsV 0 f_A) i e 0) n))], .bool (biK k (bsF (fun i => (ivf f_s) i 0) ((ivf f_j) g.toNat 0) k g.toNat (fun i e => (nsV 0 f_A) i e 0) n))]) | _, _, _ => none) := rfl
theorem bias_base : Base Try.prog 60 biasBase := by
  intro args p v hq hp
  unfold biasBase at hq
  split at hq
  rotate_left
  · cases hq
  rename_i sz_1 c_1 g
  split at hq
  rotate_left
  · cases hq
  rename_i n sz_s f_s k sz_j f_j m sz_A f_A h_1_0 h_1_1 h_1_2
  cases hq
  obtain ⟨rfl, ⟨rfl, i_s⟩, ⟨rfl, i_j⟩, ⟨rfl, i_A⟩, pre⟩ := hp
  refine base_of (C := cx [] [] [(78, lessBase), (79, ratioBase)] [(60, 14, p60_14), (60, 21, p60_21), (77, 0, p77_0)] none) (cx_ok trivial ⟨less_base, ratio_base, trivial⟩) rfl (g := 60) (fn := Try.f60)
    (args' := [.rptr 3 (fun j => nth [.row n 1 (rowF .i64 (ivf f_s)), .row k 1 (rowF .i64 (ivf f_j)), .row m 1 (nestF 0 1 (nsA f_A) (nsM 0 f_A) (nsV 0 f_A))] j), .int .i64 g]) (fn_60) rfl 1000 (by
    simp only [BdL, Bd, and_self, and_true, true_and]
    exact (fun j hj => by
      have hj : j = 0 ∨ j = 1 ∨ j = 2 := by omega
      rcases hj with rfl | rfl | rfl
      · rw [h_1_0]; simp only [BdL, Bd, and_self, and_true, true_and]; exact (fun i j hi hj => by rw [i_s i j hi hj]; trivial)
      · rw [h_1_1]; simp only [BdL, Bd, and_self, and_true, true_and]; exact (fun i j hi hj => by rw [i_j i j hi hj]; trivial)
      · rw [h_1_2]; simp only [BdL, Bd, and_self, and_true, true_and]; exact (fun i j hi hj => nest_bd i_A i j hi hj))) ⟨SameD.rptr (fun j hj => by
      have hj : j = 0 ∨ j = 1 ∨ j = 2 := by omega
      rcases hj with rfl | rfl | rfl
      · rw [h_1_0]; exact SameD.int i_s
      · rw [h_1_1]; exact SameD.int i_j
      · rw [h_1_2]; exact SameD.nest i_A), SameD.rfl' _, trivial⟩ ?_
  generalize ivf f_s = s at *
  generalize ivf f_j = j at *
  generalize nsA f_A = A at *
  generalize nsM 0 f_A = M at *
  generalize nsV 0 f_A = V at *
  simp only [rowF_eq]
  simp only [less_eq, ratio_eq, p60_14, p60_21, p77_0, nestF_eq, nestR_lit, nsM_lit, nsV_lit, Try.f77, Try.f60, go_sem, ↓reduceIte, Nat.reduceAdd, Nat.reduceSub, Nat.reduceMul, Nat.reduceEqDiff, Nat.reduceLT, Nat.reduceLeDiff, Int.reduceToNat, Int.reduceLE, Int.reduceLT, Int.reduceEq, Int.reduceNeg, reduceCtorEq]
  have hob := off_bd pre
  have hsO := suF_bd (b := fun i => decide (s i 0 = j g.toNat 0)) hob
  have hsR := suF_bd (b := fun i => !decide (s i 0 = j g.toNat 0)) hob
  have hcO := cnF_le (fun i => decide (s i 0 = j g.toNat 0))
  have hcR := cnF_le (fun i => !decide (s i 0 = j g.toNat 0))
  obtain ⟨q1, q2, q3, q4, q5, q6, q7⟩ := pre
  have hmi : m = n := q3
  have hgn : g.toNat < k := by omega
  rw [wrap_id (x := (k : Int) - 1) (by omega) (by omega)]
  refine loop_ofH { i : Nat // i ≤ n } (fun i => [(27, .int .i64 (i.1 : Int)), (26, .int .i64 (m : Int)), (25, .row m 1 (nestF 0 1 A M V)), (8, .ptr 2 0), (7, .ptr 1 0), (6, .int .i64 ((k : Int) - 1)), (4, .ptr 0 0), (1, .int .i64 g), (0, .rptr 3 (nth [.row n 1 (fun i j => .int .i64 (s i j)), .row k 1 (fun i e => .int .i64 (j i e)), .row m 1 (nestF 0 1 A M V)]))]) (fun _ i => { blks := [.live 97 [.int .i64 0, .int .i64 0], .live 115 [.int .i64 (suF (fun i => decide (s i 0 = j g.toNat 0)) (offF (fun i e => V i e 0) k g.toNat) i.1), .int .i64 (cnF (fun i => decide (s i 0 = j g.toNat 0)) i.1 : Int)], .live 115 [.int .i64 (suF (fun i => !decide (s i 0 = j g.toNat 0)) (offF (fun i e => V i e 0) k g.toNat) i.1), .int .i64 (cnF (fun i => !decide (s i 0 = j g.toNat 0)) i.1 : Int)]], vecs := [] }) (fun i => n - i.1) (fun _ => ⟨rfl, rfl⟩) ⟨0, by omega⟩ (by (apply sub_of <;> simp only [go_sem, ↓reduceIte, Nat.reduceAdd, Nat.reduceSub, Nat.reduceMul, Nat.reduceEqDiff, Nat.reduceLT, Nat.reduceLeDiff, Int.reduceToNat, Int.reduceLE, Int.reduceLT, Int.reduceEq, Int.reduceNeg, reduceCtorEq] <;> (try simp [catF]) <;> (try exact fun j _ => Bd_nth (by simp [BdL, Bd]) j) <;> (try exact bd_setL (by simp [bdAs, BdL, Bd])) <;> (try exact nestF_bd _ _ _ _ _ _ _ _ _)) <;> (first | ((repeat' refine And.intro ?_ ?_) <;> first | trivial | rfl | exact fun _ _ _ _ => trivial | exact nestF_bd _ _ _ _ _ _ _ _ _ | exact fun i hi => nestF_bd _ _ _ _ _ _ _ _ _ i 0 hi Nat.zero_lt_one) | ((repeat' refine And.intro ?_ ?_) <;> first | ((repeat' refine And.intro ?_ ?_) <;> first | trivial | rfl | exact fun _ _ _ _ => trivial | exact nestF_bd _ _ _ _ _ _ _ _ _ | exact fun i hi => nestF_bd _ _ _ _ _ _ _ _ _ i 0 hi Nat.zero_lt_one) | exact nth3_bd (fun _ _ _ _ => trivial) (fun _ _ _ _ => trivial) (nestF_bd _ _ _ _ _ _ _ _ _)))) ?_
  rintro ⟨i, hi⟩
  simp only [less_eq, ratio_eq, p60_14, p60_21, p77_0, nestF_eq, nestR_lit, nsM_lit, nsV_lit, Try.f77, Try.f60, go_sem, ↓reduceIte, Nat.reduceAdd, Nat.reduceSub, Nat.reduceMul, Nat.reduceEqDiff, Nat.reduceLT, Nat.reduceLeDiff, Int.reduceToNat, Int.reduceLE, Int.reduceLT, Int.reduceEq, Int.reduceNeg, reduceCtorEq]
  refine ⟨fun e1 => ?_, fun e1 => ?_⟩
  · simp only [decide_eq_true_eq] at e1
    have im : i < n := by omega
    have hMi : M i = k := q4 i (by omega)
    refine ⟨⟨by omega, by omega⟩, ⟨by omega, by omega⟩, ?_⟩
    have h2 := q5 i (by omega) g.toNat hgn
    have h3 : ((k : Int) - 1) * V i g.toNat 0 ≤ 8 * 10000 := Int.mul_le_mul (by omega) h2.2 h2.1 (by omega)
    have h4 : 0 ≤ ((k : Int) - 1) * V i g.toNat 0 := Int.mul_nonneg (by omega) h2.1
    rw [wrap_id (x := ((k : Int) - 1) * V i g.toNat 0) (by omega) (by omega)]
    refine loop_ofH { e : Nat // e ≤ k } (fun e => [(40, .int .i64 (e.1 : Int)), (39, .int .i64 (k : Int)), (38, .row (M i) 1 (fun e q => .int .i64 (V i e q))), (11, .int .i64 (((k : Int) - 1) * V i g.toNat 0 - rso (fun i e => V i e 0) g.toNat i e.1)), (9, .int .i64 (i : Int)), (27, .int .i64 (i : Int)), (26, .int .i64 (m : Int)), (25, .row m 1 (nestF 0 1 A M V)), (8, .ptr 2 0), (7, .ptr 1 0), (6, .int .i64 ((k : Int) - 1)), (4, .ptr 0 0), (1, .int .i64 g), (0, .rptr 3 (nth [.row n 1 (fun i j => .int .i64 (s i j)), .row k 1 (fun i e => .int .i64 (j i e)), .row m 1 (nestF 0 1 A M V)]))]) (fun h _ => h) (fun e => k - e.1) (fun _ => ⟨rfl, rfl⟩) ⟨0, by omega⟩ (by ((apply sub_of <;> simp only [go_sem, ↓reduceIte, Nat.reduceAdd, Nat.reduceSub, Nat.reduceMul, Nat.reduceEqDiff, Nat.reduceLT, Nat.reduceLeDiff, Int.reduceToNat, Int.reduceLE, Int.reduceLT, Int.reduceEq, Int.reduceNeg, reduceCtorEq] <;> (try simp [catF]) <;> (try exact fun j _ => Bd_nth (by simp [BdL, Bd]) j) <;> (try exact bd_setL (by simp [bdAs, BdL, Bd])) <;> (try exact nestF_bd _ _ _ _ _ _ _ _ _)) <;> (try simp only [rso, Int.sub_zero, hMi])) <;> (first | ((repeat' refine And.intro ?_ ?_) <;> first | trivial | rfl | exact fun _ _ _ _ => trivial | exact nestF_bd _ _ _ _ _ _ _ _ _ | exact fun i hi => nestF_bd _ _ _ _ _ _ _ _ _ i 0 hi Nat.zero_lt_one) | ((repeat' refine And.intro ?_ ?_) <;> first | ((repeat' refine And.intro ?_ ?_) <;> first | trivial | rfl | exact fun _ _ _ _ => trivial | exact nestF_bd _ _ _ _ _ _ _ _ _ | exact fun i hi => nestF_bd _ _ _ _ _ _ _ _ _ i 0 hi Nat.zero_lt_one) | exact nth3_bd (fun _ _ _ _ => trivial) (fun _ _ _ _ => trivial) (nestF_bd _ _ _ _ _ _ _ _ _)))) ?_
    rintro ⟨e, he⟩
    simp only [less_eq, ratio_eq, p60_14, p60_21, p77_0, nestF_eq, nestR_lit, nsM_lit, nsV_lit, Try.f77, Try.f60, go_sem, ↓reduceIte, Nat.reduceAdd, Nat.reduceSub, Nat.reduceMul, Nat.reduceEqDiff, Nat.reduceLT, Nat.reduceLeDiff, Int.reduceToNat, Int.reduceLE, Int.reduceLT, Int.reduceEq, Int.reduceNeg, reduceCtorEq]
    refine ⟨fun e2 => ?_, fun e2 => ?_⟩
    · simp only [decide_eq_true_eq] at e2
      have ek : e < k := by omega
      have h5 := q5 i (by omega) e ek
      have h6 := rso_bd (V := fun i e => V i e 0) (g := g.toNat) (q5 i (by omega)) e he
      refine ⟨⟨by omega, by omega⟩, fun e3 => ?_, fun e3 => ?_⟩
      · simp only [Bool.not_eq_true', decide_eq_false_iff_not] at e3
        have hw : IntKind.i64.wrap (((k : Int) - 1) * V i g.toNat 0 - rso (fun i e => V i e 0) g.toNat i e - V i e 0) = ((k : Int) - 1) * V i g.toNat 0 - rso (fun i e => V i e 0) g.toNat i (e + 1) := by
          rw [wrap_id (by omega) (by omega)]; simp only [rso]; rw [if_neg (by omega)]; omega
        refine ⟨⟨e + 1, by omega⟩, by simp only []; omega, ?_⟩
        apply sub_of <;> simp only [hw, wrap_s ek (show k ≤ 1000000 by omega), go_sem, ↓reduceIte, Nat.reduceAdd, Nat.reduceSub, Nat.reduceMul, Nat.reduceEqDiff, Nat.reduceLT, Nat.reduceLeDiff, Int.reduceToNat, Int.reduceLE, Int.reduceLT, Int.reduceEq, Int.reduceNeg, reduceCtorEq] <;> (first | ((repeat' refine And.intro ?_ ?_) <;> first | trivial | rfl | exact fun _ _ _ _ => trivial | exact nestF_bd _ _ _ _ _ _ _ _ _ | exact fun i hi => nestF_bd _ _ _ _ _ _ _ _ _ i 0 hi Nat.zero_lt_one) | ((repeat' refine And.intro ?_ ?_) <;> first | ((repeat' refine And.intro ?_ ?_) <;> first | trivial | rfl | exact fun _ _ _ _ => trivial | exact nestF_bd _ _ _ _ _ _ _ _ _ | exact fun i hi => nestF_bd _ _ _ _ _ _ _ _ _ i 0 hi Nat.zero_lt_one) | exact nth3_bd (fun _ _ _ _ => trivial) (fun _ _ _ _ => trivial) (nestF_bd _ _ _ _ _ _ _ _ _)))
      · simp only [Bool.not_eq_false', decide_eq_true_eq] at e3
        have hw : rso (fun i e => V i e 0) g.toNat i (e + 1) = rso (fun i e => V i e 0) g.toNat i e := by
          simp only [rso]; rw [if_pos (by omega)]; omega
        refine ⟨⟨e + 1, by omega⟩, by simp only []; omega, ?_⟩
        apply sub_of <;> simp only [hw, wrap_s ek (show k ≤ 1000000 by omega), go_sem, ↓reduceIte, Nat.reduceAdd, Nat.reduceSub, Nat.reduceMul, Nat.reduceEqDiff, Nat.reduceLT, Nat.reduceLeDiff, Int.reduceToNat, Int.reduceLE, Int.reduceLT, Int.reduceEq, Int.reduceNeg, reduceCtorEq] <;> (first | ((repeat' refine And.intro ?_ ?_) <;> first | trivial | rfl | exact fun _ _ _ _ => trivial | exact nestF_bd _ _ _ _ _ _ _ _ _ | exact fun i hi => nestF_bd _ _ _ _ _ _ _ _ _ i 0 hi Nat.zero_lt_one) | ((repeat' refine And.intro ?_ ?_) <;> first | ((repeat' refine And.intro ?_ ?_) <;> first | trivial | rfl | exact fun _ _ _ _ => trivial | exact nestF_bd _ _ _ _ _ _ _ _ _ | exact fun i hi => nestF_bd _ _ _ _ _ _ _ _ _ i 0 hi Nat.zero_lt_one) | exact nth3_bd (fun _ _ _ _ => trivial) (fun _ _ _ _ => trivial) (nestF_bd _ _ _ _ _ _ _ _ _)))
    · simp only [decide_eq_false_iff_not] at e2
      obtain rfl : e = k := by omega
      have o := hob i im
      have sO := hsO i (by omega)
      have sR := hsR i (by omega)
      have cO := hcO i
      have cR := hcR i
      have hoe : ((e : Int) - 1) * V i g.toNat 0 - rso (fun i e => V i e 0) g.toNat i e = offF (fun i e => V i e 0) e g.toNat i := (offF_eq (V := fun i e => V i e 0) (i := i) hgn).symm
      rw [hoe]
      refine ⟨⟨by kernel_rfl, by kernel_rfl⟩, ⟨by omega, by omega⟩, ⟨by omega, by omega⟩, fun e3 => ?_, fun e3 => ?_⟩
      · refine ⟨⟨by kernel_rfl, by kernel_rfl⟩, ⟨i + 1, by omega⟩, by simp only []; omega, ?_⟩
        have hw : IntKind.i64.wrap (suF (fun i => decide (s i 0 = j g.toNat 0)) (offF (fun i e => V i e 0) e g.toNat) i + offF (fun i e => V i e 0) e g.toNat i) = suF (fun i => decide (s i 0 = j g.toNat 0)) (offF (fun i e => V i e 0) e g.toNat) i + offF (fun i e => V i e 0) e g.toNat i := wrap_id (by omega) (by omega)
        have hc : IntKind.i64.wrap ((cnF (fun i => decide (s i 0 = j g.toNat 0)) i : Int) + 1) = ((cnF (fun i => decide (s i 0 = j g.toNat 0)) i + 1 : Nat) : Int) := by rw [wrap_id (by omega) (by omega)]; omega
        simp only [decide_eq_true_eq] at e3
        apply sub_of <;> simp only [hw, hc, suF, cnF, e3, decide_true, Bool.not_true, Bool.false_eq_true, if_true, if_false, Nat.add_zero, Int.add_zero, wrap_s im (show n ≤ 1000000 by omega), go_sem, ↓reduceIte, Nat.reduceAdd, Nat.reduceSub, Nat.reduceMul, Nat.reduceEqDiff, Nat.reduceLT, Nat.reduceLeDiff, Int.reduceToNat, Int.reduceLE, Int.reduceLT, Int.reduceEq, Int.reduceNeg, reduceCtorEq] <;> (first | ((repeat' refine And.intro ?_ ?_) <;> first | trivial | rfl | exact fun _ _ _ _ => trivial | exact nestF_bd _ _ _ _ _ _ _ _ _ | exact fun i hi => nestF_bd _ _ _ _ _ _ _ _ _ i 0 hi Nat.zero_lt_one) | ((repeat' refine And.intro ?_ ?_) <;> first | ((repeat' refine And.intro ?_ ?_) <;> first | trivial | rfl | exact fun _ _ _ _ => trivial | exact nestF_bd _ _ _ _ _ _ _ _ _ | exact fun i hi => nestF_bd _ _ _ _ _ _ _ _ _ i 0 hi Nat.zero_lt_one) | exact nth3_bd (fun _ _ _ _ => trivial) (fun _ _ _ _ => trivial) (nestF_bd _ _ _ _ _ _ _ _ _)))
      · refine ⟨⟨by kernel_rfl, by kernel_rfl⟩, ⟨i + 1, by omega⟩, by simp only []; omega, ?_⟩
        have hw : IntKind.i64.wrap (suF (fun i => !decide (s i 0 = j g.toNat 0)) (offF (fun i e => V i e 0) e g.toNat) i + offF (fun i e => V i e 0) e g.toNat i) = suF (fun i => !decide (s i 0 = j g.toNat 0)) (offF (fun i e => V i e 0) e g.toNat) i + offF (fun i e => V i e 0) e g.toNat i := wrap_id (by omega) (by omega)
        have hc : IntKind.i64.wrap ((cnF (fun i => !decide (s i 0 = j g.toNat 0)) i : Int) + 1) = ((cnF (fun i => !decide (s i 0 = j g.toNat 0)) i + 1 : Nat) : Int) := by rw [wrap_id (by omega) (by omega)]; omega
        simp only [decide_eq_false_iff_not] at e3
        apply sub_of <;> simp only [hw, hc, suF, cnF, e3, decide_false, Bool.not_false, Bool.false_eq_true, if_true, if_false, Nat.add_zero, Int.add_zero, wrap_s im (show n ≤ 1000000 by omega), go_sem, ↓reduceIte, Nat.reduceAdd, Nat.reduceSub, Nat.reduceMul, Nat.reduceEqDiff, Nat.reduceLT, Nat.reduceLeDiff, Int.reduceToNat, Int.reduceLE, Int.reduceLT, Int.reduceEq, Int.reduceNeg, reduceCtorEq] <;> (first | ((repeat' refine And.intro ?_ ?_) <;> first | trivial | rfl | exact fun _ _ _ _ => trivial | exact nestF_bd _ _ _ _ _ _ _ _ _ | exact fun i hi => nestF_bd _ _ _ _ _ _ _ _ _ i 0 hi Nat.zero_lt_one) | ((repeat' refine And.intro ?_ ?_) <;> first | ((repeat' refine And.intro ?_ ?_) <;> first | trivial | rfl | exact fun _ _ _ _ => trivial | exact nestF_bd _ _ _ _ _ _ _ _ _ | exact fun i hi => nestF_bd _ _ _ _ _ _ _ _ _ i 0 hi Nat.zero_lt_one) | exact nth3_bd (fun _ _ _ _ => trivial) (fun _ _ _ _ => trivial) (nestF_bd _ _ _ _ _ _ _ _ _)))
  · simp only [decide_eq_false_iff_not] at e1
    obtain rfl : i = n := by omega
    have sO := hsO i (by omega)
    have sR := hsR i (by omega)
    have cO := hcO i
    have cR := hcR i
    simp only [bsF]
    revert sO sR cO cR
    generalize suF (fun i => decide (s i 0 = j g.toNat 0)) (offF (fun i e => V i e 0) k g.toNat) i = sO
    generalize suF (fun i => !decide (s i 0 = j g.toNat 0)) (offF (fun i e => V i e 0) k g.toNat) i = sR
    generalize cnF (fun i => decide (s i 0 = j g.toNat 0)) i = cO
    generalize cnF (fun i => !decide (s i 0 = j g.toNat 0)) i = cR
    intro h1 h2 h3 h4
    refine ⟨fun c1 => ?_, fun c1 => ⟨fun c2 => ?_, fun c2 => ⟨fun c3 => ?_, fun c3 => ?_⟩⟩⟩
    · have hk : biK k ⟨sO, cO, sR, cR⟩ = false := by simp only [decide_eq_true_eq] at c1; rw [biK, decide_eq_true (p := k < 2) (by omega)]; rfl
      rw [biN, biD, hk]; rfl
    · have hk : biK k ⟨sO, cO, sR, cR⟩ = false := by simp only [decide_eq_true_eq] at c2; rw [biK, decide_eq_true (p := cO = 0) (by omega)]; simp
      rw [biN, biD, hk]; rfl
    · have hk : biK k ⟨sO, cO, sR, cR⟩ = false := by simp only [decide_eq_true_eq] at c3; rw [biK, decide_eq_true (p := cR = 0) (by omega)]; simp
      rw [biN, biD, hk]; rfl
    simp only [decide_eq_false_iff_not] at c1 c2 c3
    have hk : biK k ⟨sO, cO, sR, cR⟩ = true := by rw [biK, decide_eq_false (p := cR = 0) (by omega), decide_eq_false (p := cO = 0) (by omega), decide_eq_false (p := k < 2) (by omega)]; rfl
    obtain ⟨b1, b2, b3⟩ := low_big (u := sO) (v := sR) (x := cO) (y := cR) (k := k) (by omega) (by omega) (by omega) (by omega) (by omega)
    obtain ⟨r1, r2⟩ := low_join (u := sO) (v := sR) (x := (cO : Int)) (y := (cR : Int)) (t := (k : Int) - 1) (by omega) (by omega) (by omega)
    refine ⟨⟨by kernel_rfl, by kernel_rfl⟩, b1, b2, b3, ?_⟩
    rw [r1, r2, biN, biD, hk]
    rfl
end Go.Eng
end

/- panel: Bias and Biased. -/
section
namespace Go.Eng
open Go Go.RowKit Go.Proofs
set_option maxRecDepth 100000
set_option maxHeartbeats 4000000
attribute [local irreducible] OwnT DefS
def biE (mk : Bool) (k : Nat) (g : Int) (b : Bs) : Int := if mk then if in3 g 0 ((k : Int) - 1) then if biK k b then 0 else 4 else 2 else 1
def biX (mk : Bool) (k : Nat) (g : Int) (b : Bs) : Int := if mk && in3 g 0 ((k : Int) - 1) then biN k b else 0
def biY (mk : Bool) (k : Nat) (g : Int) (b : Bs) : Int := if mk && in3 g 0 ((k : Int) - 1) then biD k b else 0
theorem wrap_k {k : Nat} (h : k ≤ 1000000) : IntKind.i64.wrap ((k : Int) - 1) = (k : Int) - 1 := wrap_id (by omega) (by omega)
/-- Whether judge g is biased. -/
def bjB (s : Nat → Int) (j : Nat → Int) (k : Nat) (V : Nat → Nat → Int) (n : Nat) (lim : Int) (g : Nat) : Bool :=
  biK k (bsF s (j g) k g V n) && (decide (lim * biD k (bsF s (j g) k g V n) < biN k (bsF s (j g) k g V n)) || decide (biN k (bsF s (j g) k g V n) < -lim * biD k (bsF s (j g) k g V n)))
def bdE (mk : Bool) (lim : Int) : Int := if mk then if in3 lim 0 10000 then 0 else 2 else 1
def bdN (mk : Bool) (p : Nat → Bool) (k : Nat) (lim : Int) : Nat := if mk && in3 lim 0 10000 then cnF p k else 0
/-- The i-th of those below n that p holds for. -/
def slF (p : Nat → Bool) : Nat → Nat → Int
  | 0, _ => 0
  | n + 1, i => if p n = true ∧ i = cnF p n then n else slF p n i
theorem slF_lt {p : Nat → Bool} {n i : Nat} (h : i < cnF p n) : slF p (n + 1) i = slF p n i := by
  simp only [slF]; rw [if_neg (fun e => by omega)]
theorem slF_at {p : Nat → Bool} {n : Nat} (h : p n = true) : slF p (n + 1) (cnF p n) = n := if_pos ⟨h, rfl⟩
theorem slF_app {p : Nat → Bool} {n : Nat} (hp : p n = true) {x y : Nat} (hx : x < cnF p n + 1) (hy : y < 1) :
    catF (cnF p n) (fun a _ => .int .i64 (slF p n a)) (oneF [.int .i64 (n : Int)]) x y = .int .i64 (slF p (n + 1) x) := by
  obtain rfl : y = 0 := by omega
  rcases Nat.lt_or_ge x (cnF p n) with h | h
  · simp only [catF, if_pos h, slF_lt h]
  · obtain rfl : x = cnF p n := by omega
    simp only [catF, if_neg (Nat.lt_irrefl _), oneF, nth, slF_at hp]
theorem bs_bd {n k m : Nat} {M : Nat → Nat} {V : Nat → Nat → Int} {s j : Nat → Int} {g : Int} (h : Bsp n k m M V g) : biK k (bsF s (j g.toNat) k g.toNat V n) = true →
    0 < biD k (bsF s (j g.toNat) k g.toNat V n) ∧ biD k (bsF s (j g.toNat) k g.toNat V n) ≤ 11200 ∧ -320000000 ≤ biN k (bsF s (j g.toNat) k g.toNat V n) ∧ biN k (bsF s (j g.toNat) k g.toNat V n) ≤ 320000000 := by
  intro hk
  have hob := off_bd h
  have sO := suF_bd (b := fun i => decide (s i = j g.toNat)) hob n (Nat.le_refl _)
  have sR := suF_bd (b := fun i => !decide (s i = j g.toNat)) hob n (Nat.le_refl _)
  have cO := cnF_le (fun i => decide (s i = j g.toNat)) n
  have cR := cnF_le (fun i => !decide (s i = j g.toNat)) n
  obtain ⟨q1, q2, q3, q4, q5, q6, q7⟩ := h
  rw [biD, biN, hk, if_pos rfl, if_pos rfl]
  revert hk sO sR cO cR
  simp only [bsF]
  generalize suF (fun i => decide (s i = j g.toNat)) (offF V k g.toNat) n = a
  generalize suF (fun i => !decide (s i = j g.toNat)) (offF V k g.toNat) n = b
  generalize cnF (fun i => decide (s i = j g.toNat)) n = c
  generalize cnF (fun i => !decide (s i = j g.toNat)) n = d
  intro hk h1 h2 h3 h4
  simp only [biK, Bool.not_eq_true', Bool.or_eq_false_iff, decide_eq_false_iff_not] at hk
  obtain ⟨k1, k2, k3⟩ := hk
  have hp := den_pos (c := c) (d := d) (k := k) k2 k3 k1
  have m1 := mulB (a := a) (b := (d : Int)) (A := 4000000) (B := 40) (by omega) (by omega) (by omega) (by omega)
  have m2 := mulB (a := b) (b := (c : Int)) (A := 4000000) (B := 40) (by omega) (by omega) (by omega) (by omega)
  have m3 := mulB (a := (c : Int)) (b := (d : Int)) (A := 40) (B := 40) (by omega) (by omega) (by omega) (by omega)
  have m4 := mulB (a := (c : Int) * d) (b := (k : Int) - 1) (A := 40 * 40) (B := 7) (by omega) (by omega) (by omega) (by omega)
  have t1 := tdiv_le (a := a * d - b * c) (b := (Int.gcd (a * d - b * c) (c * d * ((k : Int) - 1)) : Int)) (A := 320000000) (by omega) (by omega)
  have t2 := tdiv_le (a := (c : Int) * d * ((k : Int) - 1)) (b := (Int.gcd (a * d - b * c) (c * d * ((k : Int) - 1)) : Int)) (A := 11200) (by omega) (by omega)
  exact ⟨lowD_pos hp, t2.2, t1.1, t1.2⟩
def BiasRBase : BaseF := fun args => match args with
  | [.agg [.row n sz_s f_s, .row k sz_j f_j, .row m sz_A f_A], .int .i64 g] => some ((sz_s = 1 ∧ IntR n 1 f_s) ∧ (sz_j = 1 ∧ IntR k 1 f_j) ∧ (sz_A = 1 ∧ NestR m 1 0 1 f_A) ∧ (n ≤ 1000000 ∧ k ≤ 1000000 ∧ m ≤ 1000000), .tup [.agg [.int .i64 (biX (mkB n (fun i => (ivf f_s) i 0) k (fun i => (ivf f_j) i 0) m (nsM 0 f_A) (fun i e => (nsV 0 f_A) i e 0)) k g (bsF (fun i => (ivf f_s) i 0) ((ivf f_j) g.toNat 0) k g.toNat (fun i e => (nsV 0 f_A) i e 0) n)), .int .i64 (biY (mkB n (fun i => (ivf f_s) i 0) k (fun i => (ivf f_j) i 0) m (nsM 0 f_A) (fun i e => (nsV 0 f_A) i e 0)) k g (bsF (fun i => (ivf f_s) i 0) ((ivf f_j) g.toNat 0) k g.toNat (fun i e => (nsV 0 f_A) i e 0) n))], .int .i64 (biE (mkB n (fun i => (ivf f_s) i 0) k (fun i => (ivf f_j) i 0) m (nsM 0 f_A) (fun i e => (nsV 0 f_A) i e 0)) k g (bsF (fun i => (ivf f_s) i 0) ((ivf f_j) g.toNat 0) k g.toNat (fun i e => (nsV 0 f_A) i e 0) n))])
  | _ => none
theorem BiasR_eq (n : Nat) (sz_s : Nat) (f_s : Nat → Nat → SV) (k : Nat) (sz_j : Nat) (f_j : Nat → Nat → SV) (m : Nat) (sz_A : Nat) (f_A : Nat → Nat → SV) (g : Int) : BiasRBase [.agg [.row n sz_s f_s, .row k sz_j f_j, .row m sz_A f_A], .int .i64 g] = some ((sz_s = 1 ∧ IntR n 1 f_s) ∧ (sz_j = 1 ∧ IntR k 1 f_j) ∧ (sz_A = 1 ∧ NestR m 1 0 1 f_A) ∧ (n ≤ 1000000 ∧ k ≤ 1000000 ∧ m ≤ 1000000), .tup [.agg [.int .i64 (biX (mkB n (fun i => (ivf f_s) i 0) k (fun i => (ivf f_j) i 0) m (nsM 0 f_A) (fun i e => (nsV 0 f_A) i e 0)) k g (bsF (fun i => (ivf f_s) i 0) ((ivf f_j) g.toNat 0) k g.toNat (fun i e => (nsV 0 f_A) i e 0) n)), .int .i64 (biY (mkB n (fun i => (ivf f_s) i 0) k (fun i => (ivf f_j) i 0) m (nsM 0 f_A) (fun i e => (nsV 0 f_A) i e 0)) k g (bsF (fun i => (ivf f_s) i 0) ((ivf f_j) g.toNat 0) k g.toNat (fun i e => (nsV 0 f_A) i e 0) n))], .int .i64 (biE (mkB n (fun i => (ivf f_s) i 0) k (fun i => (ivf f_j) i 0) m (nsM 0 f_A) (fun i e => (nsV 0 f_A) i e 0)) k g (bsF (fun i => (ivf f_s) i 0) ((ivf f_j) g.toNat 0) k g.toNat (fun i e => (nsV 0 f_A) i e 0) n))]) := rfl
theorem BiasR_base : Base Try.prog 31 BiasRBase := by
  intro args p v hq hp
  unfold BiasRBase at hq
  split at hq
  rotate_left
  · cases hq
  rename_i n sz_s f_s k sz_j f_j m sz_A f_A g
  cases hq
  obtain ⟨⟨rfl, i_s⟩, ⟨rfl, i_j⟩, ⟨rfl, i_A⟩, pre⟩ := hp
  refine base_of (C := cx [] [] [(29, marksRBase), (51, inBase), (61, biasRBase)] [] none) (cx_ok trivial ⟨marksR_base, in_base, biasR_base, trivial⟩) rfl (g := 31) (fn := Try.f31)
    (args' := [.agg [.row n 1 (rowF .i64 (ivf f_s)), .row k 1 (rowF .i64 (ivf f_j)), .row m 1 (nestF 0 1 (nsA f_A) (nsM 0 f_A) (nsV 0 f_A))], .int .i64 g]) (fn_31) rfl 1000 (by
    simp only [BdL, Bd, and_self, and_true, true_and]
    exact ⟨(fun i j hi hj => by rw [i_s i j hi hj]; trivial), (fun i j hi hj => by rw [i_j i j hi hj]; trivial), (fun i j hi hj => nest_bd i_A i j hi hj)⟩) ⟨SameD.agg ⟨SameD.int i_s, SameD.int i_j, SameD.nest i_A, trivial⟩, SameD.rfl' _, trivial⟩ ?_
  generalize ivf f_s = s at *
  generalize ivf f_j = j at *
  generalize nsA f_A = A at *
  generalize nsM 0 f_A = M at *
  generalize nsV 0 f_A = V at *
  simp only [rowF_eq]
  simp only [marksR_eq, in_eq, biasR_eq, nestF_eq, nestR_lit, nsM_lit, nsV_lit, Try.f31, go_sem, ↓reduceIte, Nat.reduceAdd, Nat.reduceSub, Nat.reduceMul, Nat.reduceEqDiff, Nat.reduceLT, Nat.reduceLeDiff, Int.reduceToNat, Int.reduceLE, Int.reduceLT, Int.reduceEq, Int.reduceNeg, reduceCtorEq]
  rw [wrap_k pre.2.1]
  refine ⟨pre, fun c1 => ?_, fun c1 => ⟨fun c2 => ?_, fun c2 => ?_⟩⟩
  · simp only [Bool.not_eq_true'] at c1
    rw [c1]; rfl
  · simp only [Bool.not_eq_true'] at c2
    simp only [Bool.not_eq_false'] at c1
    rw [c1]; simp only [biX, biY, biE, c2]; rfl
  simp only [Bool.not_eq_false'] at c1 c2
  refine ⟨Bsp.of c1 c2, fun c3 => ?_, fun c3 => ?_⟩
  · simp only [Bool.not_eq_true'] at c3
    rw [c1]; simp only [biX, biY, biE, c2, c3, biN, biD]; rfl
  · simp only [Bool.not_eq_false'] at c3
    rw [c1]; simp only [biX, biY, biE, c2, c3]; rfl
def BiasBase : BaseF := fun args => match args with
  | [.agg [.row n sz_s f_s, .row k sz_j f_j, .row m sz_A f_A], .int .i64 g] => some ((sz_s = 1 ∧ IntR n 1 f_s) ∧ (sz_j = 1 ∧ IntR k 1 f_j) ∧ (sz_A = 1 ∧ NestR m 1 0 1 f_A) ∧ (n ≤ 1000000 ∧ k ≤ 1000000 ∧ m ≤ 1000000), .tup [.agg [.int .i64 (biX (mkB n (fun i => (ivf f_s) i 0) k (fun i => (ivf f_j) i 0) m (nsM 0 f_A) (fun i e => (nsV 0 f_A) i e 0)) k g (bsF (fun i => (ivf f_s) i 0) ((ivf f_j) g.toNat 0) k g.toNat (fun i e => (nsV 0 f_A) i e 0) n)), .int .i64 (biY (mkB n (fun i => (ivf f_s) i 0) k (fun i => (ivf f_j) i 0) m (nsM 0 f_A) (fun i e => (nsV 0 f_A) i e 0)) k g (bsF (fun i => (ivf f_s) i 0) ((ivf f_j) g.toNat 0) k g.toNat (fun i e => (nsV 0 f_A) i e 0) n))], .int .i64 (biE (mkB n (fun i => (ivf f_s) i 0) k (fun i => (ivf f_j) i 0) m (nsM 0 f_A) (fun i e => (nsV 0 f_A) i e 0)) k g (bsF (fun i => (ivf f_s) i 0) ((ivf f_j) g.toNat 0) k g.toNat (fun i e => (nsV 0 f_A) i e 0) n))])
  | _ => none
theorem Bias_eq (n : Nat) (sz_s : Nat) (f_s : Nat → Nat → SV) (k : Nat) (sz_j : Nat) (f_j : Nat → Nat → SV) (m : Nat) (sz_A : Nat) (f_A : Nat → Nat → SV) (g : Int) : BiasBase [.agg [.row n sz_s f_s, .row k sz_j f_j, .row m sz_A f_A], .int .i64 g] = some ((sz_s = 1 ∧ IntR n 1 f_s) ∧ (sz_j = 1 ∧ IntR k 1 f_j) ∧ (sz_A = 1 ∧ NestR m 1 0 1 f_A) ∧ (n ≤ 1000000 ∧ k ≤ 1000000 ∧ m ≤ 1000000), .tup [.agg [.int .i64 (biX (mkB n (fun i => (ivf f_s) i 0) k (fun i => (ivf f_j) i 0) m (nsM 0 f_A) (fun i e => (nsV 0 f_A) i e 0)) k g (bsF (fun i => (ivf f_s) i 0) ((ivf f_j) g.toNat 0) k g.toNat (fun i e => (nsV 0 f_A) i e 0) n)), .int .i64 (biY (mkB n (fun i => (ivf f_s) i 0) k (fun i => (ivf f_j) i 0) m (nsM 0 f_A) (fun i e => (nsV 0 f_A) i e 0)) k g (bsF (fun i => (ivf f_s) i 0) ((ivf f_j) g.toNat 0) k g.toNat (fun i e => (nsV 0 f_A) i e 0) n))], .int .i64 (biE (mkB n (fun i => (ivf f_s) i 0) k (fun i => (ivf f_j) i 0) m (nsM 0 f_A) (fun i e => (nsV 0 f_A) i e 0)) k g (bsF (fun i => (ivf f_s) i 0) ((ivf f_j) g.toNat 0) k g.toNat (fun i e => (nsV 0 f_A) i e 0) n))]) := rfl
theorem Bias_base : Base Try.prog 28 BiasBase := by
  intro args p v hq hp
  unfold BiasBase at hq
  split at hq
  rotate_left
  · cases hq
  rename_i n sz_s f_s k sz_j f_j m sz_A f_A g
  cases hq
  obtain ⟨⟨rfl, i_s⟩, ⟨rfl, i_j⟩, ⟨rfl, i_A⟩, pre⟩ := hp
  refine base_of (C := cx [] [] [(44, withinBase), (59, areMarksBase), (60, biasBase)] [] none) (cx_ok trivial ⟨within_base, areMarks_base, bias_base, trivial⟩) rfl (g := 28) (fn := Try.f28)
    (args' := [.agg [.row n 1 (rowF .i64 (ivf f_s)), .row k 1 (rowF .i64 (ivf f_j)), .row m 1 (nestF 0 1 (nsA f_A) (nsM 0 f_A) (nsV 0 f_A))], .int .i64 g]) (fn_28) rfl 1000 (by
    simp only [BdL, Bd, and_self, and_true, true_and]
    exact ⟨(fun i j hi hj => by rw [i_s i j hi hj]; trivial), (fun i j hi hj => by rw [i_j i j hi hj]; trivial), (fun i j hi hj => nest_bd i_A i j hi hj)⟩) ⟨SameD.agg ⟨SameD.int i_s, SameD.int i_j, SameD.nest i_A, trivial⟩, SameD.rfl' _, trivial⟩ ?_
  generalize ivf f_s = s at *
  generalize ivf f_j = j at *
  generalize nsA f_A = A at *
  generalize nsM 0 f_A = M at *
  generalize nsV 0 f_A = V at *
  simp only [rowF_eq]
  simp only [within_eq, areMarks_eq, bias_eq, nestF_eq, nestR_lit, nsM_lit, nsV_lit, Try.f28, go_sem, ↓reduceIte, Nat.reduceAdd, Nat.reduceSub, Nat.reduceMul, Nat.reduceEqDiff, Nat.reduceLT, Nat.reduceLeDiff, Int.reduceToNat, Int.reduceLE, Int.reduceLT, Int.reduceEq, Int.reduceNeg, reduceCtorEq]
  rw [wrap_k pre.2.1]
  refine ⟨pre, fun c1 => ?_, fun c1 => ⟨fun c2 => ?_, fun c2 => ?_⟩⟩
  · simp only [Bool.not_eq_true'] at c1
    rw [c1]; rfl
  · simp only [Bool.not_eq_true'] at c2
    simp only [Bool.not_eq_false'] at c1
    rw [c1]; simp only [biX, biY, biE, c2]; rfl
  simp only [Bool.not_eq_false'] at c1 c2
  refine ⟨Bsp.of c1 c2, fun c3 => ?_, fun c3 => ?_⟩
  · simp only [Bool.not_eq_true'] at c3
    rw [c1]; simp only [biX, biY, biE, c2, c3, biN, biD]; rfl
  · simp only [Bool.not_eq_false'] at c3
    rw [c1]; simp only [biX, biY, biE, c2, c3]; rfl
def BiasedRBase : BaseF := fun args => match args with
  | [.agg [.row n sz_s f_s, .row k sz_j f_j, .row m sz_A f_A], .int .i64 lim] => some ((sz_s = 1 ∧ IntR n 1 f_s) ∧ (sz_j = 1 ∧ IntR k 1 f_j) ∧ (sz_A = 1 ∧ NestR m 1 0 1 f_A) ∧ (n ≤ 1000000 ∧ k ≤ 1000000 ∧ m ≤ 1000000), .tup [.row (bdN (mkB n (fun i => (ivf f_s) i 0) k (fun i => (ivf f_j) i 0) m (nsM 0 f_A) (fun i e => (nsV 0 f_A) i e 0)) (bjB (fun i => (ivf f_s) i 0) (fun i => (ivf f_j) i 0) k (fun i e => (nsV 0 f_A) i e 0) n lim) k lim) 1 (fun i _ => .int .i64 (slF (bjB (fun i => (ivf f_s) i 0) (fun i => (ivf f_j) i 0) k (fun i e => (nsV 0 f_A) i e 0) n lim) k i)), .int .i64 (bdE (mkB n (fun i => (ivf f_s) i 0) k (fun i => (ivf f_j) i 0) m (nsM 0 f_A) (fun i e => (nsV 0 f_A) i e 0)) lim)])
  | _ => none
theorem BiasedR_eq (n : Nat) (sz_s : Nat) (f_s : Nat → Nat → SV) (k : Nat) (sz_j : Nat) (f_j : Nat → Nat → SV) (m : Nat) (sz_A : Nat) (f_A : Nat → Nat → SV) (lim : Int) : BiasedRBase [.agg [.row n sz_s f_s, .row k sz_j f_j, .row m sz_A f_A], .int .i64 lim] = some ((sz_s = 1 ∧ IntR n 1 f_s) ∧ (sz_j = 1 ∧ IntR k 1 f_j) ∧ (sz_A = 1 ∧ NestR m 1 0 1 f_A) ∧ (n ≤ 1000000 ∧ k ≤ 1000000 ∧ m ≤ 1000000), .tup [.row (bdN (mkB n (fun i => (ivf f_s) i 0) k (fun i => (ivf f_j) i 0) m (nsM 0 f_A) (fun i e => (nsV 0 f_A) i e 0)) (bjB (fun i => (ivf f_s) i 0) (fun i => (ivf f_j) i 0) k (fun i e => (nsV 0 f_A) i e 0) n lim) k lim) 1 (fun i _ => .int .i64 (slF (bjB (fun i => (ivf f_s) i 0) (fun i => (ivf f_j) i 0) k (fun i e => (nsV 0 f_A) i e 0) n lim) k i)), .int .i64 (bdE (mkB n (fun i => (ivf f_s) i 0) k (fun i => (ivf f_j) i 0) m (nsM 0 f_A) (fun i e => (nsV 0 f_A) i e 0)) lim)]) := rfl
theorem BiasedR_base : Base Try.prog 33 BiasedRBase := by
  intro args p v hq hp
  unfold BiasedRBase at hq
  split at hq
  rotate_left
  · cases hq
  rename_i n sz_s f_s k sz_j f_j m sz_A f_A lim
  cases hq
  obtain ⟨⟨rfl, i_s⟩, ⟨rfl, i_j⟩, ⟨rfl, i_A⟩, pre⟩ := hp
  refine baseF_of (C := cx [] [] [(29, marksRBase), (51, inBase), (61, biasRBase)] [] none) (cx_ok trivial ⟨marksR_base, in_base, biasR_base, trivial⟩) rfl (g := 33) (fn := Try.f33)
    (args' := [.agg [.row n 1 (rowF .i64 (ivf f_s)), .row k 1 (rowF .i64 (ivf f_j)), .row m 1 (nestF 0 1 (nsA f_A) (nsM 0 f_A) (nsV 0 f_A))], .int .i64 lim]) (fn_33) rfl 1000 (by
    simp only [BdL, Bd, and_self, and_true, true_and]
    exact ⟨(fun i j hi hj => by rw [i_s i j hi hj]; trivial), (fun i j hi hj => by rw [i_j i j hi hj]; trivial), (fun i j hi hj => nest_bd i_A i j hi hj)⟩) ⟨SameD.agg ⟨SameD.int i_s, SameD.int i_j, SameD.nest i_A, trivial⟩, SameD.rfl' _, trivial⟩ ?_
  generalize ivf f_s = s at *
  generalize ivf f_j = j at *
  generalize nsA f_A = A at *
  generalize nsM 0 f_A = M at *
  generalize nsV 0 f_A = V at *
  simp only [rowF_eq]
  simp only [marksR_eq, in_eq, biasR_eq, nestF_eq, nestR_lit, nsM_lit, nsV_lit, Try.f33, go_sem, ↓reduceIte, Nat.reduceAdd, Nat.reduceSub, Nat.reduceMul, Nat.reduceEqDiff, Nat.reduceLT, Nat.reduceLeDiff, Int.reduceToNat, Int.reduceLE, Int.reduceLT, Int.reduceEq, Int.reduceNeg, reduceCtorEq]
  refine ⟨pre, fun c1 => ?_, fun c1 => ⟨fun c2 => ?_, fun c2 => ?_⟩⟩
  · simp only [Bool.not_eq_true'] at c1
    rw [c1]; exact ⟨⟨rfl, fun i j hi => absurd hi (Nat.not_lt_zero _)⟩, rfl⟩
  · simp only [Bool.not_eq_true'] at c2
    simp only [Bool.not_eq_false'] at c1
    rw [c1]; simp only [bdN, bdE, c2]; exact ⟨⟨rfl, fun i j hi => absurd hi (Nat.not_lt_zero _)⟩, rfl⟩
  simp only [Bool.not_eq_false'] at c1 c2
  refine loop_ofH { i : Nat // i ≤ k } (fun i => [(7, .int .i64 (i.1 : Int)), (6, .vec 1 (cnF (bjB (fun i => s i 0) (fun i => j i 0) k (fun i e => V i e 0) n lim) i.1)), (2, .ptr 0 0), (1, .int .i64 lim)]) (fun _ i => { blks := [.live 54 [.row n 1 (fun i j => .int .i64 (s i j)), .row k 1 (fun i e => .int .i64 (j i e)), .row m 1 (nestF 0 1 A M V)]], vecs := [.live 0 3 1 0 (fun _ _ => .any), .live (cnF (bjB (fun i => s i 0) (fun i => j i 0) k (fun i e => V i e 0) n lim) i.1) 3 1 (cnF (bjB (fun i => s i 0) (fun i => j i 0) k (fun i e => V i e 0) n lim) i.1) (fun a _ => .int .i64 (slF (bjB (fun i => s i 0) (fun i => j i 0) k (fun i e => V i e 0) n lim) i.1 a))] }) (fun i => k - i.1) (fun _ => ⟨rfl, rfl⟩) ⟨0, by omega⟩ (by (apply sub_of <;> simp only [go_sem, ↓reduceIte, Nat.reduceAdd, Nat.reduceSub, Nat.reduceMul, Nat.reduceEqDiff, Nat.reduceLT, Nat.reduceLeDiff, Int.reduceToNat, Int.reduceLE, Int.reduceLT, Int.reduceEq, Int.reduceNeg, reduceCtorEq] <;> (try simp [catF]) <;> (try exact fun j _ => Bd_nth (by simp [BdL, Bd]) j) <;> (try exact bd_setL (by simp [bdAs, BdL, Bd])) <;> (try exact nestF_bd _ _ _ _ _ _ _ _ _)) <;> first | (first | ((repeat' refine And.intro ?_ ?_) <;> first | trivial | rfl | exact fun _ _ _ _ => trivial | exact nestF_bd _ _ _ _ _ _ _ _ _ | exact fun i hi => nestF_bd _ _ _ _ _ _ _ _ _ i 0 hi Nat.zero_lt_one) | ((repeat' refine And.intro ?_ ?_) <;> first | ((repeat' refine And.intro ?_ ?_) <;> first | trivial | rfl | exact fun _ _ _ _ => trivial | exact nestF_bd _ _ _ _ _ _ _ _ _ | exact fun i hi => nestF_bd _ _ _ _ _ _ _ _ _ i 0 hi Nat.zero_lt_one) | exact nth3_bd (fun _ _ _ _ => trivial) (fun _ _ _ _ => trivial) (nestF_bd _ _ _ _ _ _ _ _ _))) | exact ⟨rfl, fun _ => Nat.zero_le _⟩) ?_
  rintro ⟨i, hi⟩
  simp only [marksR_eq, in_eq, biasR_eq, nestF_eq, nestR_lit, nsM_lit, nsV_lit, Try.f33, go_sem, ↓reduceIte, Nat.reduceAdd, Nat.reduceSub, Nat.reduceMul, Nat.reduceEqDiff, Nat.reduceLT, Nat.reduceLeDiff, Int.reduceToNat, Int.reduceLE, Int.reduceLT, Int.reduceEq, Int.reduceNeg, reduceCtorEq]
  refine ⟨fun e1 => ?_, fun e1 => ?_⟩
  rotate_left
  · simp only [decide_eq_false_iff_not] at e1
    obtain rfl : i = k := by omega
    rw [c1]; simp only [bdN, bdE, c2]
    exact ⟨⟨rfl, fun _ _ _ _ => trivial⟩, rfl⟩
  simp only [decide_eq_true_eq] at e1
  have ik : i < k := by omega
  have hsp : Bsp n k m M (fun i e => V i e 0) (i : Int) := Bsp.of c1 (in3_iff.2 ⟨by omega, by omega⟩)
  have hbd := bs_bd (s := fun i => s i 0) (j := fun i => j i 0) hsp
  simp only [Int.toNat_natCast] at hbd
  obtain ⟨l1, l2⟩ := in3_iff.1 c2
  refine ⟨hsp, fun e2 => ?_, fun e2 => ?_⟩
  rotate_left
  · have hp : bjB (fun i => s i 0) (fun i => j i 0) k (fun i e => V i e 0) n lim i = false := by simp only [bjB, e2, Bool.false_and]
    have hc : cnF (bjB (fun i => s i 0) (fun i => j i 0) k (fun i e => V i e 0) n lim) (i + 1) = cnF (bjB (fun i => s i 0) (fun i => j i 0) k (fun i e => V i e 0) n lim) i := by simp only [cnF, hp, Bool.false_eq_true, if_false, Nat.add_zero]
    have hs : ∀ x, slF (bjB (fun i => s i 0) (fun i => j i 0) k (fun i e => V i e 0) n lim) (i + 1) x = slF (bjB (fun i => s i 0) (fun i => j i 0) k (fun i e => V i e 0) n lim) i x := fun x => by simp only [slF]; rw [if_neg (fun e => by rw [hp] at e; exact absurd e.1 (by decide))]
    refine ⟨⟨i + 1, by omega⟩, by simp only []; omega, ?_⟩
    apply sub_of <;> simp only [hc, hs, wrap_s ik pre.2.1, go_sem, ↓reduceIte, Nat.reduceAdd, Nat.reduceSub, Nat.reduceMul, Nat.reduceEqDiff, Nat.reduceLT, Nat.reduceLeDiff, Int.reduceToNat, Int.reduceLE, Int.reduceLT, Int.reduceEq, Int.reduceNeg, reduceCtorEq] <;> first | (first | ((repeat' refine And.intro ?_ ?_) <;> first | trivial | rfl | exact fun _ _ _ _ => trivial | exact nestF_bd _ _ _ _ _ _ _ _ _ | exact fun i hi => nestF_bd _ _ _ _ _ _ _ _ _ i 0 hi Nat.zero_lt_one) | ((repeat' refine And.intro ?_ ?_) <;> first | ((repeat' refine And.intro ?_ ?_) <;> first | trivial | rfl | exact fun _ _ _ _ => trivial | exact nestF_bd _ _ _ _ _ _ _ _ _ | exact fun i hi => nestF_bd _ _ _ _ _ _ _ _ _ i 0 hi Nat.zero_lt_one) | exact nth3_bd (fun _ _ _ _ => trivial) (fun _ _ _ _ => trivial) (nestF_bd _ _ _ _ _ _ _ _ _))) | skip
  obtain ⟨b1, b2, b3, b4⟩ := hbd e2
  have m1 := mulB (a := lim) (b := biD k (bsF (fun i => s i 0) (j i 0) k i (fun i e => V i e 0) n)) (A := 10000) (B := 11200) (by omega) (by omega) (by omega) (by omega)
  have hnl : -lim * biD k (bsF (fun i => s i 0) (j i 0) k i (fun i e => V i e 0) n) = -(lim * biD k (bsF (fun i => s i 0) (j i 0) k i (fun i e => V i e 0) n)) := Int.neg_mul _ _
  have w0 : IntKind.i64.wrap (0 - lim) = -lim := by rw [wrap_id (by omega) (by omega)]; omega
  rw [wrap_id (x := lim * biD k (bsF (fun i => s i 0) (j i 0) k i (fun i e => V i e 0) n)) (by omega) (by omega)]
  refine ⟨fun e3 => ?_, fun e3 => ?_⟩
  · have hp : bjB (fun i => s i 0) (fun i => j i 0) k (fun i e => V i e 0) n lim i = true := by simp only [bjB, e2, e3, Bool.true_or, Bool.and_self]
    have hc : cnF (bjB (fun i => s i 0) (fun i => j i 0) k (fun i e => V i e 0) n lim) (i + 1) = cnF (bjB (fun i => s i 0) (fun i => j i 0) k (fun i e => V i e 0) n lim) i + 1 := by simp only [cnF, hp, if_true]
    have hle := cnF_le (bjB (fun i => s i 0) (fun i => j i 0) k (fun i e => V i e 0) n lim) i
    refine ⟨⟨by omega, by omega⟩, ⟨i + 1, by omega⟩, by simp only []; omega, ?_⟩
    apply sub_of <;> simp only [hc, wrap_s ik pre.2.1, go_sem, ↓reduceIte, Nat.reduceAdd, Nat.reduceSub, Nat.reduceMul, Nat.reduceEqDiff, Nat.reduceLT, Nat.reduceLeDiff, Int.reduceToNat, Int.reduceLE, Int.reduceLT, Int.reduceEq, Int.reduceNeg, reduceCtorEq] <;> first | (first | ((repeat' refine And.intro ?_ ?_) <;> first | trivial | rfl | exact fun _ _ _ _ => trivial | exact nestF_bd _ _ _ _ _ _ _ _ _ | exact fun i hi => nestF_bd _ _ _ _ _ _ _ _ _ i 0 hi Nat.zero_lt_one) | ((repeat' refine And.intro ?_ ?_) <;> first | ((repeat' refine And.intro ?_ ?_) <;> first | trivial | rfl | exact fun _ _ _ _ => trivial | exact nestF_bd _ _ _ _ _ _ _ _ _ | exact fun i hi => nestF_bd _ _ _ _ _ _ _ _ _ i 0 hi Nat.zero_lt_one) | exact nth3_bd (fun _ _ _ _ => trivial) (fun _ _ _ _ => trivial) (nestF_bd _ _ _ _ _ _ _ _ _))) | skip
    exact ⟨fun _ _ _ _ => trivial, fun x y hx hy => slF_app hp hx hy⟩
  · rw [w0, hnl, wrap_id (x := -(lim * biD k (bsF (fun i => s i 0) (j i 0) k i (fun i e => V i e 0) n))) (by omega) (by omega)]
    refine ⟨fun e4 => ?_, fun e4 => ?_⟩
    · have hp : bjB (fun i => s i 0) (fun i => j i 0) k (fun i e => V i e 0) n lim i = true := by simp only [bjB, hnl, e2, e4, Bool.or_true, Bool.and_self]
      have hc : cnF (bjB (fun i => s i 0) (fun i => j i 0) k (fun i e => V i e 0) n lim) (i + 1) = cnF (bjB (fun i => s i 0) (fun i => j i 0) k (fun i e => V i e 0) n lim) i + 1 := by simp only [cnF, hp, if_true]
      have hle := cnF_le (bjB (fun i => s i 0) (fun i => j i 0) k (fun i e => V i e 0) n lim) i
      refine ⟨⟨by omega, by omega⟩, ⟨i + 1, by omega⟩, by simp only []; omega, ?_⟩
      apply sub_of <;> simp only [hc, wrap_s ik pre.2.1, go_sem, ↓reduceIte, Nat.reduceAdd, Nat.reduceSub, Nat.reduceMul, Nat.reduceEqDiff, Nat.reduceLT, Nat.reduceLeDiff, Int.reduceToNat, Int.reduceLE, Int.reduceLT, Int.reduceEq, Int.reduceNeg, reduceCtorEq] <;> first | (first | ((repeat' refine And.intro ?_ ?_) <;> first | trivial | rfl | exact fun _ _ _ _ => trivial | exact nestF_bd _ _ _ _ _ _ _ _ _ | exact fun i hi => nestF_bd _ _ _ _ _ _ _ _ _ i 0 hi Nat.zero_lt_one) | ((repeat' refine And.intro ?_ ?_) <;> first | ((repeat' refine And.intro ?_ ?_) <;> first | trivial | rfl | exact fun _ _ _ _ => trivial | exact nestF_bd _ _ _ _ _ _ _ _ _ | exact fun i hi => nestF_bd _ _ _ _ _ _ _ _ _ i 0 hi Nat.zero_lt_one) | exact nth3_bd (fun _ _ _ _ => trivial) (fun _ _ _ _ => trivial) (nestF_bd _ _ _ _ _ _ _ _ _))) | skip
      exact ⟨fun _ _ _ _ => trivial, fun x y hx hy => slF_app hp hx hy⟩
    · have hp : bjB (fun i => s i 0) (fun i => j i 0) k (fun i e => V i e 0) n lim i = false := by simp only [bjB, hnl, e2, e3, e4, Bool.or_self, Bool.and_false]
      have hc : cnF (bjB (fun i => s i 0) (fun i => j i 0) k (fun i e => V i e 0) n lim) (i + 1) = cnF (bjB (fun i => s i 0) (fun i => j i 0) k (fun i e => V i e 0) n lim) i := by simp only [cnF, hp, Bool.false_eq_true, if_false, Nat.add_zero]
      have hs : ∀ x, slF (bjB (fun i => s i 0) (fun i => j i 0) k (fun i e => V i e 0) n lim) (i + 1) x = slF (bjB (fun i => s i 0) (fun i => j i 0) k (fun i e => V i e 0) n lim) i x := fun x => by simp only [slF]; rw [if_neg (fun e => by rw [hp] at e; exact absurd e.1 (by decide))]
      refine ⟨⟨i + 1, by omega⟩, by simp only []; omega, ?_⟩
      apply sub_of <;> simp only [hc, hs, wrap_s ik pre.2.1, go_sem, ↓reduceIte, Nat.reduceAdd, Nat.reduceSub, Nat.reduceMul, Nat.reduceEqDiff, Nat.reduceLT, Nat.reduceLeDiff, Int.reduceToNat, Int.reduceLE, Int.reduceLT, Int.reduceEq, Int.reduceNeg, reduceCtorEq] <;> first | (first | ((repeat' refine And.intro ?_ ?_) <;> first | trivial | rfl | exact fun _ _ _ _ => trivial | exact nestF_bd _ _ _ _ _ _ _ _ _ | exact fun i hi => nestF_bd _ _ _ _ _ _ _ _ _ i 0 hi Nat.zero_lt_one) | ((repeat' refine And.intro ?_ ?_) <;> first | ((repeat' refine And.intro ?_ ?_) <;> first | trivial | rfl | exact fun _ _ _ _ => trivial | exact nestF_bd _ _ _ _ _ _ _ _ _ | exact fun i hi => nestF_bd _ _ _ _ _ _ _ _ _ i 0 hi Nat.zero_lt_one) | exact nth3_bd (fun _ _ _ _ => trivial) (fun _ _ _ _ => trivial) (nestF_bd _ _ _ _ _ _ _ _ _))) | skip
def BiasedBase : BaseF := fun args => match args with
  | [.agg [.row n sz_s f_s, .row k sz_j f_j, .row m sz_A f_A], .int .i64 lim] => some ((sz_s = 1 ∧ IntR n 1 f_s) ∧ (sz_j = 1 ∧ IntR k 1 f_j) ∧ (sz_A = 1 ∧ NestR m 1 0 1 f_A) ∧ (n ≤ 1000000 ∧ k ≤ 1000000 ∧ m ≤ 1000000), .tup [.row (bdN (mkB n (fun i => (ivf f_s) i 0) k (fun i => (ivf f_j) i 0) m (nsM 0 f_A) (fun i e => (nsV 0 f_A) i e 0)) (bjB (fun i => (ivf f_s) i 0) (fun i => (ivf f_j) i 0) k (fun i e => (nsV 0 f_A) i e 0) n lim) k lim) 1 (fun i _ => .int .i64 (slF (bjB (fun i => (ivf f_s) i 0) (fun i => (ivf f_j) i 0) k (fun i e => (nsV 0 f_A) i e 0) n lim) k i)), .int .i64 (bdE (mkB n (fun i => (ivf f_s) i 0) k (fun i => (ivf f_j) i 0) m (nsM 0 f_A) (fun i e => (nsV 0 f_A) i e 0)) lim)])
  | _ => none
theorem Biased_eq (n : Nat) (sz_s : Nat) (f_s : Nat → Nat → SV) (k : Nat) (sz_j : Nat) (f_j : Nat → Nat → SV) (m : Nat) (sz_A : Nat) (f_A : Nat → Nat → SV) (lim : Int) : BiasedBase [.agg [.row n sz_s f_s, .row k sz_j f_j, .row m sz_A f_A], .int .i64 lim] = some ((sz_s = 1 ∧ IntR n 1 f_s) ∧ (sz_j = 1 ∧ IntR k 1 f_j) ∧ (sz_A = 1 ∧ NestR m 1 0 1 f_A) ∧ (n ≤ 1000000 ∧ k ≤ 1000000 ∧ m ≤ 1000000), .tup [.row (bdN (mkB n (fun i => (ivf f_s) i 0) k (fun i => (ivf f_j) i 0) m (nsM 0 f_A) (fun i e => (nsV 0 f_A) i e 0)) (bjB (fun i => (ivf f_s) i 0) (fun i => (ivf f_j) i 0) k (fun i e => (nsV 0 f_A) i e 0) n lim) k lim) 1 (fun i _ => .int .i64 (slF (bjB (fun i => (ivf f_s) i 0) (fun i => (ivf f_j) i 0) k (fun i e => (nsV 0 f_A) i e 0) n lim) k i)), .int .i64 (bdE (mkB n (fun i => (ivf f_s) i 0) k (fun i => (ivf f_j) i 0) m (nsM 0 f_A) (fun i e => (nsV 0 f_A) i e 0)) lim)]) := rfl
theorem Biased_base : Base Try.prog 32 BiasedBase := by
  intro args p v hq hp
  unfold BiasedBase at hq
  split at hq
  rotate_left
  · cases hq
  rename_i n sz_s f_s k sz_j f_j m sz_A f_A lim
  cases hq
  obtain ⟨⟨rfl, i_s⟩, ⟨rfl, i_j⟩, ⟨rfl, i_A⟩, pre⟩ := hp
  refine baseF_of (C := cx [] [] [(44, withinBase), (59, areMarksBase), (60, biasBase)] [] none) (cx_ok trivial ⟨within_base, areMarks_base, bias_base, trivial⟩) rfl (g := 32) (fn := Try.f32)
    (args' := [.agg [.row n 1 (rowF .i64 (ivf f_s)), .row k 1 (rowF .i64 (ivf f_j)), .row m 1 (nestF 0 1 (nsA f_A) (nsM 0 f_A) (nsV 0 f_A))], .int .i64 lim]) (fn_32) rfl 1000 (by
    simp only [BdL, Bd, and_self, and_true, true_and]
    exact ⟨(fun i j hi hj => by rw [i_s i j hi hj]; trivial), (fun i j hi hj => by rw [i_j i j hi hj]; trivial), (fun i j hi hj => nest_bd i_A i j hi hj)⟩) ⟨SameD.agg ⟨SameD.int i_s, SameD.int i_j, SameD.nest i_A, trivial⟩, SameD.rfl' _, trivial⟩ ?_
  generalize ivf f_s = s at *
  generalize ivf f_j = j at *
  generalize nsA f_A = A at *
  generalize nsM 0 f_A = M at *
  generalize nsV 0 f_A = V at *
  simp only [rowF_eq]
  simp only [within_eq, areMarks_eq, bias_eq, nestF_eq, nestR_lit, nsM_lit, nsV_lit, Try.f32, go_sem, ↓reduceIte, Nat.reduceAdd, Nat.reduceSub, Nat.reduceMul, Nat.reduceEqDiff, Nat.reduceLT, Nat.reduceLeDiff, Int.reduceToNat, Int.reduceLE, Int.reduceLT, Int.reduceEq, Int.reduceNeg, reduceCtorEq]
  refine ⟨pre, fun c1 => ?_, fun c1 => ⟨fun c2 => ?_, fun c2 => ?_⟩⟩
  · simp only [Bool.not_eq_true'] at c1
    rw [c1]; exact ⟨⟨rfl, fun i j hi => absurd hi (Nat.not_lt_zero _)⟩, rfl⟩
  · simp only [Bool.not_eq_true'] at c2
    simp only [Bool.not_eq_false'] at c1
    rw [c1]; simp only [bdN, bdE, c2]; exact ⟨⟨rfl, fun i j hi => absurd hi (Nat.not_lt_zero _)⟩, rfl⟩
  simp only [Bool.not_eq_false'] at c1 c2
  refine loop_ofH { i : Nat // i ≤ k } (fun i => [(21, .int .i64 (i.1 : Int)), (20, .int .i64 (k : Int)), (6, .vec 1 (cnF (bjB (fun i => s i 0) (fun i => j i 0) k (fun i e => V i e 0) n lim) i.1)), (2, .ptr 0 0), (1, .int .i64 lim)]) (fun _ i => { blks := [.live 54 [.row n 1 (fun i j => .int .i64 (s i j)), .row k 1 (fun i e => .int .i64 (j i e)), .row m 1 (nestF 0 1 A M V)]], vecs := [.live 0 3 1 0 (fun _ _ => .any), .live (cnF (bjB (fun i => s i 0) (fun i => j i 0) k (fun i e => V i e 0) n lim) i.1) 3 1 (cnF (bjB (fun i => s i 0) (fun i => j i 0) k (fun i e => V i e 0) n lim) i.1) (fun a _ => .int .i64 (slF (bjB (fun i => s i 0) (fun i => j i 0) k (fun i e => V i e 0) n lim) i.1 a))] }) (fun i => k - i.1) (fun _ => ⟨rfl, rfl⟩) ⟨0, by omega⟩ (by (apply sub_of <;> simp only [go_sem, ↓reduceIte, Nat.reduceAdd, Nat.reduceSub, Nat.reduceMul, Nat.reduceEqDiff, Nat.reduceLT, Nat.reduceLeDiff, Int.reduceToNat, Int.reduceLE, Int.reduceLT, Int.reduceEq, Int.reduceNeg, reduceCtorEq] <;> (try simp [catF]) <;> (try exact fun j _ => Bd_nth (by simp [BdL, Bd]) j) <;> (try exact bd_setL (by simp [bdAs, BdL, Bd])) <;> (try exact nestF_bd _ _ _ _ _ _ _ _ _)) <;> first | (first | ((repeat' refine And.intro ?_ ?_) <;> first | trivial | rfl | exact fun _ _ _ _ => trivial | exact nestF_bd _ _ _ _ _ _ _ _ _ | exact fun i hi => nestF_bd _ _ _ _ _ _ _ _ _ i 0 hi Nat.zero_lt_one) | ((repeat' refine And.intro ?_ ?_) <;> first | ((repeat' refine And.intro ?_ ?_) <;> first | trivial | rfl | exact fun _ _ _ _ => trivial | exact nestF_bd _ _ _ _ _ _ _ _ _ | exact fun i hi => nestF_bd _ _ _ _ _ _ _ _ _ i 0 hi Nat.zero_lt_one) | exact nth3_bd (fun _ _ _ _ => trivial) (fun _ _ _ _ => trivial) (nestF_bd _ _ _ _ _ _ _ _ _))) | exact ⟨rfl, fun _ => Nat.zero_le _⟩) ?_
  rintro ⟨i, hi⟩
  simp only [within_eq, areMarks_eq, bias_eq, nestF_eq, nestR_lit, nsM_lit, nsV_lit, Try.f32, go_sem, ↓reduceIte, Nat.reduceAdd, Nat.reduceSub, Nat.reduceMul, Nat.reduceEqDiff, Nat.reduceLT, Nat.reduceLeDiff, Int.reduceToNat, Int.reduceLE, Int.reduceLT, Int.reduceEq, Int.reduceNeg, reduceCtorEq]
  refine ⟨fun e1 => ?_, fun e1 => ?_⟩
  rotate_left
  · simp only [decide_eq_false_iff_not] at e1
    obtain rfl : i = k := by omega
    rw [c1]; simp only [bdN, bdE, c2]
    exact ⟨⟨rfl, fun _ _ _ _ => trivial⟩, rfl⟩
  simp only [decide_eq_true_eq] at e1
  have ik : i < k := by omega
  have hsp : Bsp n k m M (fun i e => V i e 0) (i : Int) := Bsp.of c1 (in3_iff.2 ⟨by omega, by omega⟩)
  have hbd := bs_bd (s := fun i => s i 0) (j := fun i => j i 0) hsp
  simp only [Int.toNat_natCast] at hbd
  obtain ⟨l1, l2⟩ := in3_iff.1 c2
  refine ⟨hsp, fun e2 => ?_, fun e2 => ?_⟩
  rotate_left
  · have hp : bjB (fun i => s i 0) (fun i => j i 0) k (fun i e => V i e 0) n lim i = false := by simp only [bjB, e2, Bool.false_and]
    have hc : cnF (bjB (fun i => s i 0) (fun i => j i 0) k (fun i e => V i e 0) n lim) (i + 1) = cnF (bjB (fun i => s i 0) (fun i => j i 0) k (fun i e => V i e 0) n lim) i := by simp only [cnF, hp, Bool.false_eq_true, if_false, Nat.add_zero]
    have hs : ∀ x, slF (bjB (fun i => s i 0) (fun i => j i 0) k (fun i e => V i e 0) n lim) (i + 1) x = slF (bjB (fun i => s i 0) (fun i => j i 0) k (fun i e => V i e 0) n lim) i x := fun x => by simp only [slF]; rw [if_neg (fun e => by rw [hp] at e; exact absurd e.1 (by decide))]
    refine ⟨⟨i + 1, by omega⟩, by simp only []; omega, ?_⟩
    apply sub_of <;> simp only [hc, hs, wrap_s ik pre.2.1, go_sem, ↓reduceIte, Nat.reduceAdd, Nat.reduceSub, Nat.reduceMul, Nat.reduceEqDiff, Nat.reduceLT, Nat.reduceLeDiff, Int.reduceToNat, Int.reduceLE, Int.reduceLT, Int.reduceEq, Int.reduceNeg, reduceCtorEq] <;> first | (first | ((repeat' refine And.intro ?_ ?_) <;> first | trivial | rfl | exact fun _ _ _ _ => trivial | exact nestF_bd _ _ _ _ _ _ _ _ _ | exact fun i hi => nestF_bd _ _ _ _ _ _ _ _ _ i 0 hi Nat.zero_lt_one) | ((repeat' refine And.intro ?_ ?_) <;> first | ((repeat' refine And.intro ?_ ?_) <;> first | trivial | rfl | exact fun _ _ _ _ => trivial | exact nestF_bd _ _ _ _ _ _ _ _ _ | exact fun i hi => nestF_bd _ _ _ _ _ _ _ _ _ i 0 hi Nat.zero_lt_one) | exact nth3_bd (fun _ _ _ _ => trivial) (fun _ _ _ _ => trivial) (nestF_bd _ _ _ _ _ _ _ _ _))) | skip
  obtain ⟨b1, b2, b3, b4⟩ := hbd e2
  have m1 := mulB (a := lim) (b := biD k (bsF (fun i => s i 0) (j i 0) k i (fun i e => V i e 0) n)) (A := 10000) (B := 11200) (by omega) (by omega) (by omega) (by omega)
  have hnl : -lim * biD k (bsF (fun i => s i 0) (j i 0) k i (fun i e => V i e 0) n) = -(lim * biD k (bsF (fun i => s i 0) (j i 0) k i (fun i e => V i e 0) n)) := Int.neg_mul _ _
  rw [wrap_id (x := lim * biD k (bsF (fun i => s i 0) (j i 0) k i (fun i e => V i e 0) n)) (by omega) (by omega), wrap_id (x := 0 - biN k (bsF (fun i => s i 0) (j i 0) k i (fun i e => V i e 0) n)) (by omega) (by omega)]
  refine ⟨fun e3 => ?_, fun e3 => ?_⟩
  · have hp : bjB (fun i => s i 0) (fun i => j i 0) k (fun i e => V i e 0) n lim i = true := by
      simp only [decide_eq_true_eq] at e3
      simp only [bjB, hnl, e2, Bool.true_and, Bool.or_eq_true, decide_eq_true_eq]
      omega
    have hc : cnF (bjB (fun i => s i 0) (fun i => j i 0) k (fun i e => V i e 0) n lim) (i + 1) = cnF (bjB (fun i => s i 0) (fun i => j i 0) k (fun i e => V i e 0) n lim) i + 1 := by simp only [cnF, hp, if_true]
    have hle := cnF_le (bjB (fun i => s i 0) (fun i => j i 0) k (fun i e => V i e 0) n lim) i
    refine ⟨⟨by omega, by omega⟩, ⟨i + 1, by omega⟩, by simp only []; omega, ?_⟩
    apply sub_of <;> simp only [hc, wrap_s ik pre.2.1, go_sem, ↓reduceIte, Nat.reduceAdd, Nat.reduceSub, Nat.reduceMul, Nat.reduceEqDiff, Nat.reduceLT, Nat.reduceLeDiff, Int.reduceToNat, Int.reduceLE, Int.reduceLT, Int.reduceEq, Int.reduceNeg, reduceCtorEq] <;> first | (first | ((repeat' refine And.intro ?_ ?_) <;> first | trivial | rfl | exact fun _ _ _ _ => trivial | exact nestF_bd _ _ _ _ _ _ _ _ _ | exact fun i hi => nestF_bd _ _ _ _ _ _ _ _ _ i 0 hi Nat.zero_lt_one) | ((repeat' refine And.intro ?_ ?_) <;> first | ((repeat' refine And.intro ?_ ?_) <;> first | trivial | rfl | exact fun _ _ _ _ => trivial | exact nestF_bd _ _ _ _ _ _ _ _ _ | exact fun i hi => nestF_bd _ _ _ _ _ _ _ _ _ i 0 hi Nat.zero_lt_one) | exact nth3_bd (fun _ _ _ _ => trivial) (fun _ _ _ _ => trivial) (nestF_bd _ _ _ _ _ _ _ _ _))) | skip
    exact ⟨fun _ _ _ _ => trivial, fun x y hx hy => slF_app hp hx hy⟩
  · have hp : bjB (fun i => s i 0) (fun i => j i 0) k (fun i e => V i e 0) n lim i = false := by
      simp only [decide_eq_false_iff_not] at e3
      simp only [bjB, hnl, e2, Bool.true_and, Bool.or_eq_false_iff, decide_eq_false_iff_not]
      omega
    have hc : cnF (bjB (fun i => s i 0) (fun i => j i 0) k (fun i e => V i e 0) n lim) (i + 1) = cnF (bjB (fun i => s i 0) (fun i => j i 0) k (fun i e => V i e 0) n lim) i := by simp only [cnF, hp, Bool.false_eq_true, if_false, Nat.add_zero]
    have hs : ∀ x, slF (bjB (fun i => s i 0) (fun i => j i 0) k (fun i e => V i e 0) n lim) (i + 1) x = slF (bjB (fun i => s i 0) (fun i => j i 0) k (fun i e => V i e 0) n lim) i x := fun x => by simp only [slF]; rw [if_neg (fun e => by rw [hp] at e; exact absurd e.1 (by decide))]
    refine ⟨⟨i + 1, by omega⟩, by simp only []; omega, ?_⟩
    apply sub_of <;> simp only [hc, hs, wrap_s ik pre.2.1, go_sem, ↓reduceIte, Nat.reduceAdd, Nat.reduceSub, Nat.reduceMul, Nat.reduceEqDiff, Nat.reduceLT, Nat.reduceLeDiff, Int.reduceToNat, Int.reduceLE, Int.reduceLT, Int.reduceEq, Int.reduceNeg, reduceCtorEq] <;> first | (first | ((repeat' refine And.intro ?_ ?_) <;> first | trivial | rfl | exact fun _ _ _ _ => trivial | exact nestF_bd _ _ _ _ _ _ _ _ _ | exact fun i hi => nestF_bd _ _ _ _ _ _ _ _ _ i 0 hi Nat.zero_lt_one) | ((repeat' refine And.intro ?_ ?_) <;> first | ((repeat' refine And.intro ?_ ?_) <;> first | trivial | rfl | exact fun _ _ _ _ => trivial | exact nestF_bd _ _ _ _ _ _ _ _ _ | exact fun i hi => nestF_bd _ _ _ _ _ _ _ _ _ i 0 hi Nat.zero_lt_one) | exact nth3_bd (fun _ _ _ _ => trivial) (fun _ _ _ _ => trivial) (nestF_bd _ _ _ _ _ _ _ _ _))) | skip
end Go.Eng
end

/- panel: PanelBias. -/
section
namespace Go.Eng
open Go Go.RowKit Go.Proofs
set_option maxRecDepth 100000
set_option maxHeartbeats 4000000
attribute [local irreducible] OwnT DefS
theorem lg_len {m M most long} (h : lgB m M most long = false) : (m : Int) ≤ most := by
  simp only [lgB, Bool.not_eq_false', Bool.and_eq_true, decide_eq_true_eq] at h; exact h.1
def panelBiasBase : BaseF := fun args => match args with
  | [.agg [.row n sz_s f_s, .row k sz_j f_j, .row m sz_A f_A], .int .i64 g, .int .i64 lim] => some ((sz_s = 1 ∧ IntR n 1 f_s) ∧ (sz_j = 1 ∧ IntR k 1 f_j) ∧ (sz_A = 1 ∧ NestR m 1 0 1 f_A), .bool true)
  | _ => none
theorem panelBias_eq (n : Nat) (sz_s : Nat) (f_s : Nat → Nat → SV) (k : Nat) (sz_j : Nat) (f_j : Nat → Nat → SV) (m : Nat) (sz_A : Nat) (f_A : Nat → Nat → SV) (g : Int) (lim : Int) : panelBiasBase [.agg [.row n sz_s f_s, .row k sz_j f_j, .row m sz_A f_A], .int .i64 g, .int .i64 lim] = some ((sz_s = 1 ∧ IntR n 1 f_s) ∧ (sz_j = 1 ∧ IntR k 1 f_j) ∧ (sz_A = 1 ∧ NestR m 1 0 1 f_A), .bool true) := rfl
theorem panelBias_base : Base Try.prog 9 panelBiasBase := by
  intro args p v hq hp
  unfold panelBiasBase at hq
  split at hq
  rotate_left
  · cases hq
  rename_i n sz_s f_s k sz_j f_j m sz_A f_A g lim
  cases hq
  obtain ⟨⟨rfl, i_s⟩, ⟨rfl, i_j⟩, ⟨rfl, i_A⟩⟩ := hp
  refine base_of (C := cx [] [] [(12, longerBase), (13, awakeBase), (24, intsBase), (28, BiasBase), (31, BiasRBase), (32, BiasedBase), (33, BiasedRBase)] [] none) (cx_ok trivial ⟨longer_base, awake_base, ints_base, Bias_base, BiasR_base, Biased_base, BiasedR_base, trivial⟩) rfl (g := 9) (fn := Try.f9)
    (args' := [.agg [.row n 1 (rowF .i64 (ivf f_s)), .row k 1 (rowF .i64 (ivf f_j)), .row m 1 (nestF 0 1 (nsA f_A) (nsM 0 f_A) (nsV 0 f_A))], .int .i64 g, .int .i64 lim]) (fn_9) rfl 1000 (by
    simp only [BdL, Bd, and_self, and_true, true_and]
    exact ⟨(fun i j hi hj => by rw [i_s i j hi hj]; trivial), (fun i j hi hj => by rw [i_j i j hi hj]; trivial), (fun i j hi hj => nest_bd i_A i j hi hj)⟩) ⟨SameD.agg ⟨SameD.int i_s, SameD.int i_j, SameD.nest i_A, trivial⟩, SameD.rfl' _, SameD.rfl' _, trivial⟩ ?_
  generalize ivf f_s = s
  generalize ivf f_j = j
  generalize nsA f_A = A
  generalize nsM 0 f_A = M
  generalize nsV 0 f_A = V
  simp only [rowF_eq]
  simp only [longer_eq, awake_eq, ints_eq, Bias_eq, BiasR_eq, Biased_eq, BiasedR_eq, nestF_eq, nestR_lit, nsM_lit, nsV_lit, Try.f9, go_sem, ↓reduceIte, Nat.reduceAdd, Nat.reduceSub, Nat.reduceMul, Nat.reduceEqDiff, Nat.reduceLT, Nat.reduceLeDiff, Int.reduceToNat, Int.reduceLE, Int.reduceLT, Int.reduceEq, Int.reduceNeg, reduceCtorEq]
  refine ⟨fun _ => trivial, fun c1 => ⟨fun _ => trivial, fun c2 => ⟨fun _ => trivial, fun c3 => ?_⟩⟩⟩
  simp only [decide_eq_false_iff_not] at c1 c2
  have hm := lg_len c3
  have sz : n ≤ 1000000 ∧ k ≤ 1000000 ∧ m ≤ 1000000 := ⟨by omega, by omega, by omega⟩
  refine ⟨sz, sz, sz, sz, ?_, fun _ => trivial, fun h => ?_⟩
  · unfold bdN
    split
    · exact Nat.le_trans (cnF_le _ _) (by omega)
    · omega
  · rw [allU_true (fun _ _ => rfl)] at h; cases h
end Go.Eng
end

/- panel: PanelBiased. -/
section
namespace Go.Eng
open Go Go.RowKit Go.Proofs
set_option maxRecDepth 100000
set_option maxHeartbeats 4000000
attribute [local irreducible] OwnT DefS
theorem cnF_succ {p : Nat → Bool} {i : Nat} (h : p i = true) : cnF p (i + 1) = cnF p i + 1 := by simp only [cnF, h, if_true]
theorem cnF_same {p : Nat → Bool} {i : Nat} (h : p i = false) : cnF p (i + 1) = cnF p i := by simp only [cnF, h, Bool.false_eq_true, if_false, Nat.add_zero]
theorem cnF_mono (p : Nat → Bool) : ∀ {i n : Nat}, i ≤ n → cnF p i ≤ cnF p n
  | i, 0, h => by obtain rfl : i = 0 := by omega
                  exact Nat.le_refl _
  | i, n + 1, h => by
    rcases Nat.lt_or_ge i (n + 1) with h2 | h2
    · have := cnF_mono p (i := i) (n := n) (by omega)
      simp only [cnF]; omega
    · obtain rfl : i = n + 1 := by omega
      exact Nat.le_refl _
theorem slF_has {p : Nat → Bool} : ∀ {n i : Nat}, i < cnF p n → ∃ x, x < n ∧ slF p n i = (x : Int) ∧ p x = true ∧ cnF p x = i
  | 0, i, h => by simp [cnF] at h
  | n + 1, i, h => by
    by_cases e : p n = true ∧ i = cnF p n
    · exact ⟨n, by omega, by simp only [slF]; rw [if_pos e], e.1, e.2.symm⟩
    · have h2 : i < cnF p n := by
        simp only [cnF] at h
        split at h
        · rename_i hp
          have : i ≠ cnF p n := fun h3 => e ⟨hp, h3⟩
          omega
        · omega
      obtain ⟨x, h3, h4, h5, h6⟩ := slF_has h2
      exact ⟨x, by omega, by simp only [slF]; rw [if_neg e]; exact h4, h5, h6⟩
theorem slF_sel {p : Nat → Bool} {n j : Nat} (hj : j < n) (hp : p j = true) : cnF p j < cnF p n ∧ slF p n (cnF p j) = (j : Int) := by
  have h1 := cnF_mono p (i := j + 1) (n := n) hj
  rw [cnF_succ hp] at h1
  obtain ⟨x, h3, h4, h5, h6⟩ := slF_has (p := p) (n := n) (i := cnF p j) (by omega)
  refine ⟨by omega, ?_⟩
  rw [h4]
  rcases Nat.lt_trichotomy x j with h | h | h
  · have := cnF_mono p (i := x + 1) (n := j) h
    rw [cnF_succ h5] at this; omega
  · rw [h]
  · have := cnF_mono p (i := j + 1) (n := x) h
    rw [cnF_succ hp] at this; omega
/-- Whether the next one told is j, is whether j is one. -/
theorem slF_told {p : Nat → Bool} {n j : Nat} (hj : j < n) : (decide (cnF p j < cnF p n) && decide (slF p n (cnF p j) = (j : Int))) = p j := by
  cases hp : p j with
  | true => obtain ⟨h1, h2⟩ := slF_sel hj hp; simp [h1, h2]
  | false =>
    rw [Bool.and_eq_false_iff]
    by_cases h : cnF p j < cnF p n
    · right
      obtain ⟨x, h3, h4, h5, h6⟩ := slF_has h
      rw [h4, decide_eq_false_iff_not]
      intro h7
      have : x = j := by omega
      rw [this, hp] at h5; cases h5
    · left; exact decide_eq_false h
theorem cnF_imp {p q : Nat → Bool} : ∀ {n : Nat}, (∀ i, i < n → p i = true → q i = true) → cnF p n ≤ cnF q n
  | 0, _ => Nat.le_refl _
  | n + 1, h => by
    have := cnF_imp (n := n) fun i hi => h i (by omega)
    simp only [cnF]
    cases hp : p n with
    | true => rw [h n (by omega) hp]; simp only [if_true]; omega
    | false => simp only [Bool.false_eq_true, if_false]; omega
theorem cnF_none {p : Nat → Bool} {n : Nat} (h : ∀ i, i < n → p i = false) : cnF p n = 0 := by
  have := cnF_imp (p := p) (q := fun _ => false) (n := n) fun i hi h2 => by rw [h i hi] at h2; cases h2
  have h0 : ∀ n, cnF (fun _ => false) n = 0 := fun n => by induction n with
    | zero => rfl
    | succ n ih => simp [cnF, ih]
  rw [h0] at this; omega
theorem bjB_mono {n k m : Nat} {M : Nat → Nat} {V : Nat → Nat → Int} {s j : Nat → Int} {l l' : Int} (h : ∀ g, g < k → Bsp n k m M V (g : Int)) (hl : l ≤ l') :
    ∀ g, g < k → bjB s j k V n l' g = true → bjB s j k V n l g = true := fun g hg hb => by
  have hbd := bs_bd (s := s) (j := j) (h g hg)
  simp only [Int.toNat_natCast] at hbd
  simp only [bjB, Bool.and_eq_true, Bool.or_eq_true, decide_eq_true_eq] at hb ⊢
  obtain ⟨b1, b2, b3, b4⟩ := hbd hb.1
  refine ⟨hb.1, ?_⟩
  have m1 := Int.mul_le_mul_of_nonneg_right hl (Int.le_of_lt b1)
  have e1 := Int.neg_mul l (biD k (bsF s (j g) k g V n))
  have e2 := Int.neg_mul l' (biD k (bsF s (j g) k g V n))
  rw [e1]; rw [e2] at hb
  omega
/-- All judges give what the first one gives. -/
theorem mkB_even {n k m : Nat} {s j : Nat → Int} {M : Nat → Nat} {V : Nat → Nat → Int} (h : mkB n s k j m M V = true) : mkB n s k j m (fun _ => k) (fun x _ => V x 0) = true := by
  simp only [mkB, Bool.and_eq_true, decide_eq_true_eq, allU_iff] at h ⊢
  obtain ⟨h1, h6⟩ := h
  exact ⟨h1, fun i hi => ⟨trivial, fun e he => (h6 i hi).2 0 (by rw [(h6 i hi).1]; omega)⟩⟩
theorem rsm_even (V : Nat → Int) (i : Nat) : ∀ e, rsm (fun x _ => V x) i e = (e : Int) * V i
  | 0 => by simp [rsm]
  | e + 1 => by simp only [rsm, rsm_even V i e]; rw [Int.natCast_succ, Int.add_mul, Int.one_mul]
theorem suF_zero {b : Nat → Bool} {o : Nat → Int} (h : ∀ i, o i = 0) : ∀ n, suF b o n = 0
  | 0 => rfl
  | n + 1 => by simp only [suF, suF_zero h n, h n]; split <;> rfl
theorem bjB_even (s j : Nat → Int) (k : Nat) (V : Nat → Int) (n g : Nat) : bjB s j k (fun x _ => V x) n 0 g = false := by
  have ho : ∀ i, offF (fun x _ => V x) k g i = 0 := fun i => by rw [offF, rsm_even]; omega
  have hz : biN k (bsF s (j g) k g (fun x _ => V x) n) = 0 := by
    rw [biN, bsF]
    simp only [suF_zero ho, Int.zero_mul]
    split
    · simp only [lowN]; exact Int.zero_tdiv _
    · rfl
  rw [bjB, hz]; simp
theorem bq1 : (true == true) = true := rfl
theorem bq2 : (false == true) = false := rfl
theorem bq3 : (true == false) = false := rfl
theorem bq4 : (false == false) = true := rfl
def panelBiasedBase : BaseF := fun args => match args with
  | [.agg [.row n sz_s f_s, .row k sz_j f_j, .row m sz_A f_A], .int .i64 lim, .int .u16 more] => some ((sz_s = 1 ∧ IntR n 1 f_s) ∧ (sz_j = 1 ∧ IntR k 1 f_j) ∧ (sz_A = 1 ∧ NestR m 1 0 1 f_A) ∧ ((Lit.int .u16 more).wf = true), .bool true)
  | _ => none
theorem panelBiased_eq (n : Nat) (sz_s : Nat) (f_s : Nat → Nat → SV) (k : Nat) (sz_j : Nat) (f_j : Nat → Nat → SV) (m : Nat) (sz_A : Nat) (f_A : Nat → Nat → SV) (lim : Int) (more : Int) : panelBiasedBase [.agg [.row n sz_s f_s, .row k sz_j f_j, .row m sz_A f_A], .int .i64 lim, .int .u16 more] = some ((sz_s = 1 ∧ IntR n 1 f_s) ∧ (sz_j = 1 ∧ IntR k 1 f_j) ∧ (sz_A = 1 ∧ NestR m 1 0 1 f_A) ∧ ((Lit.int .u16 more).wf = true), .bool true) := rfl
theorem panelBiased_base : Base Try.prog 10 panelBiasedBase := by
  intro args p v hq hp
  unfold panelBiasedBase at hq
  split at hq
  rotate_left
  · cases hq
  rename_i n sz_s f_s k sz_j f_j m sz_A f_A lim more
  cases hq
  obtain ⟨⟨rfl, i_s⟩, ⟨rfl, i_j⟩, ⟨rfl, i_A⟩, wf_more⟩ := hp
  refine base_of (C := cx [] [] [(12, longerBase), (13, awakeBase), (28, BiasBase), (32, BiasedBase)] [] none) (cx_ok trivial ⟨longer_base, awake_base, Bias_base, Biased_base, trivial⟩) rfl (g := 10) (fn := Try.f10)
    (args' := [.agg [.row n 1 (rowF .i64 (ivf f_s)), .row k 1 (rowF .i64 (ivf f_j)), .row m 1 (nestF 0 1 (nsA f_A) (nsM 0 f_A) (nsV 0 f_A))], .int .i64 lim, .int .u16 more]) (fn_10) rfl 1000 (by
    simp only [BdL, Bd, and_self, and_true, true_and]
    exact ⟨(fun i j hi hj => by rw [i_s i j hi hj]; trivial), (fun i j hi hj => by rw [i_j i j hi hj]; trivial), (fun i j hi hj => nest_bd i_A i j hi hj)⟩) ⟨SameD.agg ⟨SameD.int i_s, SameD.int i_j, SameD.nest i_A, trivial⟩, SameD.rfl' _, SameD.rfl' _, trivial⟩ ?_
  generalize ivf f_s = s
  generalize ivf f_j = j
  generalize nsA f_A = A
  generalize nsM 0 f_A = M
  generalize nsV 0 f_A = V
  simp only [rowF_eq]
  simp only [longer_eq, awake_eq, Bias_eq, Biased_eq, nestF_eq, nestR_lit, nsM_lit, nsV_lit, Try.f10, go_sem, ↓reduceIte, Nat.reduceAdd, Nat.reduceSub, Nat.reduceMul, Nat.reduceEqDiff, Nat.reduceLT, Nat.reduceLeDiff, Int.reduceToNat, Int.reduceLE, Int.reduceLT, Int.reduceEq, Int.reduceNeg, reduceCtorEq]
  refine ⟨fun _ => trivial, fun c1 => ⟨fun _ => trivial, fun c2 => ⟨fun _ => trivial, fun c3 => ?_⟩⟩⟩
  simp only [decide_eq_false_iff_not] at c1 c2
  have hm := lg_len c3
  have sz : n ≤ 1000000 ∧ k ≤ 1000000 ∧ m ≤ 1000000 := ⟨by omega, by omega, by omega⟩
  refine ⟨sz, fun d1 => ?_, fun d1 => ?_⟩
  · cases h1 : mkB n (fun i => s i 0) k (fun i => j i 0) m M (fun i e => V i e 0) with
    | false => simp [bdE, bdN, h1, spl]
    | true =>
      cases h2 : in3 lim 0 10000 with
      | false => simp [bdE, bdN, h1, h2, spl]
      | true => simp [bdE, h1, h2] at d1
  have hmk : mkB n (fun i => s i 0) k (fun i => j i 0) m M (fun i e => V i e 0) = true := by
    cases h1 : mkB n (fun i => s i 0) k (fun i => j i 0) m M (fun i e => V i e 0) with
    | false => simp [bdE, h1] at d1
    | true => rfl
  rw [hmk] at d1
  have hl : in3 lim 0 10000 = true := by
    cases h2 : in3 lim 0 10000 with
    | false => simp [bdE, h2] at d1
    | true => rfl
  obtain ⟨l1, l2⟩ := in3_iff.1 hl
  have hN : bdN (mkB n (fun i => s i 0) k (fun i => j i 0) m M (fun i e => V i e 0)) (bjB (fun i => s i 0) (fun i => j i 0) k (fun i e => V i e 0) n lim) k lim = cnF (bjB (fun i => s i 0) (fun i => j i 0) k (fun i e => V i e 0) n lim) k := by rw [bdN, hmk, hl]; rfl
  rw [hN]
  refine loop_ofH { i : Nat // i ≤ k } (fun i => [(10, .int .i64 (i.1 : Int)), (9, .int .i64 (cnF (bjB (fun i => s i 0) (fun i => j i 0) k (fun i e => V i e 0) n lim) i.1 : Int)), (7, .row (cnF (bjB (fun i => s i 0) (fun i => j i 0) k (fun i e => V i e 0) n lim) k) 1 (fun i _ => .int .i64 (slF (bjB (fun i => s i 0) (fun i => j i 0) k (fun i e => V i e 0) n lim) k i))), (3, .ptr 0 0), (2, .int .u16 more), (1, .int .i64 lim)]) (fun h _ => h) (fun i => k - i.1) (fun _ => ⟨rfl, rfl⟩) ⟨0, by omega⟩ (by (apply sub_of <;> simp only [go_sem, ↓reduceIte, Nat.reduceAdd, Nat.reduceSub, Nat.reduceMul, Nat.reduceEqDiff, Nat.reduceLT, Nat.reduceLeDiff, Int.reduceToNat, Int.reduceLE, Int.reduceLT, Int.reduceEq, Int.reduceNeg, reduceCtorEq] <;> (try simp [catF]) <;> (try exact fun j _ => Bd_nth (by simp [BdL, Bd]) j) <;> (try exact bd_setL (by simp [bdAs, BdL, Bd])) <;> (try exact nestF_bd _ _ _ _ _ _ _ _ _)) <;> (first | ((repeat' refine And.intro ?_ ?_) <;> first | trivial | rfl | exact fun _ _ _ _ => trivial | exact nestF_bd _ _ _ _ _ _ _ _ _ | exact fun i hi => nestF_bd _ _ _ _ _ _ _ _ _ i 0 hi Nat.zero_lt_one) | ((repeat' refine And.intro ?_ ?_) <;> first | ((repeat' refine And.intro ?_ ?_) <;> first | trivial | rfl | exact fun _ _ _ _ => trivial | exact nestF_bd _ _ _ _ _ _ _ _ _ | exact fun i hi => nestF_bd _ _ _ _ _ _ _ _ _ i 0 hi Nat.zero_lt_one) | exact nth3_bd (fun _ _ _ _ => trivial) (fun _ _ _ _ => trivial) (nestF_bd _ _ _ _ _ _ _ _ _)))) ?_
  rintro ⟨i, hi⟩
  simp only [longer_eq, awake_eq, Bias_eq, Biased_eq, nestF_eq, nestR_lit, nsM_lit, nsV_lit, Try.f10, go_sem, ↓reduceIte, Nat.reduceAdd, Nat.reduceSub, Nat.reduceMul, Nat.reduceEqDiff, Nat.reduceLT, Nat.reduceLeDiff, Int.reduceToNat, Int.reduceLE, Int.reduceLT, Int.reduceEq, Int.reduceNeg, reduceCtorEq]
  refine ⟨fun e1 => ?_, fun e1 => ?_⟩
  · simp only [decide_eq_true_eq] at e1
    have ik : i < k := by omega
    have hin : in3 (i : Int) 0 ((k : Int) - 1) = true := in3_iff.2 ⟨by omega, by omega⟩
    have hsp : Bsp n k m M (fun i e => V i e 0) (i : Int) := Bsp.of hmk hin
    have hbd := bs_bd (s := fun i => s i 0) (j := fun i => j i 0) hsp
    simp only [Int.toNat_natCast] at hbd
    refine ⟨sz, ?_⟩
    have ht := slF_told (p := bjB (fun i => s i 0) (fun i => j i 0) k (fun i e => V i e 0) n lim) ik
    have hcl := cnF_le (bjB (fun i => s i 0) (fun i => j i 0) k (fun i e => V i e 0) n lim) i
    have hnx : (cnF (bjB (fun i => s i 0) (fun i => j i 0) k (fun i e => V i e 0) n lim) (i + 1) : Int) = IntKind.i64.wrap ((cnF (bjB (fun i => s i 0) (fun i => j i 0) k (fun i e => V i e 0) n lim) i : Int) + if bjB (fun i => s i 0) (fun i => j i 0) k (fun i e => V i e 0) n lim i then 1 else 0) := by
      cases hp : bjB (fun i => s i 0) (fun i => j i 0) k (fun i e => V i e 0) n lim i with
      | true => rw [cnF_succ hp, if_pos rfl, wrap_id (by omega) (by omega)]; omega
      | false => rw [cnF_same hp, if_neg (by decide), wrap_id (by omega) (by omega)]; omega
    have hnl : -lim * biD k (bsF (fun i => s i 0) (j i 0) k i (fun i e => V i e 0) n) = -(lim * biD k (bsF (fun i => s i 0) (j i 0) k i (fun i e => V i e 0) n)) := Int.neg_mul _ _
    have w0 : IntKind.i64.wrap (0 - lim) = -lim := by rw [wrap_id (by omega) (by omega)]; omega
    have hP : bjB (fun i => s i 0) (fun i => j i 0) k (fun i e => V i e 0) n lim i = (biK k (bsF (fun i => s i 0) (j i 0) k i (fun i e => V i e 0) n) && (decide (lim * biD k (bsF (fun i => s i 0) (j i 0) k i (fun i e => V i e 0) n) < biN k (bsF (fun i => s i 0) (j i 0) k i (fun i e => V i e 0) n)) || decide (biN k (bsF (fun i => s i 0) (j i 0) k i (fun i e => V i e 0) n) < -(lim * biD k (bsF (fun i => s i 0) (j i 0) k i (fun i e => V i e 0) n))))) := by rw [← hnl]; rfl
    simp only [biE, biX, biY, hmk, hin, if_true, Bool.and_self]
    cases hk : biK k (bsF (fun i => s i 0) (j i 0) k i (fun i e => V i e 0) n) with
    | false =>
      have hp : bjB (fun i => s i 0) (fun i => j i 0) k (fun i e => V i e 0) n lim i = false := by rw [hP, hk]; rfl
      rw [hp] at ht hnx
      simp only [Bool.false_eq_true, if_false, Int.add_zero] at hnx
      have hw : IntKind.i64.wrap (cnF (bjB (fun i => s i 0) (fun i => j i 0) k (fun i e => V i e 0) n lim) i : Int) = cnF (bjB (fun i => s i 0) (fun i => j i 0) k (fun i e => V i e 0) n lim) i := wrap_id (by omega) (by omega)
      rw [hw] at hnx
      simp only [show decide ((if false = true then (0 : Int) else 4) = 0) = false from rfl, spl_false]
      refine ⟨fun t1 => ⟨⟨by omega, by simpa using t1⟩, ?_⟩, fun t1 => ?_⟩
      · have t2 : decide (slF (bjB (fun i => s i 0) (fun i => j i 0) k (fun i e => V i e 0) n lim) k (cnF (bjB (fun i => s i 0) (fun i => j i 0) k (fun i e => V i e 0) n lim) i) = (i : Int)) = false := by
          have t3 : decide (cnF (bjB (fun i => s i 0) (fun i => j i 0) k (fun i e => V i e 0) n lim) i < cnF (bjB (fun i => s i 0) (fun i => j i 0) k (fun i e => V i e 0) n lim) k) = true := by simpa using t1
          rw [t3] at ht; simpa using ht
        simp only [t1, t2, Bool.not_true, Bool.not_false, bq1, bq2, bq3, bq4, spl_true, spl_false]
        refine ⟨⟨i + 1, by omega⟩, by simp only []; omega, ?_⟩
        apply sub_of <;> simp only [hnx, wrap_s ik sz.2.1, go_sem, ↓reduceIte, Nat.reduceAdd, Nat.reduceSub, Nat.reduceMul, Nat.reduceEqDiff, Nat.reduceLT, Nat.reduceLeDiff, Int.reduceToNat, Int.reduceLE, Int.reduceLT, Int.reduceEq, Int.reduceNeg, reduceCtorEq] <;> (first | ((repeat' refine And.intro ?_ ?_) <;> first | trivial | rfl | exact fun _ _ _ _ => trivial | exact nestF_bd _ _ _ _ _ _ _ _ _ | exact fun i hi => nestF_bd _ _ _ _ _ _ _ _ _ i 0 hi Nat.zero_lt_one) | ((repeat' refine And.intro ?_ ?_) <;> first | ((repeat' refine And.intro ?_ ?_) <;> first | trivial | rfl | exact fun _ _ _ _ => trivial | exact nestF_bd _ _ _ _ _ _ _ _ _ | exact fun i hi => nestF_bd _ _ _ _ _ _ _ _ _ i 0 hi Nat.zero_lt_one) | exact nth3_bd (fun _ _ _ _ => trivial) (fun _ _ _ _ => trivial) (nestF_bd _ _ _ _ _ _ _ _ _)))
      · simp only [t1, Bool.not_true, Bool.not_false, bq1, bq2, bq3, bq4, spl_true, spl_false]
        refine ⟨⟨i + 1, by omega⟩, by simp only []; omega, ?_⟩
        apply sub_of <;> simp only [hnx, wrap_s ik sz.2.1, go_sem, ↓reduceIte, Nat.reduceAdd, Nat.reduceSub, Nat.reduceMul, Nat.reduceEqDiff, Nat.reduceLT, Nat.reduceLeDiff, Int.reduceToNat, Int.reduceLE, Int.reduceLT, Int.reduceEq, Int.reduceNeg, reduceCtorEq] <;> (first | ((repeat' refine And.intro ?_ ?_) <;> first | trivial | rfl | exact fun _ _ _ _ => trivial | exact nestF_bd _ _ _ _ _ _ _ _ _ | exact fun i hi => nestF_bd _ _ _ _ _ _ _ _ _ i 0 hi Nat.zero_lt_one) | ((repeat' refine And.intro ?_ ?_) <;> first | ((repeat' refine And.intro ?_ ?_) <;> first | trivial | rfl | exact fun _ _ _ _ => trivial | exact nestF_bd _ _ _ _ _ _ _ _ _ | exact fun i hi => nestF_bd _ _ _ _ _ _ _ _ _ i 0 hi Nat.zero_lt_one) | exact nth3_bd (fun _ _ _ _ => trivial) (fun _ _ _ _ => trivial) (nestF_bd _ _ _ _ _ _ _ _ _)))
    | true =>
      obtain ⟨b1, b2, b3, b4⟩ := hbd hk
      have m1 := mulB (a := lim) (b := biD k (bsF (fun i => s i 0) (j i 0) k i (fun i e => V i e 0) n)) (A := 10000) (B := 11200) (by omega) (by omega) (by omega) (by omega)
      rw [w0, hnl, wrap_id (x := lim * biD k (bsF (fun i => s i 0) (j i 0) k i (fun i e => V i e 0) n)) (by omega) (by omega), wrap_id (x := -(lim * biD k (bsF (fun i => s i 0) (j i 0) k i (fun i e => V i e 0) n))) (by omega) (by omega)]
      simp only [if_true, decide_true, spl_true]
      rw [hk, Bool.true_and] at hP
      have hnx1 : bjB (fun i => s i 0) (fun i => j i 0) k (fun i e => V i e 0) n lim i = true → (cnF (bjB (fun i => s i 0) (fun i => j i 0) k (fun i e => V i e 0) n lim) (i + 1) : Int) = IntKind.i64.wrap ((cnF (bjB (fun i => s i 0) (fun i => j i 0) k (fun i e => V i e 0) n lim) i : Int) + 1) := fun h => by rw [hnx, h]; rfl
      have hnx2 : bjB (fun i => s i 0) (fun i => j i 0) k (fun i e => V i e 0) n lim i = false → (cnF (bjB (fun i => s i 0) (fun i => j i 0) k (fun i e => V i e 0) n lim) (i + 1) : Int) = (cnF (bjB (fun i => s i 0) (fun i => j i 0) k (fun i e => V i e 0) n lim) i : Int) := fun h => by rw [cnF_same h]
      refine ⟨fun t5 => ?_, fun t5 => ?_⟩
      · have hp : bjB (fun i => s i 0) (fun i => j i 0) k (fun i e => V i e 0) n lim i = true := by rw [hP, t5]; rfl
        rw [hp] at ht
        replace hnx := hnx1 hp
        refine ⟨fun t1 => ⟨⟨by omega, by simpa using t1⟩, ?_⟩, fun t1 => ?_⟩
        · have t2 : decide (slF (bjB (fun i => s i 0) (fun i => j i 0) k (fun i e => V i e 0) n lim) k (cnF (bjB (fun i => s i 0) (fun i => j i 0) k (fun i e => V i e 0) n lim) i) = (i : Int)) = true := by
            have t3 : decide (cnF (bjB (fun i => s i 0) (fun i => j i 0) k (fun i e => V i e 0) n lim) i < cnF (bjB (fun i => s i 0) (fun i => j i 0) k (fun i e => V i e 0) n lim) k) = true := by simpa using t1
            rw [t3] at ht; simpa using ht
          simp only [t1, t2, Bool.not_true, Bool.not_false, bq1, bq2, bq3, bq4, spl_true, spl_false]
          refine ⟨⟨i + 1, by omega⟩, by simp only []; omega, ?_⟩
          apply sub_of <;> simp only [hnx, wrap_s ik sz.2.1, go_sem, ↓reduceIte, Nat.reduceAdd, Nat.reduceSub, Nat.reduceMul, Nat.reduceEqDiff, Nat.reduceLT, Nat.reduceLeDiff, Int.reduceToNat, Int.reduceLE, Int.reduceLT, Int.reduceEq, Int.reduceNeg, reduceCtorEq] <;> (first | ((repeat' refine And.intro ?_ ?_) <;> first | trivial | rfl | exact fun _ _ _ _ => trivial | exact nestF_bd _ _ _ _ _ _ _ _ _ | exact fun i hi => nestF_bd _ _ _ _ _ _ _ _ _ i 0 hi Nat.zero_lt_one) | ((repeat' refine And.intro ?_ ?_) <;> first | ((repeat' refine And.intro ?_ ?_) <;> first | trivial | rfl | exact fun _ _ _ _ => trivial | exact nestF_bd _ _ _ _ _ _ _ _ _ | exact fun i hi => nestF_bd _ _ _ _ _ _ _ _ _ i 0 hi Nat.zero_lt_one) | exact nth3_bd (fun _ _ _ _ => trivial) (fun _ _ _ _ => trivial) (nestF_bd _ _ _ _ _ _ _ _ _)))
        · have t3 : decide (cnF (bjB (fun i => s i 0) (fun i => j i 0) k (fun i e => V i e 0) n lim) i < cnF (bjB (fun i => s i 0) (fun i => j i 0) k (fun i e => V i e 0) n lim) k) = false := by simpa using t1
          rw [t3] at ht; cases ht
      · cases t6 : decide (biN k (bsF (fun i => s i 0) (j i 0) k i (fun i e => V i e 0) n) < -(lim * biD k (bsF (fun i => s i 0) (j i 0) k i (fun i e => V i e 0) n))) with
        | true =>
          have hp : bjB (fun i => s i 0) (fun i => j i 0) k (fun i e => V i e 0) n lim i = true := by rw [hP, t6, Bool.or_true]
          rw [hp] at ht
          replace hnx := hnx1 hp
          refine ⟨fun t1 => ⟨⟨by omega, by simpa using t1⟩, ?_⟩, fun t1 => ?_⟩
          · have t2 : decide (slF (bjB (fun i => s i 0) (fun i => j i 0) k (fun i e => V i e 0) n lim) k (cnF (bjB (fun i => s i 0) (fun i => j i 0) k (fun i e => V i e 0) n lim) i) = (i : Int)) = true := by
              have t3 : decide (cnF (bjB (fun i => s i 0) (fun i => j i 0) k (fun i e => V i e 0) n lim) i < cnF (bjB (fun i => s i 0) (fun i => j i 0) k (fun i e => V i e 0) n lim) k) = true := by simpa using t1
              rw [t3] at ht; simpa using ht
            simp only [t1, t2, Bool.not_true, Bool.not_false, bq1, bq2, bq3, bq4, spl_true, spl_false]
            refine ⟨⟨i + 1, by omega⟩, by simp only []; omega, ?_⟩
            apply sub_of <;> simp only [hnx, wrap_s ik sz.2.1, go_sem, ↓reduceIte, Nat.reduceAdd, Nat.reduceSub, Nat.reduceMul, Nat.reduceEqDiff, Nat.reduceLT, Nat.reduceLeDiff, Int.reduceToNat, Int.reduceLE, Int.reduceLT, Int.reduceEq, Int.reduceNeg, reduceCtorEq] <;> (first | ((repeat' refine And.intro ?_ ?_) <;> first | trivial | rfl | exact fun _ _ _ _ => trivial | exact nestF_bd _ _ _ _ _ _ _ _ _ | exact fun i hi => nestF_bd _ _ _ _ _ _ _ _ _ i 0 hi Nat.zero_lt_one) | ((repeat' refine And.intro ?_ ?_) <;> first | ((repeat' refine And.intro ?_ ?_) <;> first | trivial | rfl | exact fun _ _ _ _ => trivial | exact nestF_bd _ _ _ _ _ _ _ _ _ | exact fun i hi => nestF_bd _ _ _ _ _ _ _ _ _ i 0 hi Nat.zero_lt_one) | exact nth3_bd (fun _ _ _ _ => trivial) (fun _ _ _ _ => trivial) (nestF_bd _ _ _ _ _ _ _ _ _)))
          · have t3 : decide (cnF (bjB (fun i => s i 0) (fun i => j i 0) k (fun i e => V i e 0) n lim) i < cnF (bjB (fun i => s i 0) (fun i => j i 0) k (fun i e => V i e 0) n lim) k) = false := by simpa using t1
            rw [t3] at ht; cases ht
        | false =>
          have hp : bjB (fun i => s i 0) (fun i => j i 0) k (fun i e => V i e 0) n lim i = false := by rw [hP, t5, t6]; rfl
          rw [hp] at ht
          replace hnx := hnx2 hp
          refine ⟨fun t1 => ⟨⟨by omega, by simpa using t1⟩, ?_⟩, fun t1 => ?_⟩
          · have t2 : decide (slF (bjB (fun i => s i 0) (fun i => j i 0) k (fun i e => V i e 0) n lim) k (cnF (bjB (fun i => s i 0) (fun i => j i 0) k (fun i e => V i e 0) n lim) i) = (i : Int)) = false := by
              have t3 : decide (cnF (bjB (fun i => s i 0) (fun i => j i 0) k (fun i e => V i e 0) n lim) i < cnF (bjB (fun i => s i 0) (fun i => j i 0) k (fun i e => V i e 0) n lim) k) = true := by simpa using t1
              rw [t3] at ht; simpa using ht
            simp only [t1, t2, Bool.not_true, Bool.not_false, bq1, bq2, bq3, bq4, spl_true, spl_false]
            refine ⟨⟨i + 1, by omega⟩, by simp only []; omega, ?_⟩
            apply sub_of <;> simp only [hnx, wrap_s ik sz.2.1, go_sem, ↓reduceIte, Nat.reduceAdd, Nat.reduceSub, Nat.reduceMul, Nat.reduceEqDiff, Nat.reduceLT, Nat.reduceLeDiff, Int.reduceToNat, Int.reduceLE, Int.reduceLT, Int.reduceEq, Int.reduceNeg, reduceCtorEq] <;> (first | ((repeat' refine And.intro ?_ ?_) <;> first | trivial | rfl | exact fun _ _ _ _ => trivial | exact nestF_bd _ _ _ _ _ _ _ _ _ | exact fun i hi => nestF_bd _ _ _ _ _ _ _ _ _ i 0 hi Nat.zero_lt_one) | ((repeat' refine And.intro ?_ ?_) <;> first | ((repeat' refine And.intro ?_ ?_) <;> first | trivial | rfl | exact fun _ _ _ _ => trivial | exact nestF_bd _ _ _ _ _ _ _ _ _ | exact fun i hi => nestF_bd _ _ _ _ _ _ _ _ _ i 0 hi Nat.zero_lt_one) | exact nth3_bd (fun _ _ _ _ => trivial) (fun _ _ _ _ => trivial) (nestF_bd _ _ _ _ _ _ _ _ _)))
          · simp only [t1, Bool.not_true, Bool.not_false, bq1, bq2, bq3, bq4, spl_true, spl_false]
            refine ⟨⟨i + 1, by omega⟩, by simp only []; omega, ?_⟩
            apply sub_of <;> simp only [hnx, wrap_s ik sz.2.1, go_sem, ↓reduceIte, Nat.reduceAdd, Nat.reduceSub, Nat.reduceMul, Nat.reduceEqDiff, Nat.reduceLT, Nat.reduceLeDiff, Int.reduceToNat, Int.reduceLE, Int.reduceLT, Int.reduceEq, Int.reduceNeg, reduceCtorEq] <;> (first | ((repeat' refine And.intro ?_ ?_) <;> first | trivial | rfl | exact fun _ _ _ _ => trivial | exact nestF_bd _ _ _ _ _ _ _ _ _ | exact fun i hi => nestF_bd _ _ _ _ _ _ _ _ _ i 0 hi Nat.zero_lt_one) | ((repeat' refine And.intro ?_ ?_) <;> first | ((repeat' refine And.intro ?_ ?_) <;> first | trivial | rfl | exact fun _ _ _ _ => trivial | exact nestF_bd _ _ _ _ _ _ _ _ _ | exact fun i hi => nestF_bd _ _ _ _ _ _ _ _ _ i 0 hi Nat.zero_lt_one) | exact nth3_bd (fun _ _ _ _ => trivial) (fun _ _ _ _ => trivial) (nestF_bd _ _ _ _ _ _ _ _ _)))
  · simp only [decide_eq_false_iff_not] at e1
    obtain rfl : i = k := by omega
    refine ⟨sz, fun c5 => by simp at c5, fun c5 => ?_⟩
    have hmore : 0 ≤ more ∧ more ≤ 65535 := by simpa [Lit.wf, IntKind.min, IntKind.max, IntKind.signed, IntKind.bits] using wf_more
    have w1 : IntKind.i64.wrap more = more := wrap_id (by omega) (by omega)
    have w2 : IntKind.i64.wrap (lim + more) = lim + more := wrap_id (by omega) (by omega)
    rw [w1, w2]
    have hl2 : in3 (min 10000 (lim + more)) 0 10000 = true := in3_iff.2 ⟨by omega, by omega⟩
    have hsp : ∀ g, g < i → Bsp n i m M (fun i e => V i e 0) (g : Int) := fun g hg => Bsp.of hmk (in3_iff.2 ⟨by omega, by omega⟩)
    have hE2 : bdE (mkB n (fun i => s i 0) i (fun i => j i 0) m M (fun i e => V i e 0)) (min 10000 (lim + more)) = 0 := by rw [bdE, hmk, hl2]; rfl
    have hN2 : bdN (mkB n (fun i => s i 0) i (fun i => j i 0) m M (fun i e => V i e 0)) (bjB (fun i => s i 0) (fun i => j i 0) i (fun i e => V i e 0) n (min 10000 (lim + more))) i (min 10000 (lim + more)) ≤ cnF (bjB (fun i => s i 0) (fun i => j i 0) i (fun i e => V i e 0) n lim) i := by
      rw [bdN, hmk, hl2]
      exact cnF_imp (bjB_mono hsp (by omega))
    rw [hE2]
    refine ⟨fun c6 => by simp at c6, fun c6 => ⟨fun c7 => ?_, fun c7 => ?_⟩⟩
    · simp only [decide_eq_true_eq] at c7; omega
    clear c5 c6 c7
    refine loop_ofH { r : Nat // r ≤ m } (fun r => [(18, .int .i64 (r.1 : Int)), (17, .ptr 1 0), (3, .ptr 0 0)]) (fun _ r => { blks := [.live 54 [.row n 1 (fun i j => .int .i64 (s i j)), .row i 1 (fun i e => .int .i64 (j i e)), .row m 1 (nestF 0 1 A M V)], .live 54 [.row n 1 (fun i j => .int .i64 (s i j)), .row i 1 (fun i e => .int .i64 (j i e)), .vec 3 r.1]], vecs := [.live 0 3 1 0 (fun _ _ => .any), .live 0 3 1 0 (fun _ _ => .any), .live 0 37 1 0 (fun _ _ => .any), .live r.1 37 1 r.1 (nestF 0 1 (fun _ _ => 0) (fun _ => i) (fun x _ _ => V x 0 0))] }) (fun r => m - r.1) (fun _ => ⟨rfl, rfl⟩) ⟨0, by omega⟩ (by (apply sub_of <;> simp only [go_sem, ↓reduceIte, Nat.reduceAdd, Nat.reduceSub, Nat.reduceMul, Nat.reduceEqDiff, Nat.reduceLT, Nat.reduceLeDiff, Int.reduceToNat, Int.reduceLE, Int.reduceLT, Int.reduceEq, Int.reduceNeg, reduceCtorEq] <;> (try simp [catF]) <;> (try exact fun j _ => Bd_nth (by simp [BdL, Bd]) j) <;> (try exact bd_setL (by simp [bdAs, BdL, Bd])) <;> (try exact nestF_bd _ _ _ _ _ _ _ _ _)) <;> (first | ((repeat' refine And.intro ?_ ?_) <;> first | trivial | rfl | exact fun _ _ _ _ => trivial | exact nestF_bd _ _ _ _ _ _ _ _ _ | exact fun i hi => nestF_bd _ _ _ _ _ _ _ _ _ i 0 hi Nat.zero_lt_one) | ((repeat' refine And.intro ?_ ?_) <;> first | ((repeat' refine And.intro ?_ ?_) <;> first | trivial | rfl | exact fun _ _ _ _ => trivial | exact nestF_bd _ _ _ _ _ _ _ _ _ | exact fun i hi => nestF_bd _ _ _ _ _ _ _ _ _ i 0 hi Nat.zero_lt_one) | exact nth3_bd (fun _ _ _ _ => trivial) (fun _ _ _ _ => trivial) (nestF_bd _ _ _ _ _ _ _ _ _)))) ?_
    rintro ⟨r, hr⟩
    simp only [longer_eq, awake_eq, Bias_eq, Biased_eq, nestF_eq, nestR_lit, nsM_lit, nsV_lit, Try.f10, go_sem, ↓reduceIte, Nat.reduceAdd, Nat.reduceSub, Nat.reduceMul, Nat.reduceEqDiff, Nat.reduceLT, Nat.reduceLeDiff, Int.reduceToNat, Int.reduceLE, Int.reduceLT, Int.reduceEq, Int.reduceNeg, reduceCtorEq]
    refine ⟨fun e2 => ?_, fun e2 => ?_⟩
    · simp only [decide_eq_true_eq] at e2
      have rm : r < m := by omega
      refine ⟨⟨by omega, by omega, by omega⟩, ?_⟩
      refine loop_ofH { e : Nat // e ≤ i } (fun e => [(20, .int .i64 (e.1 : Int)), (19, .vec 4 0), (18, .int .i64 (r : Int)), (17, .ptr 1 0), (3, .ptr 0 0)]) (fun h e => { h with vecs := [.live 0 3 1 0 (fun _ _ => .any), .live 0 3 1 0 (fun _ _ => .any), .live 0 37 1 0 (fun _ _ => .any), .live r 37 1 r (nestF 0 1 (fun _ _ => 0) (fun _ => i) (fun x _ _ => V x 0 0)), .live 0 3 1 i (fun x _ => .int .i64 (if x < e.1 ∨ i ≤ x then V r 0 0 else 0))] }) (fun e => i - e.1) (fun _ => ⟨rfl, rfl⟩) ⟨0, by omega⟩ (by (apply sub_of <;> simp only [go_sem, ↓reduceIte, Nat.reduceAdd, Nat.reduceSub, Nat.reduceMul, Nat.reduceEqDiff, Nat.reduceLT, Nat.reduceLeDiff, Int.reduceToNat, Int.reduceLE, Int.reduceLT, Int.reduceEq, Int.reduceNeg, reduceCtorEq] <;> (try simp [catF]) <;> (try exact fun j _ => Bd_nth (by simp [BdL, Bd]) j) <;> (try exact bd_setL (by simp [bdAs, BdL, Bd])) <;> (try exact nestF_bd _ _ _ _ _ _ _ _ _)) <;> first | (first | ((repeat' refine And.intro ?_ ?_) <;> first | trivial | rfl | exact fun _ _ _ _ => trivial | exact nestF_bd _ _ _ _ _ _ _ _ _ | exact fun i hi => nestF_bd _ _ _ _ _ _ _ _ _ i 0 hi Nat.zero_lt_one) | ((repeat' refine And.intro ?_ ?_) <;> first | ((repeat' refine And.intro ?_ ?_) <;> first | trivial | rfl | exact fun _ _ _ _ => trivial | exact nestF_bd _ _ _ _ _ _ _ _ _ | exact fun i hi => nestF_bd _ _ _ _ _ _ _ _ _ i 0 hi Nat.zero_lt_one) | exact nth3_bd (fun _ _ _ _ => trivial) (fun _ _ _ _ => trivial) (nestF_bd _ _ _ _ _ _ _ _ _))) | exact fun x hx => by rw [if_neg (by omega)]; rfl) ?_
      rintro ⟨e, he⟩
      simp only [longer_eq, awake_eq, Bias_eq, Biased_eq, nestF_eq, nestR_lit, nsM_lit, nsV_lit, Try.f10, go_sem, ↓reduceIte, Nat.reduceAdd, Nat.reduceSub, Nat.reduceMul, Nat.reduceEqDiff, Nat.reduceLT, Nat.reduceLeDiff, Int.reduceToNat, Int.reduceLE, Int.reduceLT, Int.reduceEq, Int.reduceNeg, reduceCtorEq]
      refine ⟨fun e3 => ?_, fun e3 => ?_⟩
      · simp only [decide_eq_true_eq] at e3
        have ei : e < i := by omega
        have hMr : M r = i := (hsp 0 (by omega)).row r rm
        refine ⟨⟨by omega, by omega⟩, by omega, ⟨by omega, by omega⟩, ei, ⟨e + 1, by omega⟩, by simp only []; omega, ?_⟩
        apply sub_of <;> simp only [wrap_s ei sz.2.1, go_sem, ↓reduceIte, Nat.reduceAdd, Nat.reduceSub, Nat.reduceMul, Nat.reduceEqDiff, Nat.reduceLT, Nat.reduceLeDiff, Int.reduceToNat, Int.reduceLE, Int.reduceLT, Int.reduceEq, Int.reduceNeg, reduceCtorEq] <;> first | (first | ((repeat' refine And.intro ?_ ?_) <;> first | trivial | rfl | exact fun _ _ _ _ => trivial | exact nestF_bd _ _ _ _ _ _ _ _ _ | exact fun i hi => nestF_bd _ _ _ _ _ _ _ _ _ i 0 hi Nat.zero_lt_one) | ((repeat' refine And.intro ?_ ?_) <;> first | ((repeat' refine And.intro ?_ ?_) <;> first | trivial | rfl | exact fun _ _ _ _ => trivial | exact nestF_bd _ _ _ _ _ _ _ _ _ | exact fun i hi => nestF_bd _ _ _ _ _ _ _ _ _ i 0 hi Nat.zero_lt_one) | exact nth3_bd (fun _ _ _ _ => trivial) (fun _ _ _ _ => trivial) (nestF_bd _ _ _ _ _ _ _ _ _))) | skip
        refine ⟨fun _ _ _ _ => trivial, fun _ _ _ _ => trivial, fun _ _ _ _ => trivial, fun _ _ _ _ => trivial, fun x y hx hy => ?_⟩
        obtain rfl : y = 0 := by omega
        by_cases hxe : x = e
        · rw [if_pos ⟨hxe, by omega, by omega⟩, if_pos (by omega)]; rfl
        · rw [if_neg (fun h => hxe h.1)]
          by_cases h2 : x < e ∨ i ≤ x
          · rw [if_pos h2, if_pos (by omega)]
          · rw [if_neg h2, if_neg (by omega)]
      · simp only [decide_eq_false_iff_not] at e3
        obtain rfl : e = i := by omega
        refine ⟨⟨by omega, by omega⟩, ⟨r + 1, by omega⟩, by simp only []; omega, ?_⟩
        refine sub_fz 4 3 (nestF 0 1 (fun _ _ => 0) (fun _ => e) (fun x _ _ => V x 0 0)) rfl rfl (by decide) ?_ ?_
        · intro x y hx hy
          obtain rfl : y = 0 := by omega
          rcases Nat.lt_or_ge x r with h1 | h1
          · left; simp only [catF, if_pos h1]
          · obtain rfl : x = r := by omega
            right
            refine ⟨by simp only [catF, if_neg (Nat.lt_irrefl _), Nat.sub_self]; rfl, ?_⟩
            have hfe : (fun x' (_ : Nat) => SV.int .i64 (if x' < e ∨ e ≤ x' then V x 0 0 else 0)) = fun _ _ => .int .i64 (V x 0 0) := by
              funext x' _
              rw [if_pos (by omega)]
            rw [hfe]; rfl
        · apply sub_of <;> simp only [wrap_s rm sz.2.2, go_sem, ↓reduceIte, Nat.reduceAdd, Nat.reduceSub, Nat.reduceMul, Nat.reduceEqDiff, Nat.reduceLT, Nat.reduceLeDiff, Int.reduceToNat, Int.reduceLE, Int.reduceLT, Int.reduceEq, Int.reduceNeg, reduceCtorEq] <;> (first | ((repeat' refine And.intro ?_ ?_) <;> first | trivial | rfl | exact fun _ _ _ _ => trivial | exact nestF_bd _ _ _ _ _ _ _ _ _ | exact fun i hi => nestF_bd _ _ _ _ _ _ _ _ _ i 0 hi Nat.zero_lt_one) | ((repeat' refine And.intro ?_ ?_) <;> first | ((repeat' refine And.intro ?_ ?_) <;> first | trivial | rfl | exact fun _ _ _ _ => trivial | exact nestF_bd _ _ _ _ _ _ _ _ _ | exact fun i hi => nestF_bd _ _ _ _ _ _ _ _ _ i 0 hi Nat.zero_lt_one) | exact nth3_bd (fun _ _ _ _ => trivial) (fun _ _ _ _ => trivial) (nestF_bd _ _ _ _ _ _ _ _ _)))
    · simp only [decide_eq_false_iff_not] at e2
      obtain rfl : r = m := by omega
      have hf : (fun i_1 j => if j = 0 then SV.row i 1 (fun a b => .int .i64 (V i_1 0 0)) else .int .i64 0) = nestF 0 1 (fun _ _ => 0) (fun _ => i) (fun x _ _ => V x 0 0) := rfl
      rw [hf]
      simp only [nestR_lit, nsM_lit, nsV_lit]
      have hk2 := mkB_even hmk
      rw [hk2]
      have hE3 : bdE true 0 = 0 := rfl
      have hN3 : bdN true (bjB (fun i => s i 0) (fun i => j i 0) i (fun x _ => V x 0 0) n 0) i 0 = 0 := cnF_none (fun g _ => bjB_even _ _ _ (fun x => V x 0 0) _ _)
      rw [hE3, hN3]
      exact ⟨⟨trivial, sz⟩, fun _ => ⟨fun _ => trivial, fun h => by simp at h⟩, fun h => by simp at h⟩
end Go.Eng
end

/- panel: biases of marks in another order, and of marks that are shifted. The plain law. -/
section
namespace Go.Eng
def smF (f : Nat → Int) : Nat → Int
  | 0 => 0
  | n + 1 => smF f n + f n
theorem suF_sm (b : Nat → Bool) (o : Nat → Int) : ∀ n, suF b o n = smF (fun i => if b i then o i else 0) n
  | 0 => rfl
  | n + 1 => by simp only [suF, smF, suF_sm b o n]
theorem cnF_sm (b : Nat → Bool) : ∀ n, (cnF b n : Int) = smF (fun i => if b i then 1 else 0) n
  | 0 => rfl
  | n + 1 => by
    simp only [cnF, smF, ← cnF_sm b n]
    split <;> omega
theorem smF_congr {f g : Nat → Int} : ∀ {n}, (∀ i, i < n → f i = g i) → smF f n = smF g n
  | 0, _ => rfl
  | n + 1, h => by simp only [smF, smF_congr (n := n) fun i hi => h i (by omega), h n (by omega)]
theorem smF_next (g : Nat → Int) : ∀ n, smF (fun i => g (i + 1)) n + g 0 = smF g n + g n
  | 0 => by simp [smF]
  | n + 1 => by have := smF_next g n; simp only [smF]; omega
/-- The sum over numbers that are turned by t. -/
theorem smF_turn (f : Nat → Int) (n : Nat) : ∀ t, smF (fun i => f ((i + t) % n)) n = smF f n
  | 0 => smF_congr fun i hi => by rw [Nat.add_zero, Nat.mod_eq_of_lt hi]
  | t + 1 => by
    have h := smF_next (fun i => f ((i + t) % n)) n
    simp only [Nat.zero_add, Nat.add_mod_left] at h
    have e : smF (fun i => f ((i + (t + 1)) % n)) n = smF (fun i => f ((i + 1 + t) % n)) n := smF_congr fun i _ => by rw [show i + (t + 1) = i + 1 + t by omega]
    rw [e]
    have := smF_turn f n t
    omega
theorem bsF_turn (s : Nat → Int) (jv : Int) (k g : Nat) (V : Nat → Nat → Int) (n t : Nat) :
    bsF (fun i => s ((i + t) % n)) jv k g (fun i => V ((i + t) % n)) n = bsF s jv k g V n := by
  have ho : ∀ i, offF (fun i => V ((i + t) % n)) k g i = offF V k g ((i + t) % n) := fun i => by
    have hr : ∀ e, rsm (fun i => V ((i + t) % n)) i e = rsm V ((i + t) % n) e := fun e => by
      induction e with
      | zero => rfl
      | succ e ih => simp only [rsm, ih]
    simp only [offF, hr]
  have hc : ∀ b : Nat → Bool, cnF (fun i => b ((i + t) % n)) n = cnF b n := fun b => by
    have h := smF_turn (fun i => if b i then 1 else 0) n t
    rw [← cnF_sm b n, ← cnF_sm (fun i => b ((i + t) % n)) n] at h
    omega
  have hs : ∀ (b : Nat → Bool), suF (fun i => b ((i + t) % n)) (offF (fun i => V ((i + t) % n)) k g) n = suF b (offF V k g) n := fun b => by
    rw [suF_sm, suF_sm, ← smF_turn (fun i => if b i then offF V k g i else 0) n t]
    exact smF_congr fun i _ => by rw [ho]
  simp only [bsF]
  rw [hs (fun i => decide (s i = jv)), hs (fun i => !decide (s i = jv)), hc (fun i => decide (s i = jv)), hc (fun i => !decide (s i = jv))]
/-- The marks of judge g, shifted by x for those p holds for. -/
def shV (V : Nat → Nat → Int) (g : Nat) (p : Nat → Bool) (x : Int) (i e : Nat) : Int := V i e + if e = g ∧ p i = true then x else 0
theorem rsm_sh (V : Nat → Nat → Int) (g : Nat) (p : Nat → Bool) (x : Int) (i : Nat) : ∀ e, rsm (shV V g p x) i e = rsm V i e + if g < e ∧ p i = true then x else 0
  | 0 => by simp [rsm]
  | e + 1 => by
    simp only [rsm, rsm_sh V g p x i e, shV]
    by_cases hp : p i = true
    · by_cases h : e = g
      · subst h
        rw [if_neg (fun h => Nat.lt_irrefl _ h.1), if_pos ⟨rfl, hp⟩, if_pos ⟨by omega, hp⟩]; omega
      · by_cases h2 : g < e
        · rw [if_pos ⟨h2, hp⟩, if_neg (fun h3 => h h3.1), if_pos ⟨by omega, hp⟩]; omega
        · rw [if_neg (fun h3 => h2 h3.1), if_neg (fun h3 => h h3.1), if_neg (fun h3 => by have := h3.1; omega)]; omega
    · rw [if_neg (fun h3 => hp h3.2), if_neg (fun h3 => hp h3.2), if_neg (fun h3 => hp h3.2)]; omega
theorem off_sh {V : Nat → Nat → Int} {k g : Nat} {p : Nat → Bool} {x : Int} (hg : g < k) (i : Nat) : offF (shV V g p x) k g i = offF V k g i + if p i then ((k : Int) - 1) * x else 0 := by
  simp only [offF, rsm_sh, shV]
  by_cases hp : p i = true
  · simp only [hp, and_true, if_true, if_pos hg, Int.mul_add, Int.sub_mul, Int.one_mul]; omega
  · simp only [hp, and_false, if_false, Bool.false_eq_true, Int.add_zero]
theorem suF_sh (b p : Nat → Bool) (o o' : Nat → Int) (c : Int) (h : ∀ i, o' i = o i + if p i then c else 0) (hb : ∀ i, b i = true → p i = true) : ∀ n, suF b o' n = suF b o n + (cnF b n : Int) * c
  | 0 => by simp [suF, cnF]
  | n + 1 => by
    simp only [suF, cnF, suF_sh b p o o' c h hb n, h n]
    cases hn : b n with
    | false => simp
    | true =>
      simp only [hb n hn, if_true]
      rw [Int.natCast_succ, Int.add_mul, Int.one_mul]; omega
theorem suF_sh0 (b p : Nat → Bool) (o o' : Nat → Int) (c : Int) (h : ∀ i, o' i = o i + if p i then c else 0) (hb : ∀ i, b i = true → p i = false) : ∀ n, suF b o' n = suF b o n
  | 0 => rfl
  | n + 1 => by
    simp only [suF, suF_sh0 b p o o' c h hb n, h n]
    cases hn : b n with
    | false => simp
    | true => simp [hb n hn]
def numB (b : Bs) : Int := b.sO * b.cR - b.sR * b.cO
def denB (k : Nat) (b : Bs) : Int := b.cO * b.cR * ((k : Int) - 1)
theorem bs_all {s : Nat → Int} {jv : Int} {k g : Nat} {V : Nat → Nat → Int} {x : Int} (hg : g < k) (n : Nat) :
    numB (bsF s jv k g (shV V g (fun _ => true) x) n) = numB (bsF s jv k g V n) ∧ denB k (bsF s jv k g (shV V g (fun _ => true) x) n) = denB k (bsF s jv k g V n) ∧ biK k (bsF s jv k g (shV V g (fun _ => true) x) n) = biK k (bsF s jv k g V n) := by
  refine ⟨?_, rfl, rfl⟩
  simp only [numB, bsF]
  rw [suF_sh (fun i => decide (s i = jv)) (fun _ => true) (offF V k g) _ _ (off_sh hg) (fun _ _ => rfl), suF_sh (fun i => !decide (s i = jv)) (fun _ => true) (offF V k g) _ _ (off_sh hg) (fun _ _ => rfl), Int.add_mul, Int.add_mul]
  have : (cnF (fun i => decide (s i = jv)) n : Int) * (((k : Int) - 1) * x) * (cnF (fun i => !decide (s i = jv)) n : Int) = (cnF (fun i => !decide (s i = jv)) n : Int) * (((k : Int) - 1) * x) * (cnF (fun i => decide (s i = jv)) n : Int) := by ac_rfl
  rw [this]; omega
theorem bs_own {s : Nat → Int} {jv : Int} {k g : Nat} {V : Nat → Nat → Int} {x : Int} (hg : g < k) (n : Nat) :
    numB (bsF s jv k g (shV V g (fun i => decide (s i = jv)) x) n) = numB (bsF s jv k g V n) + denB k (bsF s jv k g V n) * x ∧ denB k (bsF s jv k g (shV V g (fun i => decide (s i = jv)) x) n) = denB k (bsF s jv k g V n) ∧ biK k (bsF s jv k g (shV V g (fun i => decide (s i = jv)) x) n) = biK k (bsF s jv k g V n) := by
  refine ⟨?_, rfl, rfl⟩
  simp only [numB, denB, bsF]
  rw [suF_sh (fun i => decide (s i = jv)) (fun i => decide (s i = jv)) (offF V k g) _ _ (off_sh hg) (fun _ h => h), suF_sh0 (fun i => !decide (s i = jv)) (fun i => decide (s i = jv)) (offF V k g) _ _ (off_sh hg) (fun _ h => by simpa using h), Int.add_mul]
  have : (cnF (fun i => decide (s i = jv)) n : Int) * (((k : Int) - 1) * x) * (cnF (fun i => !decide (s i = jv)) n : Int) = (cnF (fun i => decide (s i = jv)) n : Int) * (cnF (fun i => !decide (s i = jv)) n : Int) * ((k : Int) - 1) * x := by ac_rfl
  rw [this]; omega
theorem gcd_add_mul (p q x : Int) : Int.gcd (p + q * x) q = Int.gcd p q := by
  apply Nat.dvd_antisymm
  · apply Int.dvd_gcd
    · have h1 : (Int.gcd (p + q * x) q : Int) ∣ p + q * x := Int.gcd_dvd_left ..
      have h2 : (Int.gcd (p + q * x) q : Int) ∣ q := Int.gcd_dvd_right ..
      have h3 := Int.dvd_sub h1 (Int.dvd_mul_of_dvd_left h2 (c := x))
      rwa [Int.add_sub_cancel] at h3
    · exact Int.gcd_dvd_right ..
  · apply Int.dvd_gcd
    · have h1 : (Int.gcd p q : Int) ∣ p := Int.gcd_dvd_left ..
      have h2 : (Int.gcd p q : Int) ∣ q := Int.gcd_dvd_right ..
      exact Int.dvd_add h1 (Int.dvd_mul_of_dvd_left h2)
    · exact Int.gcd_dvd_right ..
theorem low_add {p q : Int} (h : 0 < q) (x : Int) : lowN (p + q * x) q = lowN p q + x * lowD p q ∧ lowD (p + q * x) q = lowD p q := by
  have hg := gcd_pos (p := p) h
  have e1 := lowN_mul p q
  have e2 := lowD_mul p q
  refine ⟨?_, by rw [lowD, gcd_add_mul]; rfl⟩
  have hm := lowN_mul (p + q * x) q
  rw [gcd_add_mul] at hm
  have : (lowN p q + x * lowD p q) * (Int.gcd p q : Int) = p + q * x := by
    rw [Int.add_mul, e1, Int.mul_assoc, e2]; congr 1; exact Int.mul_comm _ _
  exact Int.eq_of_mul_eq_mul_right (by omega) (hm.trans this.symm)
/-- Lowest terms have no common divisor. -/
theorem low_coprime {p q d : Int} (h : 0 < q) (hd : 2 ≤ d) (h1 : d ∣ lowN p q) (h2 : d ∣ lowD p q) : False := by
  have hg := gcd_pos (p := p) h
  have e1 := lowN_mul p q
  have e2 := lowD_mul p q
  have k1 : d * (Int.gcd p q : Int) ∣ p := by
    obtain ⟨c, hc⟩ := h1
    exact ⟨c, e1.symm.trans (by rw [hc]; ac_rfl)⟩
  have k2 : d * (Int.gcd p q : Int) ∣ q := by
    obtain ⟨c, hc⟩ := h2
    exact ⟨c, e2.symm.trans (by rw [hc]; ac_rfl)⟩
  have k3 : d * (Int.gcd p q : Int) ∣ (Int.gcd p q : Int) := Int.dvd_coe_gcd k1 k2
  have k4 := Int.le_of_dvd hg k3
  have k5 : 2 * (Int.gcd p q : Int) ≤ d * (Int.gcd p q : Int) := Int.mul_le_mul_of_nonneg_right hd (by omega)
  omega
end Go.Eng
end

/- panel: shifted. -/
section
namespace Go.Eng
open Go Go.RowKit Go.Proofs
set_option maxRecDepth 100000
set_option maxHeartbeats 4000000
attribute [local irreducible] OwnT DefS
/-- Which rows are shifted. -/
def shP (s : Nat → Int) (jv : Int) (own : Bool) (i : Nat) : Bool := !own || decide (s i = jv)
def shK (s : Nat → Int) (jv : Int) (own : Bool) (V : Nat → Nat → Int) (g : Nat) (x : Int) (m : Nat) : Bool := allU (fun i => decide (shV V g (shP s jv own) x i g ≤ 10000)) m
def shQ (V : Nat → Nat → Nat → Int) (g : Nat) (p : Nat → Bool) (x : Int) (i e q : Nat) : Int := V i e q + if e = g ∧ p i = true ∧ q = 0 then x else 0
def shW (s : Nat → Int) (jv : Int) (own : Bool) (V : Nat → Nat → Nat → Int) (g : Nat) (x : Int) (m : Nat) : Nat → Nat → Nat → Int :=
  if shK s jv own (fun i e => V i e 0) g x m then shQ V g (shP s jv own) x else V
theorem shQ_0 (V : Nat → Nat → Nat → Int) (g : Nat) (p : Nat → Bool) (x : Int) : (fun i e => shQ V g p x i e 0) = shV (fun i e => V i e 0) g p x := by
  funext i e; simp [shQ, shV]
theorem shV_g (V : Nat → Nat → Int) (g : Nat) (p : Nat → Bool) (x : Int) (i : Nat) : shV V g p x i g = V i g + if p i = true then x else 0 := by simp [shV]
/-- A row, behind a store. -/
theorem shQ_st {V : Nat → Nat → Nat → Int} {g : Nat} {p : Nat → Bool} {x y : Int} {i : Nat} (hp : p i = true) (hy : y = V i g 0 + x) :
    (fun a b => if a = g ∧ 0 ≤ b ∧ b < 1 then nth [SV.int .i64 y] (b - 0) else .int .i64 (V i a b)) = fun a b => .int .i64 (shQ V g p x i a b) := by
  funext a b
  by_cases h : a = g ∧ b = 0
  · obtain ⟨rfl, rfl⟩ := h
    simp [shQ, hp, hy, nth]
  · rw [if_neg (fun h2 => h ⟨h2.1, by omega⟩), shQ, if_neg (fun h2 => h ⟨h2.1, h2.2.2⟩), Int.add_zero]
theorem shQ_no {V : Nat → Nat → Nat → Int} {g : Nat} {p : Nat → Bool} {x : Int} {i : Nat} (hp : p i = false) :
    (fun a b => SV.int .i64 (V i a b)) = fun a b => .int .i64 (shQ V g p x i a b) := by
  funext a b
  rw [shQ, if_neg (fun h2 => by rw [hp] at h2; cases h2.2.1), Int.add_zero]
theorem nest_cat {A : Nat → Nat → Int} {M : Nat → Nat} {F : Nat → Nat → Nat → Int} {r v : Nat} {w : Nat → Nat → SV} (hw : w = fun a b => .int .i64 (F r a b)) : ∀ x y, x < r + 1 → y < 1 →
    nestF 0 1 A M F x y = catF r (nestF 0 1 A M F) (oneF [.vec v 1]) x y ∨ (catF r (nestF 0 1 A M F) (oneF [.vec v 1]) x y = .vec v 1 ∧ nestF 0 1 A M F x y = .row (M r) 1 w) := by
  intro x y hx hy
  obtain rfl : y = 0 := by omega
  rcases Nat.lt_or_ge x r with h1 | h1
  · left; simp only [catF, if_pos h1]
  · obtain rfl : x = r := by omega
    right
    refine ⟨by simp only [catF, if_neg (Nat.lt_irrefl _), Nat.sub_self]; rfl, ?_⟩
    rw [hw]; rfl
theorem catF_nil (f g : Nat → Nat → SV) : catF 0 f g = g := by
  funext i j; simp [catF]
def shiftedBase : BaseF := fun args => match args with
  | [.agg [.row n sz_s f_s, .row k sz_j f_j, .row m sz_A f_A], .int .i64 g, .int .i64 x, .bool own] => some ((sz_s = 1 ∧ IntR n 1 f_s) ∧ (sz_j = 1 ∧ IntR k 1 f_j) ∧ (sz_A = 1 ∧ NestR m 1 0 1 f_A) ∧ (Bsp n k m (nsM 0 f_A) (fun i e => (nsV 0 f_A) i e 0) g ∧ 0 ≤ x ∧ x ≤ 65535), .tup [.agg [.row n 1 (fun i e => .int .i64 ((ivf f_s) i e)), .row k 1 (fun i e => .int .i64 ((ivf f_j) i e)), .row m 1 (nestF 0 1 (nsA f_A) (nsM 0 f_A) (shW (fun i => (ivf f_s) i 0) ((ivf f_j) g.toNat 0) own (nsV 0 f_A) g.toNat x m))], .bool (shK (fun i => (ivf f_s) i 0) ((ivf f_j) g.toNat 0) own (fun i e => (nsV 0 f_A) i e 0) g.toNat x m)])
  | _ => none
theorem shifted_eq (n : Nat) (sz_s : Nat) (f_s : Nat → Nat → SV) (k : Nat) (sz_j : Nat) (f_j : Nat → Nat → SV) (m : Nat) (sz_A : Nat) (f_A : Nat → Nat → SV) (g : Int) (x : Int) (own : Bool) : shiftedBase [.agg [.row n sz_s f_s, .row k sz_j f_j, .row m sz_A f_A], .int .i64 g, .int .i64 x, .bool own] = some ((sz_s = 1 ∧ IntR n 1 f_s) ∧ (sz_j = 1 ∧ IntR k 1 f_j) ∧ (sz_A = 1 ∧ NestR m 1 0 1 f_A) ∧ (Bsp n k m (nsM 0 f_A) (fun i e => (nsV 0 f_A) i e 0) g ∧ 0 ≤ x ∧ x ≤ 65535), .tup [.agg [.row n 1 (fun i e => .int .i64 ((ivf f_s) i e)), .row k 1 (fun i e => .int .i64 ((ivf f_j) i e)), .row m 1 (nestF 0 1 (nsA f_A) (nsM 0 f_A) (shW (fun i => (ivf f_s) i 0) ((ivf f_j) g.toNat 0) own (nsV 0 f_A) g.toNat x m))], .bool (shK (fun i => (ivf f_s) i 0) ((ivf f_j) g.toNat 0) own (fun i e => (nsV 0 f_A) i e 0) g.toNat x m)]) := rfl
theorem shifted_base : NB Try.prog 30 shiftedBase := by
  intro args p v hq hp
  unfold shiftedBase at hq
  split at hq
  rotate_left
  · cases hq
  rename_i n sz_s f_s k sz_j f_j m sz_A f_A g x own
  cases hq
  obtain ⟨⟨rfl, i_s⟩, ⟨rfl, i_j⟩, ⟨rfl, i_A⟩, pre⟩ := hp
  refine nb_of (C := cx [] [] [] [(30, 7, p30_7)] none) (cx_ok trivial trivial) rfl (g := 30) (fn := Try.f30)
    (args' := [.agg [.row n 1 (rowF .i64 (ivf f_s)), .row k 1 (rowF .i64 (ivf f_j)), .row m 1 (nestF 0 1 (nsA f_A) (nsM 0 f_A) (nsV 0 f_A))], .int .i64 g, .int .i64 x, .bool own]) (fn_30) rfl 1000 (by
    simp only [BdL, Bd, and_self, and_true, true_and]
    exact ⟨(fun i j hi hj => by rw [i_s i j hi hj]; trivial), (fun i j hi hj => by rw [i_j i j hi hj]; trivial), (fun i j hi hj => nest_bd i_A i j hi hj)⟩) ⟨SameD.agg ⟨SameD.int i_s, SameD.int i_j, SameD.nest i_A, trivial⟩, SameD.rfl' _, SameD.rfl' _, SameD.rfl' _, trivial⟩ (by ((repeat' refine And.intro ?_ ?_) <;> first | trivial | rfl | exact fun _ _ _ _ => trivial | exact nestF_bd _ _ _ _ _ _ _ _ _ | exact fun i hi => nestF_bd _ _ _ _ _ _ _ _ _ i 0 hi Nat.zero_lt_one)) ?_
  generalize ivf f_s = s at *
  generalize ivf f_j = j at *
  generalize nsA f_A = A at *
  generalize nsM 0 f_A = M at *
  generalize nsV 0 f_A = V at *
  simp only [rowF_eq]
  simp only [p30_7, nestF_eq, nestR_lit, nsM_lit, nsV_lit, catF_nil, Try.f30, go_sem, ↓reduceIte, Nat.reduceAdd, Nat.reduceSub, Nat.reduceMul, Nat.reduceEqDiff, Nat.reduceLT, Nat.reduceLeDiff, Int.reduceToNat, Int.reduceLE, Int.reduceLT, Int.reduceEq, Int.reduceNeg, reduceCtorEq]
  obtain ⟨hsp, x0, x1⟩ := pre
  obtain ⟨q1, q2, q3, q4, q5, q6, q7⟩ := hsp
  have hmn : m = n := q3
  have sz : m ≤ 1000000 := by omega
  refine loop_ofH { i : Nat // i ≤ m ∧ ∀ q, q < i → (fun i => decide (shV (fun i e => V i e 0) g.toNat (shP (fun i => s i 0) (j g.toNat 0) own) x i g.toNat ≤ 10000)) q = true } (fun i => [(11, .int .i64 (i.1 : Int)), (10, .ptr 2 0), (8, .ptr 1 0), (4, .ptr 0 0), (3, .bool own), (2, .int .i64 x), (1, .int .i64 g)]) (fun _ i => { blks := [.live 54 [.row n 1 (fun i e => .int .i64 (s i e)), .row k 1 (fun i e => .int .i64 (j i e)), .row m 1 (nestF 0 1 A M V)], .live 54 [.vec 0 0, .vec 1 0, .vec 2 0], .live 54 [.row n 1 (fun i e => .int .i64 (s i e)), .row k 1 (fun i e => .int .i64 (j i e)), .vec 6 i.1]], vecs := [.live 0 3 1 0 (fun _ _ => .any), .live 0 3 1 0 (fun _ _ => .any), .live 0 37 1 0 (fun _ _ => .any), .live 0 3 1 0 (fun _ _ => .any), .live 0 3 1 0 (fun _ _ => .any), .live 0 37 1 0 (fun _ _ => .any), .live i.1 37 1 i.1 (nestF 0 1 A M (shQ V g.toNat (shP (fun i => s i 0) (j g.toNat 0) own) x))] }) (fun i => m - i.1) (fun _ => ⟨rfl, rfl⟩) ⟨0, by omega, by omega⟩ (by (apply sub_of <;> simp only [go_sem, ↓reduceIte, Nat.reduceAdd, Nat.reduceSub, Nat.reduceMul, Nat.reduceEqDiff, Nat.reduceLT, Nat.reduceLeDiff, Int.reduceToNat, Int.reduceLE, Int.reduceLT, Int.reduceEq, Int.reduceNeg, reduceCtorEq] <;> (try simp [catF]) <;> (try exact fun j _ => Bd_nth (by simp [BdL, Bd]) j) <;> (try exact bd_setL (by simp [bdAs, BdL, Bd])) <;> (try exact nestF_bd _ _ _ _ _ _ _ _ _)) <;> (first | ((repeat' refine And.intro ?_ ?_) <;> first | trivial | rfl | exact fun _ _ _ _ => trivial | exact nestF_bd _ _ _ _ _ _ _ _ _ | exact fun i hi => nestF_bd _ _ _ _ _ _ _ _ _ i 0 hi Nat.zero_lt_one) | ((repeat' refine And.intro ?_ ?_) <;> first | ((repeat' refine And.intro ?_ ?_) <;> first | trivial | rfl | exact fun _ _ _ _ => trivial | exact nestF_bd _ _ _ _ _ _ _ _ _ | exact fun i hi => nestF_bd _ _ _ _ _ _ _ _ _ i 0 hi Nat.zero_lt_one) | exact nth3_bd (fun _ _ _ _ => trivial) (fun _ _ _ _ => trivial) (nestF_bd _ _ _ _ _ _ _ _ _)))) ?_
  rintro ⟨i, hi, h3⟩
  simp only [p30_7, nestF_eq, nestR_lit, nsM_lit, nsV_lit, catF_nil, Try.f30, go_sem, ↓reduceIte, Nat.reduceAdd, Nat.reduceSub, Nat.reduceMul, Nat.reduceEqDiff, Nat.reduceLT, Nat.reduceLeDiff, Int.reduceToNat, Int.reduceLE, Int.reduceLT, Int.reduceEq, Int.reduceNeg, reduceCtorEq]
  refine ⟨fun e1 => ?_, fun e1 => ?_⟩
  rotate_left
  · simp only [decide_eq_false_iff_not] at e1
    obtain rfl : i = m := by omega
    have hK : shK (fun i => s i 0) (j g.toNat 0) own (fun i e => V i e 0) g.toNat x i = true := allU_true h3
    rw [shW, hK]
    exact ⟨⟨fun _ _ _ _ => trivial, fun _ _ _ _ => trivial, nestF_bd _ _ _ _ _ _ _ _ _⟩, SameD.rfl' _⟩
  simp only [decide_eq_true_eq] at e1
  have im : i < m := by omega
  have hMi : M i = k := q4 i im
  have hVg := q5 i im g.toNat (by omega)
  have hw : IntKind.i64.wrap (V i g.toNat 0 + x) = V i g.toNat 0 + x := wrap_id (by omega) (by omega)
  refine ⟨⟨by omega, by omega⟩, ⟨by omega, by omega⟩, ⟨by kernel_rfl, by kernel_rfl⟩, fun o1 => ?_, fun o1 => ⟨⟨by omega, by omega⟩, ⟨by omega, by omega⟩, fun o2 => ?_, fun o2 => ?_⟩⟩
  · have hp : shP (fun i => s i 0) (j g.toNat 0) own i = true := by rw [shP, o1]; rfl
    refine ⟨⟨by omega, by omega⟩, by omega, ⟨by omega, by omega⟩, by omega, ⟨by omega, by omega⟩, by omega, ?_⟩
    rw [hw]
    refine ⟨fun e2 => ?_, fun e2 => ⟨⟨by omega, by omega⟩, ⟨i + 1, by omega, below h3 ?_⟩, by simp only []; omega, ?_⟩⟩
    · simp only [decide_eq_true_eq] at e2
      have hK : shK (fun i => s i 0) (j g.toNat 0) own (fun i e => V i e 0) g.toNat x m = false := allU_false im (by rw [shV_g, hp]; simp only [if_true]; simp; omega)
      rw [shW, hK]
      exact ⟨⟨fun _ _ _ _ => trivial, fun _ _ _ _ => trivial, nestF_bd _ _ _ _ _ _ _ _ _⟩, SameD.rfl' _⟩
    · simp only [decide_eq_false_iff_not] at e2
      rw [shV_g, hp]; simp only [if_true]; simp; omega
    · refine sub_fz 7 6 (nestF 0 1 A M (shQ V g.toNat (shP (fun i => s i 0) (j g.toNat 0) own) x)) rfl rfl (by decide) (nest_cat (shQ_st hp rfl)) ?_
      apply sub_of <;> simp only [wrap_s im sz, go_sem, ↓reduceIte, Nat.reduceAdd, Nat.reduceSub, Nat.reduceMul, Nat.reduceEqDiff, Nat.reduceLT, Nat.reduceLeDiff, Int.reduceToNat, Int.reduceLE, Int.reduceLT, Int.reduceEq, Int.reduceNeg, reduceCtorEq] <;> (first | ((repeat' refine And.intro ?_ ?_) <;> first | trivial | rfl | exact fun _ _ _ _ => trivial | exact nestF_bd _ _ _ _ _ _ _ _ _ | exact fun i hi => nestF_bd _ _ _ _ _ _ _ _ _ i 0 hi Nat.zero_lt_one) | ((repeat' refine And.intro ?_ ?_) <;> first | ((repeat' refine And.intro ?_ ?_) <;> first | trivial | rfl | exact fun _ _ _ _ => trivial | exact nestF_bd _ _ _ _ _ _ _ _ _ | exact fun i hi => nestF_bd _ _ _ _ _ _ _ _ _ i 0 hi Nat.zero_lt_one) | exact nth3_bd (fun _ _ _ _ => trivial) (fun _ _ _ _ => trivial) (nestF_bd _ _ _ _ _ _ _ _ _)))
  · have hp : shP (fun i => s i 0) (j g.toNat 0) own i = true := by rw [shP, o2, Bool.or_true]
    refine ⟨⟨by omega, by omega⟩, by omega, ⟨by omega, by omega⟩, by omega, ⟨by omega, by omega⟩, by omega, ?_⟩
    rw [hw]
    refine ⟨fun e2 => ?_, fun e2 => ⟨⟨by omega, by omega⟩, ⟨i + 1, by omega, below h3 ?_⟩, by simp only []; omega, ?_⟩⟩
    · simp only [decide_eq_true_eq] at e2
      have hK : shK (fun i => s i 0) (j g.toNat 0) own (fun i e => V i e 0) g.toNat x m = false := allU_false im (by rw [shV_g, hp]; simp only [if_true]; simp; omega)
      rw [shW, hK]
      exact ⟨⟨fun _ _ _ _ => trivial, fun _ _ _ _ => trivial, nestF_bd _ _ _ _ _ _ _ _ _⟩, SameD.rfl' _⟩
    · simp only [decide_eq_false_iff_not] at e2
      rw [shV_g, hp]; simp only [if_true]; simp; omega
    · refine sub_fz 7 6 (nestF 0 1 A M (shQ V g.toNat (shP (fun i => s i 0) (j g.toNat 0) own) x)) rfl rfl (by decide) (nest_cat (shQ_st hp rfl)) ?_
      apply sub_of <;> simp only [wrap_s im sz, go_sem, ↓reduceIte, Nat.reduceAdd, Nat.reduceSub, Nat.reduceMul, Nat.reduceEqDiff, Nat.reduceLT, Nat.reduceLeDiff, Int.reduceToNat, Int.reduceLE, Int.reduceLT, Int.reduceEq, Int.reduceNeg, reduceCtorEq] <;> (first | ((repeat' refine And.intro ?_ ?_) <;> first | trivial | rfl | exact fun _ _ _ _ => trivial | exact nestF_bd _ _ _ _ _ _ _ _ _ | exact fun i hi => nestF_bd _ _ _ _ _ _ _ _ _ i 0 hi Nat.zero_lt_one) | ((repeat' refine And.intro ?_ ?_) <;> first | ((repeat' refine And.intro ?_ ?_) <;> first | trivial | rfl | exact fun _ _ _ _ => trivial | exact nestF_bd _ _ _ _ _ _ _ _ _ | exact fun i hi => nestF_bd _ _ _ _ _ _ _ _ _ i 0 hi Nat.zero_lt_one) | exact nth3_bd (fun _ _ _ _ => trivial) (fun _ _ _ _ => trivial) (nestF_bd _ _ _ _ _ _ _ _ _)))
  · have hp : shP (fun i => s i 0) (j g.toNat 0) own i = false := by rw [shP, o1, o2]; rfl
    refine ⟨⟨by omega, by omega⟩, by omega, ?_⟩
    refine ⟨fun e2 => ?_, fun e2 => ⟨⟨by omega, by omega⟩, ⟨i + 1, by omega, below h3 ?_⟩, by simp only []; omega, ?_⟩⟩
    · simp only [decide_eq_true_eq] at e2
      omega
    · simp only [decide_eq_false_iff_not] at e2
      rw [shV_g, hp]; simp; omega
    · refine sub_fz 7 6 (nestF 0 1 A M (shQ V g.toNat (shP (fun i => s i 0) (j g.toNat 0) own) x)) rfl rfl (by decide) (nest_cat (shQ_no hp)) ?_
      apply sub_of <;> simp only [wrap_s im sz, go_sem, ↓reduceIte, Nat.reduceAdd, Nat.reduceSub, Nat.reduceMul, Nat.reduceEqDiff, Nat.reduceLT, Nat.reduceLeDiff, Int.reduceToNat, Int.reduceLE, Int.reduceLT, Int.reduceEq, Int.reduceNeg, reduceCtorEq] <;> (first | ((repeat' refine And.intro ?_ ?_) <;> first | trivial | rfl | exact fun _ _ _ _ => trivial | exact nestF_bd _ _ _ _ _ _ _ _ _ | exact fun i hi => nestF_bd _ _ _ _ _ _ _ _ _ i 0 hi Nat.zero_lt_one) | ((repeat' refine And.intro ?_ ?_) <;> first | ((repeat' refine And.intro ?_ ?_) <;> first | trivial | rfl | exact fun _ _ _ _ => trivial | exact nestF_bd _ _ _ _ _ _ _ _ _ | exact fun i hi => nestF_bd _ _ _ _ _ _ _ _ _ i 0 hi Nat.zero_lt_one) | exact nth3_bd (fun _ _ _ _ => trivial) (fun _ _ _ _ => trivial) (nestF_bd _ _ _ _ _ _ _ _ _)))
end Go.Eng
end

/- panel: PanelExact. -/
section
namespace Go.Eng
open Go Go.RowKit Go.Proofs
set_option maxRecDepth 100000
set_option maxHeartbeats 4000000
attribute [local irreducible] OwnT DefS
theorem rso_bd2 {V : Nat → Nat → Int} {i g k : Nat} (h : ∀ e, e < k → 0 ≤ V i e ∧ V i e ≤ 10000) : ∀ e, e ≤ k → 0 ≤ rso V g i e ∧ rso V g i e ≤ 10000 * e - if g < e then 10000 else 0
  | 0, _ => by simp [rso]
  | e + 1, he => by
    have h1 := rso_bd2 (g := g) h e (by omega)
    have h2 := h e (by omega)
    simp only [rso]
    by_cases h3 : e = g
    · rw [if_pos h3, if_pos (by omega)]; rw [if_neg (by omega)] at h1; omega
    · by_cases h4 : g < e
      · rw [if_neg h3, if_pos (by omega)]; rw [if_pos h4] at h1; omega
      · rw [if_neg h3, if_neg (by omega)]; rw [if_neg h4] at h1; omega
theorem suF_bd2 {b : Nat → Bool} {o : Nat → Int} {n : Nat} {C : Int} (h : ∀ i, i < n → -C ≤ o i ∧ o i ≤ C) : ∀ i, i ≤ n → -((cnF b i : Int) * C) ≤ suF b o i ∧ suF b o i ≤ (cnF b i : Int) * C
  | 0, _ => by simp [suF, cnF]
  | i + 1, hi => by
    have h1 := suF_bd2 (b := b) h i (by omega)
    have h2 := h i (by omega)
    simp only [suF, cnF]
    cases b i with
    | false => simp only [Bool.false_eq_true, if_false, Nat.add_zero]; omega
    | true =>
      simp only [if_true]
      rw [Int.natCast_succ, Int.add_mul, Int.one_mul]; omega
/-- A bias is at most 20000. -/
theorem bs_most {n k m : Nat} {M : Nat → Nat} {V : Nat → Nat → Int} {s j : Nat → Int} {g : Int} (h : Bsp n k m M V g) (hk : biK k (bsF s (j g.toNat) k g.toNat V n) = true) :
    biN k (bsF s (j g.toNat) k g.toNat V n) ≤ 20000 * biD k (bsF s (j g.toNat) k g.toNat V n) ∧ -(20000 * biD k (bsF s (j g.toNat) k g.toNat V n)) ≤ biN k (bsF s (j g.toNat) k g.toNat V n)
    ∧ ∀ d : Int, 2 ≤ d → d ∣ biN k (bsF s (j g.toNat) k g.toNat V n) → d ∣ biD k (bsF s (j g.toNat) k g.toNat V n) → False := by
  obtain ⟨q1, q2, q3, q4, q5, q6, q7⟩ := h
  have hg : g.toNat < k := by omega
  have ho : ∀ i, i < n → -(10000 * ((k : Int) - 1)) ≤ offF V k g.toNat i ∧ offF V k g.toNat i ≤ 10000 * ((k : Int) - 1) := fun i hi => by
    rw [offF_eq hg]
    have h1 := rso_bd2 (g := g.toNat) (q5 i (by omega)) k (Nat.le_refl _)
    rw [if_pos hg] at h1
    have h2 := q5 i (by omega) g.toNat hg
    have m1 := mulB (a := V i g.toNat) (A := 10000) (b := (k : Int) - 1) (B := (k : Int) - 1) (by omega) (by omega) (by omega) (by omega)
    have m2 := Int.mul_nonneg (show 0 ≤ (k : Int) - 1 by omega) h2.1
    rw [Int.mul_comm (V i g.toNat)] at m1
    omega
  have sO := suF_bd2 (b := fun i => decide (s i = j g.toNat)) ho n (Nat.le_refl _)
  have sR := suF_bd2 (b := fun i => !decide (s i = j g.toNat)) ho n (Nat.le_refl _)
  rw [biD, biN, hk, if_pos rfl, if_pos rfl]
  revert hk sO sR
  simp only [bsF]
  generalize suF (fun i => decide (s i = j g.toNat)) (offF V k g.toNat) n = a
  generalize suF (fun i => !decide (s i = j g.toNat)) (offF V k g.toNat) n = b
  generalize cnF (fun i => decide (s i = j g.toNat)) n = c
  generalize cnF (fun i => !decide (s i = j g.toNat)) n = d
  intro hk h1 h2
  simp only [biK, Bool.not_eq_true', Bool.or_eq_false_iff, decide_eq_false_iff_not] at hk
  obtain ⟨k1, k2, k3⟩ := hk
  have hp := den_pos (c := c) (d := d) (k := k) k2 k3 k1
  have hgp := gcd_pos (p := a * d - b * c) hp
  have e1 := lowN_mul (a * d - b * c) (c * d * ((k : Int) - 1))
  have e2 := lowD_mul (a * d - b * c) (c * d * ((k : Int) - 1))
  have m1 := mulB (a := a) (A := (c : Int) * (10000 * ((k : Int) - 1))) (b := (d : Int)) (B := (d : Int)) h1.1 h1.2 (by omega) (by omega)
  have m2 := mulB (a := b) (A := (d : Int) * (10000 * ((k : Int) - 1))) (b := (c : Int)) (B := (c : Int)) h2.1 h2.2 (by omega) (by omega)
  have r1 : (c : Int) * (10000 * ((k : Int) - 1)) * d = 10000 * (c * d * ((k : Int) - 1)) := by ac_rfl
  have r2 : (d : Int) * (10000 * ((k : Int) - 1)) * c = 10000 * (c * d * ((k : Int) - 1)) := by ac_rfl
  rw [r1] at m1; rw [r2] at m2
  refine ⟨?_, ?_, fun x hx y1 y2 => low_coprime hp hx y1 y2⟩
  · apply Int.le_of_mul_le_mul_right _ hgp
    rw [e1, Int.mul_assoc, e2]; omega
  · apply Int.le_of_mul_le_mul_right _ hgp
    rw [e1, Int.neg_mul, Int.mul_assoc, e2]; omega
theorem mkB_turn {n k : Nat} {s j : Nat → Int} {M : Nat → Nat} {V : Nat → Nat → Int} (t : Nat) (h : mkB n s k j n M V = true) :
    mkB n (fun i => s ((i + t) % n)) k j n (fun i => M ((i + t) % n)) (fun i => V ((i + t) % n)) = true := by
  simp only [mkB, Bool.and_eq_true, decide_eq_true_eq, allU_iff] at h ⊢
  obtain ⟨⟨⟨⟨⟨h1, h2⟩, h3⟩, h4⟩, h5⟩, h6⟩ := h
  exact ⟨⟨⟨⟨⟨h1, h2⟩, h3⟩, fun i hi => h4 _ (Nat.mod_lt _ (by omega))⟩, h5⟩, fun i hi => h6 _ (Nat.mod_lt _ (by omega))⟩
theorem mkB_sh {n k m g : Nat} {s j : Nat → Int} {M : Nat → Nat} {V : Nat → Nat → Int} {p : Nat → Bool} {x : Int} (h : mkB n s k j m M V = true) (hx : 0 ≤ x)
    (hK : ∀ i, i < m → shV V g p x i g ≤ 10000) : mkB n s k j m M (shV V g p x) = true := by
  simp only [mkB, Bool.and_eq_true, decide_eq_true_eq, allU_iff] at h ⊢
  obtain ⟨⟨⟨⟨⟨h1, h2⟩, h3⟩, h4⟩, h5⟩, h6⟩ := h
  refine ⟨⟨⟨⟨⟨h1, h2⟩, h3⟩, h4⟩, h5⟩, fun i hi => ⟨(h6 i hi).1, fun e he => ?_⟩⟩
  have h7 := in3_iff.1 ((h6 i hi).2 e he)
  rw [in3_iff]
  by_cases hg : e = g
  · have h8 := hK i hi
    rw [← hg] at h8 ⊢
    refine ⟨?_, h8⟩
    simp only [shV]; split <;> omega
  · simp only [shV]; rw [if_neg (fun h9 => hg h9.1)]; omega
theorem sh_all {n k m g : Nat} {s j : Nat → Int} {M : Nat → Nat} {V : Nat → Nat → Nat → Int} {jv : Int} {own : Bool} {x : Int} (h : mkB n s k j m M (fun i e => V i e 0) = true) (hx : 0 ≤ x)
    (hK : shK s jv own (fun i e => V i e 0) g x m = true) :
    (fun i e => shW s jv own V g x m i e 0) = shV (fun i e => V i e 0) g (shP s jv own) x ∧ mkB n s k j m M (shV (fun i e => V i e 0) g (shP s jv own) x) = true := by
  refine ⟨?_, mkB_sh h hx fun i hi => by have := allU_iff.1 hK i hi; simpa using this⟩
  rw [shW, hK]; exact shQ_0 _ _ _ _
theorem bi_num (k : Nat) (b : Bs) : biN k b = (if biK k b then lowN (numB b) (denB k b) else 0) ∧ biD k b = (if biK k b then lowD (numB b) (denB k b) else 0) := ⟨rfl, rfl⟩
theorem den_bs {k : Nat} {b : Bs} (h : biK k b = true) : 0 < denB k b := by
  simp only [biK, Bool.not_eq_true', Bool.or_eq_false_iff, decide_eq_false_iff_not] at h
  exact den_pos h.2.1 h.2.2 h.1
def panelExactBase : BaseF := fun args => match args with
  | [.agg [.row n sz_s f_s, .row k sz_j f_j, .row m sz_A f_A], .int .i64 g, .int .u16 x, .int .u8 t] => some ((sz_s = 1 ∧ IntR n 1 f_s) ∧ (sz_j = 1 ∧ IntR k 1 f_j) ∧ (sz_A = 1 ∧ NestR m 1 0 1 f_A) ∧ ((Lit.int .u16 x).wf = true) ∧ ((Lit.int .u8 t).wf = true), .bool true)
  | _ => none
theorem panelExact_eq (n : Nat) (sz_s : Nat) (f_s : Nat → Nat → SV) (k : Nat) (sz_j : Nat) (f_j : Nat → Nat → SV) (m : Nat) (sz_A : Nat) (f_A : Nat → Nat → SV) (g : Int) (x : Int) (t : Int) : panelExactBase [.agg [.row n sz_s f_s, .row k sz_j f_j, .row m sz_A f_A], .int .i64 g, .int .u16 x, .int .u8 t] = some ((sz_s = 1 ∧ IntR n 1 f_s) ∧ (sz_j = 1 ∧ IntR k 1 f_j) ∧ (sz_A = 1 ∧ NestR m 1 0 1 f_A) ∧ ((Lit.int .u16 x).wf = true) ∧ ((Lit.int .u8 t).wf = true), .bool true) := rfl
theorem panelExact_base : Base Try.prog 7 panelExactBase := by
  intro args p v hq hp
  unfold panelExactBase at hq
  split at hq
  rotate_left
  · cases hq
  rename_i n sz_s f_s k sz_j f_j m sz_A f_A g x t
  cases hq
  obtain ⟨⟨rfl, i_s⟩, ⟨rfl, i_j⟩, ⟨rfl, i_A⟩, wf_x, wf_t⟩ := hp
  refine base_of (C := cxn [] [(30, shiftedBase)] [] [(12, longerBase), (13, awakeBase), (28, BiasBase), (29, marksRBase)] [(7, 19, p7_19), (7, 20, p7_20)] none) (cxn_ok ⟨shifted_base, trivial⟩ trivial ⟨longer_base, awake_base, Bias_base, marksR_base, trivial⟩) rfl (g := 7) (fn := Try.f7)
    (args' := [.agg [.row n 1 (rowF .i64 (ivf f_s)), .row k 1 (rowF .i64 (ivf f_j)), .row m 1 (nestF 0 1 (nsA f_A) (nsM 0 f_A) (nsV 0 f_A))], .int .i64 g, .int .u16 x, .int .u8 t]) (fn_7) rfl 1000 (by
    simp only [BdL, Bd, and_self, and_true, true_and]
    exact ⟨(fun i j hi hj => by rw [i_s i j hi hj]; trivial), (fun i j hi hj => by rw [i_j i j hi hj]; trivial), (fun i j hi hj => nest_bd i_A i j hi hj)⟩) ⟨SameD.agg ⟨SameD.int i_s, SameD.int i_j, SameD.nest i_A, trivial⟩, SameD.rfl' _, SameD.rfl' _, SameD.rfl' _, trivial⟩ ?_
  generalize ivf f_s = s
  generalize ivf f_j = j
  generalize nsA f_A = A
  generalize nsM 0 f_A = M
  generalize nsV 0 f_A = V
  simp only [rowF_eq]
  simp only [longer_eq, awake_eq, Bias_eq, marksR_eq, shifted_eq, p7_19, p7_20, nestF_eq, nestR_lit, nsM_lit, nsV_lit, catF_nil, Try.f7, go_sem, ↓reduceIte, Nat.reduceAdd, Nat.reduceSub, Nat.reduceMul, Nat.reduceEqDiff, Nat.reduceLT, Nat.reduceLeDiff, Int.reduceToNat, Int.reduceLE, Int.reduceLT, Int.reduceEq, Int.reduceNeg, reduceCtorEq]
  refine ⟨fun _ => trivial, fun c1 => ⟨fun _ => trivial, fun c2 => ⟨fun _ => trivial, fun c3 => ?_⟩⟩⟩
  simp only [decide_eq_false_iff_not] at c1 c2
  have hm := lg_len c3
  have sz : n ≤ 1000000 ∧ k ≤ 1000000 ∧ m ≤ 1000000 := ⟨by omega, by omega, by omega⟩
  refine ⟨sz, ?_⟩
  cases hmk : mkB n (fun i => s i 0) k (fun i => j i 0) m M (fun i e => V i e 0) with
  | false => refine ⟨fun _ => ?_, fun h => ?_⟩ <;> simp_all [biE, biX, biY, spl]
  | true =>
  cases hin : in3 g 0 ((k : Int) - 1) with
  | false => refine ⟨fun _ => ?_, fun h => ?_⟩ <;> simp_all [biE, biX, biY, spl]
  | true =>
  cases hk : biK k (bsF (fun i => s i 0) (j g.toNat 0) k g.toNat (fun i e => V i e 0) n) with
  | false => refine ⟨fun _ => ?_, fun h => ?_⟩ <;> simp_all [biE, biX, biY, biN, biD, spl]
  | true =>
  have hsp : Bsp n k m M (fun i e => V i e 0) g := Bsp.of hmk hin
  obtain ⟨b1, b2, b3, b4⟩ := bs_bd (s := fun i => s i 0) (j := fun i => j i 0) hsp hk
  obtain ⟨b5, b6, b7⟩ := bs_most (s := fun i => s i 0) (j := fun i => j i 0) hsp hk
  have hE : biE true k g (bsF (fun i => s i 0) (j g.toNat 0) k g.toNat (fun i e => V i e 0) n) = 0 := by rw [biE, hin, hk]; rfl
  have hX : biX true k g (bsF (fun i => s i 0) (j g.toNat 0) k g.toNat (fun i e => V i e 0) n) = biN k (bsF (fun i => s i 0) (j g.toNat 0) k g.toNat (fun i e => V i e 0) n) := by rw [biX, hin]; rfl
  have hY : biY true k g (bsF (fun i => s i 0) (j g.toNat 0) k g.toNat (fun i e => V i e 0) n) = biD k (bsF (fun i => s i 0) (j g.toNat 0) k g.toNat (fun i e => V i e 0) n) := by rw [biY, hin]; rfl
  have g0 := in3_iff.1 hin
  rw [hE, hX, hY]
  have w1 : IntKind.i64.wrap (20000 * biD k (bsF (fun i => s i 0) (j g.toNat 0) k g.toNat (fun i e => V i e 0) n)) = 20000 * biD k (bsF (fun i => s i 0) (j g.toNat 0) k g.toNat (fun i e => V i e 0) n) := wrap_id (by omega) (by omega)
  have w2 : IntKind.i64.wrap (-20000 * biD k (bsF (fun i => s i 0) (j g.toNat 0) k g.toNat (fun i e => V i e 0) n)) = -(20000 * biD k (bsF (fun i => s i 0) (j g.toNat 0) k g.toNat (fun i e => V i e 0) n)) := by rw [wrap_id (by omega) (by omega)]; omega
  rw [w1, w2]
  refine ⟨fun h => by simp at h, fun _ => ⟨sz, fun h => (by cases h), fun _ => ⟨fun h => ?_, fun _ => ⟨fun h => ?_, fun _ => ⟨fun h => ?_, fun _ => ⟨fun h => ?_, fun _ => ⟨fun h => ?_, fun _ => ?_⟩⟩⟩⟩⟩⟩⟩
  · simp only [decide_eq_true_eq] at h; omega
  · simp only [decide_eq_true_eq] at h; omega
  · simp only [decide_eq_true_eq] at h; omega
  · simp only [decide_eq_true_eq] at h; omega
  · simp only [decide_eq_true_eq] at h; omega
  refine loop_ofH { d : Nat // 2 ≤ d ∧ d ≤ 8 } (fun d => [(11, .int .i64 (d.1 : Int)), (9, .ptr 1 0), (4, .ptr 0 0), (3, .int .u8 t), (2, .int .u16 x), (1, .int .i64 g)]) (fun h _ => h) (fun d => 8 - d.1) (fun _ => ⟨rfl, rfl⟩) ⟨2, by omega, by omega⟩ (by (apply sub_of <;> simp only [go_sem, ↓reduceIte, Nat.reduceAdd, Nat.reduceSub, Nat.reduceMul, Nat.reduceEqDiff, Nat.reduceLT, Nat.reduceLeDiff, Int.reduceToNat, Int.reduceLE, Int.reduceLT, Int.reduceEq, Int.reduceNeg, reduceCtorEq] <;> (try simp [catF]) <;> (try exact fun j _ => Bd_nth (by simp [BdL, Bd]) j) <;> (try exact bd_setL (by simp [bdAs, BdL, Bd])) <;> (try exact nestF_bd _ _ _ _ _ _ _ _ _)) <;> (first | ((repeat' refine And.intro ?_ ?_) <;> first | trivial | rfl | exact fun _ _ _ _ => trivial | exact nestF_bd _ _ _ _ _ _ _ _ _ | exact fun i hi => nestF_bd _ _ _ _ _ _ _ _ _ i 0 hi Nat.zero_lt_one) | ((repeat' refine And.intro ?_ ?_) <;> first | ((repeat' refine And.intro ?_ ?_) <;> first | trivial | rfl | exact fun _ _ _ _ => trivial | exact nestF_bd _ _ _ _ _ _ _ _ _ | exact fun i hi => nestF_bd _ _ _ _ _ _ _ _ _ i 0 hi Nat.zero_lt_one) | exact nth3_bd (fun _ _ _ _ => trivial) (fun _ _ _ _ => trivial) (nestF_bd _ _ _ _ _ _ _ _ _)))) ?_
  rintro ⟨d, hd, hd8⟩
  simp only [longer_eq, awake_eq, Bias_eq, marksR_eq, shifted_eq, p7_19, p7_20, nestF_eq, nestR_lit, nsM_lit, nsV_lit, catF_nil, Try.f7, go_sem, ↓reduceIte, Nat.reduceAdd, Nat.reduceSub, Nat.reduceMul, Nat.reduceEqDiff, Nat.reduceLT, Nat.reduceLeDiff, Int.reduceToNat, Int.reduceLE, Int.reduceLT, Int.reduceEq, Int.reduceNeg, reduceCtorEq]
  refine ⟨fun e1 => ?_, fun e1 => ?_⟩
  · simp only [decide_eq_true_eq] at e1
    have next : ∃ i' : { d : Nat // 2 ≤ d ∧ d ≤ 8 }, i'.1 = d + 1 := ⟨⟨d + 1, by omega, by omega⟩, rfl⟩
    obtain ⟨i', hi'⟩ := next
    refine ⟨by omega, fun e2 => ⟨by omega, fun e3 => ?_, fun e3 => ⟨i', by omega, ?_⟩⟩, fun e2 => ⟨i', by omega, ?_⟩⟩
    · simp only [decide_eq_true_eq] at e2 e3
      exact (b7 d (by omega) (Int.dvd_of_tmod_eq_zero e2) (Int.dvd_of_tmod_eq_zero e3)).elim
    · apply sub_of <;> simp only [hi', wrap_s (show d < 9 by omega) (by omega), go_sem, ↓reduceIte, Nat.reduceAdd, Nat.reduceSub, Nat.reduceMul, Nat.reduceEqDiff, Nat.reduceLT, Nat.reduceLeDiff, Int.reduceToNat, Int.reduceLE, Int.reduceLT, Int.reduceEq, Int.reduceNeg, reduceCtorEq] <;> (first | ((repeat' refine And.intro ?_ ?_) <;> first | trivial | rfl | exact fun _ _ _ _ => trivial | exact nestF_bd _ _ _ _ _ _ _ _ _ | exact fun i hi => nestF_bd _ _ _ _ _ _ _ _ _ i 0 hi Nat.zero_lt_one) | ((repeat' refine And.intro ?_ ?_) <;> first | ((repeat' refine And.intro ?_ ?_) <;> first | trivial | rfl | exact fun _ _ _ _ => trivial | exact nestF_bd _ _ _ _ _ _ _ _ _ | exact fun i hi => nestF_bd _ _ _ _ _ _ _ _ _ i 0 hi Nat.zero_lt_one) | exact nth3_bd (fun _ _ _ _ => trivial) (fun _ _ _ _ => trivial) (nestF_bd _ _ _ _ _ _ _ _ _)))
    · apply sub_of <;> simp only [hi', wrap_s (show d < 9 by omega) (by omega), go_sem, ↓reduceIte, Nat.reduceAdd, Nat.reduceSub, Nat.reduceMul, Nat.reduceEqDiff, Nat.reduceLT, Nat.reduceLeDiff, Int.reduceToNat, Int.reduceLE, Int.reduceLT, Int.reduceEq, Int.reduceNeg, reduceCtorEq] <;> (first | ((repeat' refine And.intro ?_ ?_) <;> first | trivial | rfl | exact fun _ _ _ _ => trivial | exact nestF_bd _ _ _ _ _ _ _ _ _ | exact fun i hi => nestF_bd _ _ _ _ _ _ _ _ _ i 0 hi Nat.zero_lt_one) | ((repeat' refine And.intro ?_ ?_) <;> first | ((repeat' refine And.intro ?_ ?_) <;> first | trivial | rfl | exact fun _ _ _ _ => trivial | exact nestF_bd _ _ _ _ _ _ _ _ _ | exact fun i hi => nestF_bd _ _ _ _ _ _ _ _ _ i 0 hi Nat.zero_lt_one) | exact nth3_bd (fun _ _ _ _ => trivial) (fun _ _ _ _ => trivial) (nestF_bd _ _ _ _ _ _ _ _ _)))
  clear e1
  have ht : 0 ≤ t ∧ t ≤ 255 := by simpa [Lit.wf, IntKind.min, IntKind.max, IntKind.signed, IntKind.bits] using wf_t
  have hx : 0 ≤ x ∧ x ≤ 65535 := by simpa [Lit.wf, IntKind.min, IntKind.max, IntKind.signed, IntKind.bits] using wf_x
  refine loop_ofH { i : Nat // i ≤ n } (fun i => [(13, .int .i64 (i.1 : Int)), (12, .ptr 2 0), (9, .ptr 1 0), (4, .ptr 0 0), (3, .int .u8 t), (2, .int .u16 x), (1, .int .i64 g)]) (fun _ i => { blks := [.live 54 [.row n 1 (fun i e => .int .i64 (s i e)), .row k 1 (fun i e => .int .i64 (j i e)), .row m 1 (nestF 0 1 A M V)], .live 57 [.int .i64 (biN k (bsF (fun i => s i 0) (j g.toNat 0) k g.toNat (fun i e => V i e 0) n)), .int .i64 (biD k (bsF (fun i => s i 0) (j g.toNat 0) k g.toNat (fun i e => V i e 0) n))], .live 54 [.vec 0 i.1, .row k 1 (fun i e => .int .i64 (j i e)), .vec 2 i.1]], vecs := [.live i.1 3 1 i.1 (fun a _ => .int .i64 (s ((a + t.toNat) % n) 0)), .live 0 3 1 0 (fun _ _ => .any), .live i.1 37 1 i.1 (nestF 0 1 A (fun a => M ((a + t.toNat) % n)) (fun a => V ((a + t.toNat) % n)))] }) (fun i => n - i.1) (fun _ => ⟨rfl, rfl⟩) ⟨0, by omega⟩ (by (apply sub_of <;> simp only [go_sem, ↓reduceIte, Nat.reduceAdd, Nat.reduceSub, Nat.reduceMul, Nat.reduceEqDiff, Nat.reduceLT, Nat.reduceLeDiff, Int.reduceToNat, Int.reduceLE, Int.reduceLT, Int.reduceEq, Int.reduceNeg, reduceCtorEq] <;> (try simp [catF]) <;> (try exact fun j _ => Bd_nth (by simp [BdL, Bd]) j) <;> (try exact bd_setL (by simp [bdAs, BdL, Bd])) <;> (try exact nestF_bd _ _ _ _ _ _ _ _ _)) <;> (first | ((repeat' refine And.intro ?_ ?_) <;> first | trivial | rfl | exact fun _ _ _ _ => trivial | exact nestF_bd _ _ _ _ _ _ _ _ _ | exact fun i hi => nestF_bd _ _ _ _ _ _ _ _ _ i 0 hi Nat.zero_lt_one) | ((repeat' refine And.intro ?_ ?_) <;> first | ((repeat' refine And.intro ?_ ?_) <;> first | trivial | rfl | exact fun _ _ _ _ => trivial | exact nestF_bd _ _ _ _ _ _ _ _ _ | exact fun i hi => nestF_bd _ _ _ _ _ _ _ _ _ i 0 hi Nat.zero_lt_one) | exact nth3_bd (fun _ _ _ _ => trivial) (fun _ _ _ _ => trivial) (nestF_bd _ _ _ _ _ _ _ _ _)))) ?_
  rintro ⟨i, hi⟩
  simp only [longer_eq, awake_eq, Bias_eq, marksR_eq, shifted_eq, p7_19, p7_20, nestF_eq, nestR_lit, nsM_lit, nsV_lit, catF_nil, Try.f7, go_sem, ↓reduceIte, Nat.reduceAdd, Nat.reduceSub, Nat.reduceMul, Nat.reduceEqDiff, Nat.reduceLT, Nat.reduceLeDiff, Int.reduceToNat, Int.reduceLE, Int.reduceLT, Int.reduceEq, Int.reduceNeg, reduceCtorEq]
  have w3 : IntKind.i64.wrap t = t := wrap_id (by omega) (by omega)
  have w4 : IntKind.i64.wrap ((i : Int) + t) = (i : Int) + t := wrap_id (by omega) (by omega)
  have w5 : IntKind.i64.wrap x = x := wrap_id (by omega) (by omega)
  have hmn : m = n := hsp.mn
  have hgk : g.toNat < k := by omega
  refine ⟨fun e1 => ?_, fun e1 => ?_⟩
  · simp only [decide_eq_true_eq] at e1
    have im : i < n := by omega
    have hr : ((i : Int) + t).tmod (n : Int) = (((i + t.toNat) % n : Nat) : Int) := by
      rw [show (i : Int) + t = ((i + t.toNat : Nat) : Int) by omega]; rfl
    have hlt := Nat.mod_lt (i + t.toNat) (show 0 < n by omega)
    rw [w3, w4, hr]
    refine ⟨by omega, ⟨by kernel_rfl, by kernel_rfl⟩, ⟨by omega, by omega⟩, ⟨by omega, by omega⟩, ⟨by kernel_rfl, by kernel_rfl⟩, ⟨by omega, by omega⟩, ⟨by omega, by omega⟩, ⟨i + 1, by omega⟩, by simp only []; omega, ?_⟩
    apply sub_of <;> simp only [wrap_s im sz.1, go_sem, ↓reduceIte, Nat.reduceAdd, Nat.reduceSub, Nat.reduceMul, Nat.reduceEqDiff, Nat.reduceLT, Nat.reduceLeDiff, Int.reduceToNat, Int.reduceLE, Int.reduceLT, Int.reduceEq, Int.reduceNeg, reduceCtorEq] <;> first | (first | ((repeat' refine And.intro ?_ ?_) <;> first | trivial | rfl | exact fun _ _ _ _ => trivial | exact nestF_bd _ _ _ _ _ _ _ _ _ | exact fun i hi => nestF_bd _ _ _ _ _ _ _ _ _ i 0 hi Nat.zero_lt_one) | ((repeat' refine And.intro ?_ ?_) <;> first | ((repeat' refine And.intro ?_ ?_) <;> first | trivial | rfl | exact fun _ _ _ _ => trivial | exact nestF_bd _ _ _ _ _ _ _ _ _ | exact fun i hi => nestF_bd _ _ _ _ _ _ _ _ _ i 0 hi Nat.zero_lt_one) | exact nth3_bd (fun _ _ _ _ => trivial) (fun _ _ _ _ => trivial) (nestF_bd _ _ _ _ _ _ _ _ _))) | skip
    refine ⟨fun a b ha hb => ?_, fun _ _ _ _ => trivial, fun a b ha hb => ?_⟩
    · rcases Nat.lt_or_ge a i with h | h
      · simp only [catF, if_pos h]
      · obtain rfl : a = i := by omega
        obtain rfl : b = 0 := by omega
        simp only [catF, if_neg (Nat.lt_irrefl _), Nat.sub_self, oneF, nth]
    · obtain rfl : b = 0 := by omega
      rcases Nat.lt_or_ge a i with h | h
      · simp only [catF, if_pos h]
      · obtain rfl : a = i := by omega
        simp only [catF, if_neg (Nat.lt_irrefl _), Nat.sub_self]; rfl
  simp only [decide_eq_false_iff_not] at e1
  obtain rfl : n = i := by omega
  obtain rfl : n = m := by omega
  have hf : (fun i j => if j = 0 then SV.row (M ((i + t.toNat) % n)) 1 (fun a b => .int .i64 (V ((i + t.toNat) % n) a b)) else .int .i64 (A i j)) = nestF 0 1 A (fun a => M ((a + t.toNat) % n)) (fun a => V ((a + t.toNat) % n)) := rfl
  rw [hf]
  simp only [nestR_lit, nsM_lit, nsV_lit]
  have f1 := mkB_turn t.toNat hmk
  have f2 : bsF (fun i => s ((i + t.toNat) % n) 0) (j g.toNat 0) k g.toNat (fun i e => V ((i + t.toNat) % n) e 0) n = bsF (fun i => s i 0) (j g.toNat 0) k g.toNat (fun i e => V i e 0) n := bsF_turn (fun i => s i 0) _ _ _ (fun i e => V i e 0) _ _
  rw [f1, f2, hE, hX, hY, w5]
  refine ⟨⟨trivial, sz⟩, fun h => by simp at h, fun _ => ⟨fun h => by simp at h, fun _ => ⟨⟨hsp, hx⟩, fun hK => ?_, fun hK => ?_⟩⟩⟩
  · obtain ⟨v1, v2⟩ := sh_all (own := false) hmk hx.1 hK
    have hP : shP (fun i => s i 0) (j g.toNat 0) false = fun _ => true := by funext i; simp [shP]
    rw [hP] at v1 v2
    obtain ⟨n1, n2, n3⟩ := bs_all (s := fun i => s i 0) (jv := j g.toNat 0) (k := k) (V := fun i e => V i e 0) (x := x) hgk n
    have hX' : biN k (bsF (fun i => s i 0) (j g.toNat 0) k g.toNat (shV (fun i e => V i e 0) g.toNat (fun _ => true) x) n) = biN k (bsF (fun i => s i 0) (j g.toNat 0) k g.toNat (fun i e => V i e 0) n) := by rw [(bi_num k _).1, (bi_num k _).1, n3, hk, n1, n2]
    have hY' : biD k (bsF (fun i => s i 0) (j g.toNat 0) k g.toNat (shV (fun i e => V i e 0) g.toNat (fun _ => true) x) n) = biD k (bsF (fun i => s i 0) (j g.toNat 0) k g.toNat (fun i e => V i e 0) n) := by rw [(bi_num k _).2, (bi_num k _).2, n3, hk, n1, n2]
    rw [v1, v2]
    have hE' : biE true k g (bsF (fun i => s i 0) (j g.toNat 0) k g.toNat (shV (fun i e => V i e 0) g.toNat (fun _ => true) x) n) = 0 := by rw [biE, hin, n3, hk]; rfl
    have hX2 : biX true k g (bsF (fun i => s i 0) (j g.toNat 0) k g.toNat (shV (fun i e => V i e 0) g.toNat (fun _ => true) x) n) = biN k (bsF (fun i => s i 0) (j g.toNat 0) k g.toNat (fun i e => V i e 0) n) := by rw [biX, hin, hX']; rfl
    have hY2 : biY true k g (bsF (fun i => s i 0) (j g.toNat 0) k g.toNat (shV (fun i e => V i e 0) g.toNat (fun _ => true) x) n) = biD k (bsF (fun i => s i 0) (j g.toNat 0) k g.toNat (fun i e => V i e 0) n) := by rw [biY, hin, hY']; rfl
    rw [hE', hX2, hY2]
    refine ⟨sz, fun h => by simp at h, fun _ => ⟨fun h => by simp at h, fun _ => ?_⟩⟩
    clear v1 v2 n1 n2 n3 hX' hY' hE' hX2 hY2 hP
    refine ⟨⟨hsp, hx⟩, fun _ => trivial, fun hO => ⟨sz, ?_⟩⟩
    simp only [Bool.not_eq_false'] at hO
    obtain ⟨v1, v2⟩ := sh_all (own := true) hmk hx.1 hO
    have hP : shP (fun i => s i 0) (j g.toNat 0) true = fun i => decide (s i 0 = j g.toNat 0) := by funext i; simp [shP]
    rw [hP] at v1 v2
    obtain ⟨n1, n2, n3⟩ := bs_own (s := fun i => s i 0) (jv := j g.toNat 0) (k := k) (V := fun i e => V i e 0) (x := x) hgk n
    have l := low_add (p := numB (bsF (fun i => s i 0) (j g.toNat 0) k g.toNat (fun i e => V i e 0) n)) (den_bs hk) x
    have hX' : biN k (bsF (fun i => s i 0) (j g.toNat 0) k g.toNat (shV (fun i e => V i e 0) g.toNat (fun i => decide (s i 0 = j g.toNat 0)) x) n) = biN k (bsF (fun i => s i 0) (j g.toNat 0) k g.toNat (fun i e => V i e 0) n) + x * biD k (bsF (fun i => s i 0) (j g.toNat 0) k g.toNat (fun i e => V i e 0) n) := by
      rw [(bi_num k _).1, (bi_num k (bsF (fun i => s i 0) (j g.toNat 0) k g.toNat (fun i e => V i e 0) n)).1, (bi_num k (bsF (fun i => s i 0) (j g.toNat 0) k g.toNat (fun i e => V i e 0) n)).2, n3, hk, n1, n2]; exact l.1
    have hY' : biD k (bsF (fun i => s i 0) (j g.toNat 0) k g.toNat (shV (fun i e => V i e 0) g.toNat (fun i => decide (s i 0 = j g.toNat 0)) x) n) = biD k (bsF (fun i => s i 0) (j g.toNat 0) k g.toNat (fun i e => V i e 0) n) := by
      rw [(bi_num k _).2, (bi_num k (bsF (fun i => s i 0) (j g.toNat 0) k g.toNat (fun i e => V i e 0) n)).2, n3, hk, n1, n2]; exact l.2
    rw [v1, v2]
    have hE' : biE true k g (bsF (fun i => s i 0) (j g.toNat 0) k g.toNat (shV (fun i e => V i e 0) g.toNat (fun i => decide (s i 0 = j g.toNat 0)) x) n) = 0 := by rw [biE, hin, n3, hk]; rfl
    have hX2 : biX true k g (bsF (fun i => s i 0) (j g.toNat 0) k g.toNat (shV (fun i e => V i e 0) g.toNat (fun i => decide (s i 0 = j g.toNat 0)) x) n) = biN k (bsF (fun i => s i 0) (j g.toNat 0) k g.toNat (fun i e => V i e 0) n) + x * biD k (bsF (fun i => s i 0) (j g.toNat 0) k g.toNat (fun i e => V i e 0) n) := by rw [biX, hin, hX']; rfl
    have hY2 : biY true k g (bsF (fun i => s i 0) (j g.toNat 0) k g.toNat (shV (fun i e => V i e 0) g.toNat (fun i => decide (s i 0 = j g.toNat 0)) x) n) = biD k (bsF (fun i => s i 0) (j g.toNat 0) k g.toNat (fun i e => V i e 0) n) := by rw [biY, hin, hY']; rfl
    have m1 := mulB (a := x) (b := biD k (bsF (fun i => s i 0) (j g.toNat 0) k g.toNat (fun i e => V i e 0) n)) (A := 65535) (B := 11200) (by omega) (by omega) (by omega) (by omega)
    rw [hE', hX2, hY2, wrap_id (x := x * biD k (bsF (fun i => s i 0) (j g.toNat 0) k g.toNat (fun i e => V i e 0) n)) (by omega) (by omega), wrap_id (x := biN k (bsF (fun i => s i 0) (j g.toNat 0) k g.toNat (fun i e => V i e 0) n) + x * biD k (bsF (fun i => s i 0) (j g.toNat 0) k g.toNat (fun i e => V i e 0) n)) (by omega) (by omega)]
    exact ⟨fun _ => ⟨fun _ => ⟨fun _ => trivial, fun h => by simp at h⟩, fun h => by simp at h⟩, fun h => by simp at h⟩
  · refine ⟨⟨hsp, hx⟩, fun _ => trivial, fun hO => ⟨sz, ?_⟩⟩
    simp only [Bool.not_eq_false'] at hO
    obtain ⟨v1, v2⟩ := sh_all (own := true) hmk hx.1 hO
    have hP : shP (fun i => s i 0) (j g.toNat 0) true = fun i => decide (s i 0 = j g.toNat 0) := by funext i; simp [shP]
    rw [hP] at v1 v2
    obtain ⟨n1, n2, n3⟩ := bs_own (s := fun i => s i 0) (jv := j g.toNat 0) (k := k) (V := fun i e => V i e 0) (x := x) hgk n
    have l := low_add (p := numB (bsF (fun i => s i 0) (j g.toNat 0) k g.toNat (fun i e => V i e 0) n)) (den_bs hk) x
    have hX' : biN k (bsF (fun i => s i 0) (j g.toNat 0) k g.toNat (shV (fun i e => V i e 0) g.toNat (fun i => decide (s i 0 = j g.toNat 0)) x) n) = biN k (bsF (fun i => s i 0) (j g.toNat 0) k g.toNat (fun i e => V i e 0) n) + x * biD k (bsF (fun i => s i 0) (j g.toNat 0) k g.toNat (fun i e => V i e 0) n) := by
      rw [(bi_num k _).1, (bi_num k (bsF (fun i => s i 0) (j g.toNat 0) k g.toNat (fun i e => V i e 0) n)).1, (bi_num k (bsF (fun i => s i 0) (j g.toNat 0) k g.toNat (fun i e => V i e 0) n)).2, n3, hk, n1, n2]; exact l.1
    have hY' : biD k (bsF (fun i => s i 0) (j g.toNat 0) k g.toNat (shV (fun i e => V i e 0) g.toNat (fun i => decide (s i 0 = j g.toNat 0)) x) n) = biD k (bsF (fun i => s i 0) (j g.toNat 0) k g.toNat (fun i e => V i e 0) n) := by
      rw [(bi_num k _).2, (bi_num k (bsF (fun i => s i 0) (j g.toNat 0) k g.toNat (fun i e => V i e 0) n)).2, n3, hk, n1, n2]; exact l.2
    rw [v1, v2]
    have hE' : biE true k g (bsF (fun i => s i 0) (j g.toNat 0) k g.toNat (shV (fun i e => V i e 0) g.toNat (fun i => decide (s i 0 = j g.toNat 0)) x) n) = 0 := by rw [biE, hin, n3, hk]; rfl
    have hX2 : biX true k g (bsF (fun i => s i 0) (j g.toNat 0) k g.toNat (shV (fun i e => V i e 0) g.toNat (fun i => decide (s i 0 = j g.toNat 0)) x) n) = biN k (bsF (fun i => s i 0) (j g.toNat 0) k g.toNat (fun i e => V i e 0) n) + x * biD k (bsF (fun i => s i 0) (j g.toNat 0) k g.toNat (fun i e => V i e 0) n) := by rw [biX, hin, hX']; rfl
    have hY2 : biY true k g (bsF (fun i => s i 0) (j g.toNat 0) k g.toNat (shV (fun i e => V i e 0) g.toNat (fun i => decide (s i 0 = j g.toNat 0)) x) n) = biD k (bsF (fun i => s i 0) (j g.toNat 0) k g.toNat (fun i e => V i e 0) n) := by rw [biY, hin, hY']; rfl
    have m1 := mulB (a := x) (b := biD k (bsF (fun i => s i 0) (j g.toNat 0) k g.toNat (fun i e => V i e 0) n)) (A := 65535) (B := 11200) (by omega) (by omega) (by omega) (by omega)
    rw [hE', hX2, hY2, wrap_id (x := x * biD k (bsF (fun i => s i 0) (j g.toNat 0) k g.toNat (fun i e => V i e 0) n)) (by omega) (by omega), wrap_id (x := biN k (bsF (fun i => s i 0) (j g.toNat 0) k g.toNat (fun i e => V i e 0) n) + x * biD k (bsF (fun i => s i 0) (j g.toNat 0) k g.toNat (fun i e => V i e 0) n)) (by omega) (by omega)]
    exact ⟨fun _ => ⟨fun _ => ⟨fun _ => trivial, fun h => by simp at h⟩, fun h => by simp at h⟩, fun h => by simp at h⟩
end Go.Eng
end

/- panel: reviews and appeals in another order. The plain law. -/
section
namespace Go.Eng
theorem mod_turn {a m t : Nat} (h : a < m) : (a + t) % m = if a + t % m < m then a + t % m else a + t % m - m := by
  have h2 := Nat.mod_lt t (show 0 < m by omega)
  rw [Nat.add_mod, Nat.mod_eq_of_lt h]
  split
  · rename_i h3; exact Nat.mod_eq_of_lt h3
  · rename_i h3
    rw [Nat.mod_eq_sub_mod (by omega), Nat.mod_eq_of_lt (by omega)]
theorem turn_lt {a m t : Nat} (h : a < m) : (a + t) % m < m := Nat.mod_lt _ (by omega)
theorem turn_inj {a b m t : Nat} (ha : a < m) (hb : b < m) (h : (a + t) % m = (b + t) % m) : a = b := by
  have := Nat.mod_lt t (show 0 < m by omega)
  rw [mod_turn ha, mod_turn hb] at h
  split at h <;> split at h <;> omega
theorem turn_sur {b m t : Nat} (hb : b < m) : ∃ a, a < m ∧ (a + t) % m = b := by
  have h2 := Nat.mod_lt t (show 0 < m by omega)
  by_cases h : t % m ≤ b
  · exact ⟨b - t % m, by omega, by rw [mod_turn (by omega), if_pos (by omega)]; omega⟩
  · exact ⟨b + m - t % m, by omega, by rw [mod_turn (by omega), if_neg (by omega)]; omega⟩
theorem cnt_sm (v : Nat → Int) (x : Int) : ∀ n, (cnt v n x : Int) = smF (fun i => if v i = x then 1 else 0) n
  | 0 => rfl
  | n + 1 => by
    simp only [cnt, smF, ← cnt_sm v x n]
    split <;> omega
theorem cnt_turn (v : Nat → Int) (n t : Nat) (x : Int) : cnt (fun i => v ((i + t) % n)) n x = cnt v n x := by
  have h := smF_turn (fun i => if v i = x then 1 else 0) n t
  rw [← cnt_sm v x n, ← cnt_sm (fun i => v ((i + t) % n)) x n] at h
  omega
theorem cnt_congr {v u : Nat → Int} {x : Int} : ∀ {n : Nat}, (∀ i, i < n → v i = u i) → cnt v n x = cnt u n x
  | 0, _ => rfl
  | n + 1, h => by simp only [cnt, cnt_congr (n := n) fun i hi => h i (by omega), h n (by omega)]
theorem rv_cases (v : Nat → Int) (n : Nat) (now : Int) : (∃ x, n < 2 * cnt v n x ∧ rvN v n now = x ∧ rvU v n now = decide (x ≠ now)) ∨ ((∀ j, j < n → ¬ n < 2 * cnt v n (v j)) ∧ rvN v n now = now ∧ rvU v n now = false) := by
  cases h : mjF v n n with
  | some x => exact .inl ⟨x, mj_some h, rv_some (mj_some h)⟩
  | none => exact .inr ⟨mj_none h, rv_none fun j hj h2 => absurd h2 (mj_none h j hj)⟩
/-- What votes tell hangs on how many there are of each. -/
theorem rv_turn (v : Nat → Int) (n t : Nat) (now : Int) : rvN (fun i => v ((i + t) % n)) n now = rvN v n now ∧ rvU (fun i => v ((i + t) % n)) n now = rvU v n now := by
  rcases rv_cases v n now with ⟨x, h1, h2, h3⟩ | ⟨h1, h2, h3⟩
  · rw [h2, h3]
    exact rv_some (by rw [cnt_turn]; exact h1)
  · rw [h2, h3]
    refine rv_none fun j hj h4 => ?_
    rw [cnt_turn] at h4
    exact absurd h4 (h1 _ (turn_lt hj))
theorem rvK_turn {now : Int} {n t : Nat} {v : Nat → Nat → Int} (h : rvK now n v = true) : rvK now n (fun i => v ((i + t) % n)) = true := by
  simp only [rvK, Bool.and_eq_true, allU_iff] at h ⊢
  exact ⟨h.1, h.2.1, fun i hi => h.2.2 _ (turn_lt hi)⟩
/-- All judges but one leave a call as it is. -/
def mostF (now : Int) (v : Nat → Int) (q : Nat) : Nat → Int := fun i => if i = q then v i else now
theorem cnt_most {now x : Int} {v : Nat → Int} {q : Nat} (hx : x ≠ now) : ∀ n, cnt (mostF now v q) n x ≤ if q < n then 1 else 0
  | 0 => by simp [cnt]
  | n + 1 => by
    have h := cnt_most (v := v) (q := q) hx n
    simp only [cnt]
    by_cases h1 : n = q
    · rw [if_pos (show q < n + 1 by omega)]; rw [if_neg (by omega)] at h; split <;> omega
    · have h3 : mostF now v q n ≠ x := by simp only [mostF]; rw [if_neg h1]; exact Ne.symm hx
      rw [if_neg h3]
      by_cases h2 : q < n
      · rw [if_pos (by omega)]; rw [if_pos h2] at h; omega
      · rw [if_neg (by omega)]; rw [if_neg h2] at h; omega
theorem most_u {now : Int} {v : Nat → Int} {q n : Nat} (hn : 1 < n) : rvU (mostF now v q) n now = false := by
  rcases rv_cases (mostF now v q) n now with ⟨x, h1, h2, h3⟩ | ⟨h1, h2, h3⟩
  · rw [h3, decide_eq_false_iff_not, Decidable.not_not]
    apply Decidable.byContradiction
    intro hx
    have h4 := cnt_most (v := v) (q := q) hx n
    split at h4 <;> omega
  · exact h3
theorem rvK_most {now : Int} {n q : Nat} {v : Nat → Nat → Int} (h : rvK now n v = true) : rvK now n (fun i _ => mostF now (fun i => v i 0) q i) = true := by
  simp only [rvK, Bool.and_eq_true, allU_iff] at h ⊢
  refine ⟨h.1, h.2.1, fun i hi => ?_⟩
  simp only [mostF]
  split
  · exact h.2.2 i hi
  · exact h.1
/- ### appeals -/
structure ApOk (n m : Nat) (A : Nat → Nat → Int) (M : Nat → Nat) (V : Nat → Nat → Nat → Int) : Prop where
  ok : ∀ i, i < m → okA n A M V i = true
  one : ∀ i j, i < m → j < m → A i 0 = A j 0 → i = j
theorem dup_no {A : Nat → Nat → Int} {e : Int} : ∀ {i : Nat}, dup A i e = false → ∀ k, k < i → A k 0 ≠ e
  | 0, _, k, hk => by omega
  | i + 1, h, k, hk => by
    simp only [dup, Bool.or_eq_false_iff, decide_eq_false_iff_not] at h
    rcases Nat.lt_or_ge k i with h2 | h2
    · exact dup_no h.1 k h2
    · obtain rfl : k = i := by omega
      exact h.2
section
variable {n m : Nat} {c : Nat → Int} {A : Nat → Nat → Int} {M : Nat → Nat} {V : Nat → Nat → Nat → Int} {fee : Int}
theorem er_zero {i : Nat} (h : erA n A M V i = 0) : okA n A M V i = true ∧ dup A i (A i 0) = false := by
  cases h1 : okA n A M V i with
  | false => rw [er_bad h1] at h; cases h
  | true =>
    cases h2 : dup A i (A i 0) with
    | false => exact ⟨rfl, rfl⟩
    | true => rw [er_dup h1 h2] at h; cases h
theorem ApOk.of (h : ∀ j, j < m → erA n A M V j = 0) : ApOk n m A M V :=
  ⟨fun i hi => (er_zero (h i hi)).1, fun i j hi hj he => by
    rcases Nat.lt_trichotomy i j with h1 | h1 | h1
    · exact absurd he (dup_no (er_zero (h j hj)).2 i h1)
    · exact h1
    · exact absurd he.symm (dup_no (er_zero (h i hi)).2 j h1)⟩
theorem ApOk.er (h : ApOk n m A M V) : ∀ j, j < m → erA n A M V j = 0 := fun j hj =>
  er_no (h.ok j hj) (dup_false fun k hk he => by have := h.one k j (by omega) hj he; omega)
theorem ApOk.turn (h : ApOk n m A M V) (t : Nat) : ApOk n m (fun i => A ((i + t) % m)) (fun i => M ((i + t) % m)) (fun i => V ((i + t) % m)) :=
  ⟨fun i hi => h.ok _ (turn_lt hi), fun i j hi hj he => turn_inj hi hj (h.one _ _ (turn_lt hi) (turn_lt hj) he)⟩
theorem ApOk.lt (h : ApOk n m A M V) {i : Nat} (hi : i < m) : 0 ≤ A i 0 ∧ (A i 0).toNat < n := by
  have := h.ok i hi
  simp only [okA, Bool.and_eq_true] at this
  have := in3_iff.1 this.1
  omega
theorem ApOk.onek (h : ApOk n m A M V) {i j : Nat} (hi : i < m) (hj : j < m) (he : (A i 0).toNat = (A j 0).toNat) : i = j :=
  h.one i j hi hj (by have := h.lt hi; have := h.lt hj; omega)
theorem cu_none {e : Nat} : ∀ {k : Nat}, (∀ i, i < k → (A i 0).toNat ≠ e) → cuA c A M V k e = c e
  | 0, _ => rfl
  | k + 1, h => by simp only [cuA]; rw [if_neg (Ne.symm (h k (by omega))), cu_none fun i hi => h i (by omega)]
theorem cu_at (h : ApOk n m A M V) {i : Nat} (hi : i < m) : ∀ {k : Nat}, i < k → k ≤ m → cuA c A M V k (A i 0).toNat = rvN (vF V i) (M i) (c (A i 0).toNat)
  | 0, hk, _ => by omega
  | k + 1, hk, hm => by
    simp only [cuA]
    by_cases e : i = k
    · subst e
      rw [if_pos rfl, cu_none fun j hj he => by have := h.onek (show j < m by omega) hi he; omega]
    · rw [if_neg (fun he => e (h.onek hi (by omega) he)), cu_at h hi (k := k) (by omega) (by omega)]
theorem kp_sm (h : ApOk n m A M V) : ∀ {k : Nat}, k ≤ m → kpA c A M V fee k = smF (fun i => if rvU (vF V i) (M i) (c (A i 0).toNat) then 0 else fee) k
  | 0, _ => rfl
  | k + 1, hk => by
    simp only [kpA, smF, kp_sm h (k := k) (by omega)]
    rw [cu_none fun j hj he => by have := h.onek (show j < m by omega) (show k < m by omega) he; omega]
theorem cu_turn (h : ApOk n m A M V) (t e : Nat) : cuA c (fun i => A ((i + t) % m)) (fun i => M ((i + t) % m)) (fun i => V ((i + t) % m)) m e = cuA c A M V m e := by
  by_cases he : ∃ i, i < m ∧ (A i 0).toNat = e
  · obtain ⟨i, hi, rfl⟩ := he
    obtain ⟨a, ha, hb⟩ := turn_sur (t := t) hi
    rw [cu_at h hi hi (Nat.le_refl _)]
    have := cu_at (c := c) (h.turn t) ha ha (Nat.le_refl _)
    have hv : vF (fun i => V ((i + t) % m)) a = vF V i := by funext q; simp only [vF, hb]
    rw [hv] at this
    rw [hb] at this
    exact this
  · rw [cu_none fun i hi h2 => he ⟨_, turn_lt hi, h2⟩, cu_none fun i hi h2 => he ⟨i, hi, h2⟩]
theorem kp_turn (h : ApOk n m A M V) (t : Nat) : kpA c (fun i => A ((i + t) % m)) (fun i => M ((i + t) % m)) (fun i => V ((i + t) % m)) fee m = kpA c A M V fee m := by
  rw [kp_sm h (Nat.le_refl _), kp_sm (h.turn t) (Nat.le_refl _)]
  exact smF_turn (fun i => if rvU (vF V i) (M i) (c (A i 0).toNat) then 0 else fee) m t
/-- What appeals tell: an error, or that all is fine. -/
theorem ap_cases (n : Nat) (c : Nat → Int) (m : Nat) (A : Nat → Nat → Int) (M : Nat → Nat) (V : Nat → Nat → Nat → Int) (fee : Int) :
    ((apA n c m A M V fee).e ≠ 0 ∧ (apA n c m A M V fee).n = 0 ∧ (apA n c m A M V fee).kept = 0 ∧ 0 ≤ (apA n c m A M V fee).ix ∧ (apA n c m A M V fee).ix ≤ m)
    ∨ (¬ 64 < m ∧ (decide (n ≤ 64) && allU (fun i => in3 (c i) 0 100) n) = true ∧ in3 fee 0 1048576 = true ∧ ApOk n m A M V ∧ apA n c m A M V fee = ⟨n, kpA c A M V fee m, (m : Int), 0⟩) := by
  by_cases h1 : 64 < m
  · left; rw [ap_long h1]; exact ⟨by decide, rfl, rfl, Int.le_refl _, by simp only []; omega⟩
  cases h2 : (decide (n ≤ 64) && allU (fun i => in3 (c i) 0 100) n) with
  | false => left; rw [ap_arg h1 h2]; exact ⟨by decide, rfl, rfl, Int.le_refl _, by simp only []; omega⟩
  | true =>
  cases h3 : in3 fee 0 1048576 with
  | false => left; rw [ap_rng h1 h2 h3]; exact ⟨by decide, rfl, rfl, Int.le_refl _, by simp only []; omega⟩
  | true =>
  cases h4 : ffA (erA n A M V) m with
  | some i =>
    left
    have h5 : ∀ k, ffA (erA n A M V) k = some i → i < k ∧ erA n A M V i ≠ 0 := by
      intro k
      induction k with
      | zero => intro h; cases h
      | succ k ih =>
        intro h
        simp only [ffA] at h
        split at h
        · rename_i j hj; cases h; have := ih hj; exact ⟨by omega, this.2⟩
        · split at h
          · cases h
          · rename_i h6; cases h; exact ⟨by omega, h6⟩
    obtain ⟨h6, h7⟩ := h5 m h4
    have h8 : apA n c m A M V fee = ⟨0, 0, (i : Int), erA n A M V i⟩ := by unfold apA; rw [if_neg h1, if_neg (by rw [h2]; simp), if_neg (by rw [h3]; simp), h4]
    rw [h8]; exact ⟨h7, rfl, rfl, by simp only []; omega, by simp only []; omega⟩
  | none =>
    right
    have h5 : ∀ k, ffA (erA n A M V) k = none → ∀ j, j < k → erA n A M V j = 0 := by
      intro k
      induction k with
      | zero => intro _ j hj; omega
      | succ k ih =>
        intro h j hj
        simp only [ffA] at h
        split at h
        · cases h
        · rename_i hn
          split at h
          · rename_i h6
            rcases Nat.lt_or_ge j k with h7 | h7
            · exact ih hn j h7
            · obtain rfl : j = k := by omega
              exact h6
          · cases h
    have h6 := h5 m h4
    exact ⟨h1, rfl, rfl, ApOk.of h6, ap_all h1 h2 h3 h6⟩
end
end Go.Eng
end

/- panel: PanelVotes. -/
section
namespace Go.Eng
open Go Go.RowKit Go.Proofs
set_option maxRecDepth 100000
set_option maxHeartbeats 4000000
attribute [local irreducible] OwnT DefS
theorem cat_one {F : Nat → SV} {f : Nat → Nat → SV} {i : Nat} {w : SV} (hf : ∀ a, a < i → f a 0 = F a) (hw : w = F i) : ∀ a b, a < i + 1 → b < 1 → catF i f (oneF [w]) a b = F a := fun a b ha hb => by
  obtain rfl : b = 0 := by omega
  rcases Nat.lt_or_ge a i with h | h
  · simp only [catF, if_pos h]; exact hf a h
  · obtain rfl : a = i := by omega
    simp only [catF, if_neg (Nat.lt_irrefl _), Nat.sub_self, oneF, nth, hw]
theorem spl_rv {B1 B2 U : Bool} {F K1 K2 K3 K4 : Prop} (h1 : U = (B1 && !B2)) (h2 : U = false → B2 = true) (k1 : K1) (k2 : K2) (k3 : K3) :
    spl B1 (spl (!(U == !B2)) F (spl (!U) (spl (!B2) F K1) K2)) (spl (!(U == false)) F (spl (!U) (spl (!B2) F K3) K4)) := by
  subst h1
  cases B1 <;> cases B2 <;> simp only [Bool.and_true, Bool.and_false, Bool.true_and, Bool.false_and, Bool.not_true, Bool.not_false, bq1, bq2, bq3, bq4, spl_true, spl_false] at h2 ⊢ <;> first | exact k1 | exact k2 | exact k3 | exact absurd h2 (by decide)
theorem spl_c {C D : Bool} {F K1 K2 : Prop} (h : (C && D) = false) (k1 : K1) (k2 : K2) : spl C (spl D F K1) K2 := by
  cases C <;> cases D <;> simp only [spl_true, spl_false] <;> first | exact k1 | exact k2 | cases h
theorem cat_nest {A : Nat → Nat → Int} {M : Nat → Nat} {V : Nat → Nat → Nat → Int} {i : Nat} : ∀ a b, a < i + 1 → b < 2 →
    catF i (nestF 1 1 A M V) (oneF [.int .i64 (A i 0), .row (M i) 1 (fun x y => .int .i64 (V i x y))]) a b = nestF 1 1 A M V a b := fun a b ha hb => by
  rcases Nat.lt_or_ge a i with h | h
  · simp only [catF, if_pos h]
  · obtain rfl : a = i := by omega
    simp only [catF, if_neg (Nat.lt_irrefl _), Nat.sub_self]
    rcases (show b = 0 ∨ b = 1 by omega) with rfl | rfl <;> rfl
theorem dup_cg {A B : Nat → Nat → Int} (h : ∀ i, A i 0 = B i 0) (e : Int) : ∀ i, dup A i e = dup B i e
  | 0 => rfl
  | i + 1 => by simp only [dup, dup_cg h e i, h i]
theorem cu_cg {A B : Nat → Nat → Int} (h : ∀ i, A i 0 = B i 0) (c : Nat → Int) (M : Nat → Nat) (V : Nat → Nat → Nat → Int) : ∀ i e, cuA c A M V i e = cuA c B M V i e
  | 0, _ => rfl
  | i + 1, e => by simp only [cuA, cu_cg h c M V i e, h i]
theorem kp_cg {A B : Nat → Nat → Int} (h : ∀ i, A i 0 = B i 0) (c : Nat → Int) (M : Nat → Nat) (V : Nat → Nat → Nat → Int) (fee : Int) : ∀ i, kpA c A M V fee i = kpA c B M V fee i
  | 0 => rfl
  | i + 1 => by simp only [kpA, kp_cg h c M V fee i, cu_cg h c M V i, h i]
theorem ap_cg {A B : Nat → Nat → Int} (h : ∀ i, A i 0 = B i 0) (n : Nat) (c : Nat → Int) (m : Nat) (M : Nat → Nat) (V : Nat → Nat → Nat → Int) (fee : Int) : apA n c m A M V fee = apA n c m B M V fee := by
  have he : erA n A M V = erA n B M V := by
    funext i
    have h1 : okA n A M V i = okA n B M V i := by simp only [okA, h i]
    have h2 : dup A i (A i 0) = dup B i (B i 0) := by rw [h i, dup_cg h]
    simp only [erA, h1, h2]
  unfold apA; rw [he, kp_cg h]
theorem ns_0 (A : Nat → Nat → Int) (M : Nat → Nat) (V : Nat → Nat → Nat → Int) : ∀ i, nsA (nestF 1 1 A M V) i 0 = A i 0 := fun i => nsA_lit i (by decide)
theorem rv_law (v : Nat → Int) (n : Nat) (now : Int) : rvU v n now = (decide (n < 2 * cnt v n (rvN v n now)) && !decide (rvN v n now = now)) ∧ (rvU v n now = false → rvN v n now = now) := by
  rcases rv_cases v n now with ⟨x, h1, h2, h3⟩ | ⟨h1, h2, h3⟩
  · rw [h2, h3, decide_eq_true h1]
    simp
  · rw [h2, h3]; simp
theorem smF_bd {f : Nat → Int} {C : Int} (h : ∀ i, 0 ≤ f i ∧ f i ≤ C) : ∀ n, 0 ≤ smF f n ∧ smF f n ≤ n * C
  | 0 => by simp [smF]
  | n + 1 => by
    have h1 := smF_bd h n
    have h2 := h n
    simp only [smF]
    rw [Int.natCast_succ, Int.add_mul, Int.one_mul]; omega
def panelVotesBase : BaseF := fun args => match args with
  | [.int .i64 call, .row q sz_own f_own, .row n sz_c f_c, .row m sz_A f_A, .int .i64 fee, .int .u8 t] => some ((sz_own = 1 ∧ IntR q 1 f_own) ∧ (sz_c = 1 ∧ IntR n 1 f_c) ∧ (sz_A = 2 ∧ NestR m 2 1 1 f_A) ∧ ((Lit.int .u8 t).wf = true), .bool true)
  | _ => none
theorem panelVotes_eq (call : Int) (q : Nat) (sz_own : Nat) (f_own : Nat → Nat → SV) (n : Nat) (sz_c : Nat) (f_c : Nat → Nat → SV) (m : Nat) (sz_A : Nat) (f_A : Nat → Nat → SV) (fee : Int) (t : Int) : panelVotesBase [.int .i64 call, .row q sz_own f_own, .row n sz_c f_c, .row m sz_A f_A, .int .i64 fee, .int .u8 t] = some ((sz_own = 1 ∧ IntR q 1 f_own) ∧ (sz_c = 1 ∧ IntR n 1 f_c) ∧ (sz_A = 2 ∧ NestR m 2 1 1 f_A) ∧ ((Lit.int .u8 t).wf = true), .bool true) := rfl
theorem panelVotes_base : Base Try.prog 8 panelVotesBase := by
  intro args p v hq hp
  unfold panelVotesBase at hq
  split at hq
  rotate_left
  · cases hq
  rename_i call q sz_own f_own n sz_c f_c m sz_A f_A fee t
  cases hq
  obtain ⟨⟨rfl, i_own⟩, ⟨rfl, i_c⟩, ⟨rfl, i_A⟩, wf_t⟩ := hp
  refine base_of (C := cx [] [] [(13, awakeBase), (19, votesBase), (20, ReviewBase), (22, appealsBase), (24, intsBase)] [(8, 38, p8_38)] none) (cx_ok trivial ⟨awake_base, votes_base, Review_base, appeals_base, ints_base, trivial⟩) rfl (g := 8) (fn := Try.f8)
    (args' := [.int .i64 call, .row q 1 (rowF .i64 (ivf f_own)), .row n 1 (rowF .i64 (ivf f_c)), .row m 2 (nestF 1 1 (nsA f_A) (nsM 1 f_A) (nsV 1 f_A)), .int .i64 fee, .int .u8 t]) (fn_8) rfl 1000 (by
    simp only [BdL, Bd, and_self, and_true, true_and]
    exact ⟨(fun i j hi hj => by rw [i_own i j hi hj]; trivial), (fun i j hi hj => by rw [i_c i j hi hj]; trivial), (fun i j hi hj => nest_bd i_A i j hi hj)⟩) ⟨SameD.rfl' _, SameD.int i_own, SameD.int i_c, SameD.nest i_A, SameD.rfl' _, SameD.rfl' _, trivial⟩ ?_
  generalize ivf f_own = own
  generalize ivf f_c = c
  generalize nsA f_A = A
  generalize nsM 1 f_A = M
  generalize nsV 1 f_A = V
  simp only [rowF_eq]
  simp only [awake_eq, votes_eq, Review_eq, appeals_eq, ints_eq, p8_38, nestF_eq, nestR_lit, nsM_lit, nsV_lit, Try.f8, go_sem, ↓reduceIte, Nat.reduceAdd, Nat.reduceSub, Nat.reduceMul, Nat.reduceEqDiff, Nat.reduceLT, Nat.reduceLeDiff, Int.reduceToNat, Int.reduceLE, Int.reduceLT, Int.reduceEq, Int.reduceNeg, reduceCtorEq]
  refine ⟨fun _ => trivial, fun c1 => ⟨fun _ => trivial, fun c2 => ⟨fun _ => trivial, fun c3 => ?_⟩⟩⟩
  simp only [decide_eq_false_iff_not] at c1 c2
  obtain ⟨v1, v2⟩ := voB_false c3
  have ht : 0 ≤ t ∧ t ≤ 255 := by simpa [Lit.wf, IntKind.min, IntKind.max, IntKind.signed, IntKind.bits] using wf_t
  have w3 : IntKind.i64.wrap t = t := wrap_id (by omega) (by omega)
  refine ⟨by omega, ?_⟩
  simp only [ap_cg (ns_0 A M V), cu_cg (ns_0 A M V)]
  cases hK : rvK call q own with
  | false =>
    obtain ⟨r1, r2, r3⟩ := rv_no hK
    rw [r1, r2, r3]
    refine ⟨fun _ => ⟨fun h => by simp at h, fun _ => ⟨fun h => (by cases h), fun _ => ⟨fun h => by simp at h, fun _ => ?_⟩⟩⟩, fun h => by simp at h⟩
    rcases ap_cases n (fun i => c i 0) m A M V fee with ⟨p1, p2, p3, p4, p5⟩ | ⟨p1, p2, p3, hok, hap⟩
    · have q1 : (!decide ((apA n (fun i => c i 0) m A M V fee).e = 0)) = true := by simpa using p1
      have q2 : decide (0 ≤ (apA n (fun i => c i 0) m A M V fee).ix) = true := by simpa using p4
      have q3 : decide ((apA n (fun i => c i 0) m A M V fee).ix ≤ m) = true := by simpa using p5
      rw [q1, q2, q3, p2, p3]
      exact ⟨⟨by omega, by omega, fun i hi => by have := v2 i hi; omega⟩, by simp [spl]⟩
    · simp only [hap]
      refine ⟨⟨by omega, by omega, fun i hi => by have := v2 i hi; omega⟩, fun h => by simp at h, fun _ => ⟨fun h => by simp at h, fun _ => ⟨fun h => by simp at h, fun _ => ?_⟩⟩⟩
      refine loop_ofH { i : Nat // i ≤ m } (fun i => [(32, .int .i64 (i.1 : Int)), (31, .int .i64 (smF (fun i => if rvU (vF V i) (M i) (c (A i 0).toNat 0) then 0 else fee) i.1)), (30, .vec 0 i.1), (27, .int .i64 (kpA (fun i => c i 0) A M V fee m)), (26, .row n 1 (fun i _ => .int .i64 (cuA (fun i => c i 0) A M V m i))), (5, .int .u8 t), (4, .int .i64 fee), (3, .row m 2 (nestF 1 1 A M V)), (2, .row n 1 fun i e => .int .i64 (c i e))]) (fun _ i => { blks := [], vecs := [.live i.1 65 2 i.1 (nestF 1 1 (fun a => A ((a + t.toNat) % m)) (fun a => M ((a + t.toNat) % m)) (fun a => V ((a + t.toNat) % m)))] }) (fun i => m - i.1) (fun _ => ⟨rfl, rfl⟩) ⟨0, by omega⟩ (by (apply sub_of <;> simp only [go_sem, ↓reduceIte, Nat.reduceAdd, Nat.reduceSub, Nat.reduceMul, Nat.reduceEqDiff, Nat.reduceLT, Nat.reduceLeDiff, Int.reduceToNat, Int.reduceLE, Int.reduceLT, Int.reduceEq, Int.reduceNeg, reduceCtorEq] <;> (try simp [catF]) <;> (try exact fun j _ => Bd_nth (by simp [BdL, Bd]) j) <;> (try exact bd_setL (by simp [bdAs, BdL, Bd])) <;> (try exact nestF_bd _ _ _ _ _ _ _ _ _)) <;> (first | ((repeat' refine And.intro ?_ ?_) <;> first | trivial | rfl | exact fun _ _ _ _ => trivial | exact nestF_bd _ _ _ _ _ _ _ _ _ | exact fun i hi => nestF_bd _ _ _ _ _ _ _ _ _ i 0 hi Nat.zero_lt_one) | ((repeat' refine And.intro ?_ ?_) <;> first | ((repeat' refine And.intro ?_ ?_) <;> first | trivial | rfl | exact fun _ _ _ _ => trivial | exact nestF_bd _ _ _ _ _ _ _ _ _ | exact fun i hi => nestF_bd _ _ _ _ _ _ _ _ _ i 0 hi Nat.zero_lt_one) | exact nth3_bd (fun _ _ _ _ => trivial) (fun _ _ _ _ => trivial) (nestF_bd _ _ _ _ _ _ _ _ _)))) ?_
      rintro ⟨i, hi⟩
      simp only [awake_eq, votes_eq, Review_eq, appeals_eq, ints_eq, p8_38, nestF_eq, nestR_lit, nsM_lit, nsV_lit, Try.f8, go_sem, ↓reduceIte, Nat.reduceAdd, Nat.reduceSub, Nat.reduceMul, Nat.reduceEqDiff, Nat.reduceLT, Nat.reduceLeDiff, Int.reduceToNat, Int.reduceLE, Int.reduceLT, Int.reduceEq, Int.reduceNeg, reduceCtorEq]
      have hfee := in3_iff.1 p3
      simp only [Bool.and_eq_true, decide_eq_true_eq, allU_iff] at p2
      have hsb : ∀ k, 0 ≤ smF (fun i => if rvU (vF V i) (M i) (c (A i 0).toNat 0) then 0 else fee) k ∧ smF (fun i => if rvU (vF V i) (M i) (c (A i 0).toNat 0) then 0 else fee) k ≤ k * fee := smF_bd (fun i => by split <;> omega)
      refine ⟨fun e1 => ?_, fun e1 => ?_⟩
      · simp only [decide_eq_true_eq] at e1
        have im : i < m := by omega
        have w4 : IntKind.i64.wrap ((i : Int) + t) = (i : Int) + t := wrap_id (by omega) (by omega)
        have hr : ((i : Int) + t).tmod (m : Int) = (((i + t.toNat) % m : Nat) : Int) := by
          rw [show (i : Int) + t = ((i + t.toNat : Nat) : Int) by omega]; rfl
        have hlt := turn_lt (t := t.toNat) im
        obtain ⟨a0, a1⟩ := hok.lt im
        have hMi := v2 i im
        have hrv : rvK (c (A i 0).toNat 0) (M i) (V i) = true := by
          have h1 := hok.ok i im
          simp only [okA, Bool.and_eq_true] at h1
          simp only [rvK, Bool.and_eq_true]
          exact ⟨p2.2 _ a1, h1.2⟩
        obtain ⟨s1, s2, s3⟩ := rv_yes hrv
        have hcu : cuA (fun i => c i 0) A M V m (A i 0).toNat = rvN (fun e => V i e 0) (M i) (c (A i 0).toNat 0) := cu_at (c := fun i => c i 0) hok im im (Nat.le_refl _)
        rw [w3, w4, hr, s1, s2, s3, hcu]
        have hs1 := hsb i
        have hs2 : (i : Int) * fee ≤ 64 * fee := Int.mul_le_mul_of_nonneg_right (by omega) hfee.1
        refine ⟨by omega, ⟨by omega, by omega⟩, ⟨by omega, by omega⟩, ⟨by omega, by omega⟩, ⟨by kernel_rfl, by kernel_rfl⟩, ⟨by omega, by omega⟩, ⟨by omega, by omega⟩, by omega, fun h => by simp at h, fun _ => ⟨⟨by omega, by omega⟩, fun h => by simp at h, fun _ => ⟨fun e2 => ?_, fun e2 => ?_⟩⟩⟩
        · simp only [Bool.not_eq_true'] at e2
          have hs3 : smF (fun i => if rvU (vF V i) (M i) (c (A i 0).toNat 0) then 0 else fee) (i + 1) = smF (fun i => if rvU (vF V i) (M i) (c (A i 0).toNat 0) then 0 else fee) i + fee := by
            have e3 : rvU (vF V i) (M i) (c (A i 0).toNat 0) = false := e2
            simp only [smF]; rw [e3]; rfl
          refine ⟨⟨i + 1, by omega⟩, by simp only []; omega, ?_⟩
          apply sub_of <;> simp only [wrap_s im (show m ≤ 1000000 by omega), hs3, wrap_id (show -9223372036854775808 ≤ smF (fun i => if rvU (vF V i) (M i) (c (A i 0).toNat 0) then 0 else fee) i + fee by omega) (by omega), go_sem, ↓reduceIte, Nat.reduceAdd, Nat.reduceSub, Nat.reduceMul, Nat.reduceEqDiff, Nat.reduceLT, Nat.reduceLeDiff, Int.reduceToNat, Int.reduceLE, Int.reduceLT, Int.reduceEq, Int.reduceNeg, reduceCtorEq] <;> first | (first | ((repeat' refine And.intro ?_ ?_) <;> first | trivial | rfl | exact fun _ _ _ _ => trivial | exact nestF_bd _ _ _ _ _ _ _ _ _ | exact fun i hi => nestF_bd _ _ _ _ _ _ _ _ _ i 0 hi Nat.zero_lt_one) | ((repeat' refine And.intro ?_ ?_) <;> first | ((repeat' refine And.intro ?_ ?_) <;> first | trivial | rfl | exact fun _ _ _ _ => trivial | exact nestF_bd _ _ _ _ _ _ _ _ _ | exact fun i hi => nestF_bd _ _ _ _ _ _ _ _ _ i 0 hi Nat.zero_lt_one) | exact nth3_bd (fun _ _ _ _ => trivial) (fun _ _ _ _ => trivial) (nestF_bd _ _ _ _ _ _ _ _ _))) | skip
          all_goals first | exact cat_nest (A := fun a => A ((a + t.toNat) % m)) (M := fun a => M ((a + t.toNat) % m)) (V := fun a => V ((a + t.toNat) % m)) | exact ⟨fun _ _ _ _ => trivial, fun _ _ _ _ => trivial, cat_nest (A := fun a => A ((a + t.toNat) % m)) (M := fun a => M ((a + t.toNat) % m)) (V := fun a => V ((a + t.toNat) % m))⟩
        · simp only [Bool.not_eq_false'] at e2
          have hs3 : smF (fun i => if rvU (vF V i) (M i) (c (A i 0).toNat 0) then 0 else fee) (i + 1) = smF (fun i => if rvU (vF V i) (M i) (c (A i 0).toNat 0) then 0 else fee) i := by
            have e3 : rvU (vF V i) (M i) (c (A i 0).toNat 0) = true := e2
            simp only [smF]; rw [e3]; simp
          refine ⟨⟨i + 1, by omega⟩, by simp only []; omega, ?_⟩
          apply sub_of <;> simp only [wrap_s im (show m ≤ 1000000 by omega), hs3, go_sem, ↓reduceIte, Nat.reduceAdd, Nat.reduceSub, Nat.reduceMul, Nat.reduceEqDiff, Nat.reduceLT, Nat.reduceLeDiff, Int.reduceToNat, Int.reduceLE, Int.reduceLT, Int.reduceEq, Int.reduceNeg, reduceCtorEq] <;> first | (first | ((repeat' refine And.intro ?_ ?_) <;> first | trivial | rfl | exact fun _ _ _ _ => trivial | exact nestF_bd _ _ _ _ _ _ _ _ _ | exact fun i hi => nestF_bd _ _ _ _ _ _ _ _ _ i 0 hi Nat.zero_lt_one) | ((repeat' refine And.intro ?_ ?_) <;> first | ((repeat' refine And.intro ?_ ?_) <;> first | trivial | rfl | exact fun _ _ _ _ => trivial | exact nestF_bd _ _ _ _ _ _ _ _ _ | exact fun i hi => nestF_bd _ _ _ _ _ _ _ _ _ i 0 hi Nat.zero_lt_one) | exact nth3_bd (fun _ _ _ _ => trivial) (fun _ _ _ _ => trivial) (nestF_bd _ _ _ _ _ _ _ _ _))) | skip
          all_goals first | exact cat_nest (A := fun a => A ((a + t.toNat) % m)) (M := fun a => M ((a + t.toNat) % m)) (V := fun a => V ((a + t.toNat) % m)) | exact ⟨fun _ _ _ _ => trivial, fun _ _ _ _ => trivial, cat_nest (A := fun a => A ((a + t.toNat) % m)) (M := fun a => M ((a + t.toNat) % m)) (V := fun a => V ((a + t.toNat) % m))⟩
      · simp only [decide_eq_false_iff_not] at e1
        obtain rfl : m = i := by omega
        have hf : (fun i j => if j = 1 then SV.row (M ((i + t.toNat) % m)) 1 (fun a b => .int .i64 (V ((i + t.toNat) % m) a b)) else .int .i64 (A ((i + t.toNat) % m) j)) = nestF 1 1 (fun a => A ((a + t.toNat) % m)) (fun a => M ((a + t.toNat) % m)) (fun a => V ((a + t.toNat) % m)) := rfl
        rw [hf]
        simp only [nestR_lit, nsM_lit, nsV_lit, ap_cg (ns_0 (fun a => A ((a + t.toNat) % m)) (fun a => M ((a + t.toNat) % m)) (fun a => V ((a + t.toNat) % m))), cu_cg (ns_0 (fun a => A ((a + t.toNat) % m)) (fun a => M ((a + t.toNat) % m)) (fun a => V ((a + t.toNat) % m)))]
        have hap2 := ap_all (fee := fee) p1 (by simp only [Bool.and_eq_true, decide_eq_true_eq, allU_iff]; exact p2) p3 (hok.turn t.toNat).er
        rw [hap2, kp_turn hok, kp_sm hok (Nat.le_refl _)]
        simp only [cu_turn hok]
        have hall : allU (fun i => decide True) n = true := allU_true (fun _ _ => rfl)
        refine ⟨⟨trivial, by omega, by omega, fun i hi => by have := v2 _ (turn_lt (t := t.toNat) hi); omega⟩, ?_⟩
        simp [spl, hall]
        exact ⟨by omega, allU_true fun _ _ => rfl⟩
  | true =>
    obtain ⟨r1, r2, r3⟩ := rv_yes hK
    rw [r1, r2, r3]
    refine ⟨fun h => by simp at h, fun _ => ?_⟩
    refine loop_ofH { i : Nat // i ≤ q } (fun i => [(19, .int .i64 (i.1 : Int)), (18, .vec 1 i.1), (17, .vec 0 i.1), (16, .int .i64 (cnt (fun i => own i 0) i.1 (rvN (fun i => own i 0) q call) : Int)), (14, .bool (rvU (fun i => own i 0) q call)), (13, .int .i64 (rvN (fun i => own i 0) q call)), (5, .int .u8 t), (4, .int .i64 fee), (3, .row m 2 (nestF 1 1 A M V)), (2, .row n 1 fun i e => .int .i64 (c i e)), (1, .row q 1 fun i e => .int .i64 (own i e)), (0, .int .i64 call)]) (fun _ i => { blks := [], vecs := [.live i.1 3 1 i.1 (fun a _ => .int .i64 (own ((a + t.toNat) % q) 0)), .live i.1 3 1 i.1 (fun a _ => .int .i64 (mostF call (fun i => own i 0) (t.toNat % q) a))] }) (fun i => q - i.1) (fun _ => ⟨rfl, rfl⟩) ⟨0, by omega⟩ (by (apply sub_of <;> simp only [go_sem, ↓reduceIte, Nat.reduceAdd, Nat.reduceSub, Nat.reduceMul, Nat.reduceEqDiff, Nat.reduceLT, Nat.reduceLeDiff, Int.reduceToNat, Int.reduceLE, Int.reduceLT, Int.reduceEq, Int.reduceNeg, reduceCtorEq] <;> (try simp [catF]) <;> (try exact fun j _ => Bd_nth (by simp [BdL, Bd]) j) <;> (try exact bd_setL (by simp [bdAs, BdL, Bd])) <;> (try exact nestF_bd _ _ _ _ _ _ _ _ _)) <;> (first | ((repeat' refine And.intro ?_ ?_) <;> first | trivial | rfl | exact fun _ _ _ _ => trivial | exact nestF_bd _ _ _ _ _ _ _ _ _ | exact fun i hi => nestF_bd _ _ _ _ _ _ _ _ _ i 0 hi Nat.zero_lt_one) | ((repeat' refine And.intro ?_ ?_) <;> first | ((repeat' refine And.intro ?_ ?_) <;> first | trivial | rfl | exact fun _ _ _ _ => trivial | exact nestF_bd _ _ _ _ _ _ _ _ _ | exact fun i hi => nestF_bd _ _ _ _ _ _ _ _ _ i 0 hi Nat.zero_lt_one) | exact nth3_bd (fun _ _ _ _ => trivial) (fun _ _ _ _ => trivial) (nestF_bd _ _ _ _ _ _ _ _ _)))) ?_
    rintro ⟨i, hi⟩
    simp only [awake_eq, votes_eq, Review_eq, appeals_eq, ints_eq, p8_38, nestF_eq, nestR_lit, nsM_lit, nsV_lit, Try.f8, go_sem, ↓reduceIte, Nat.reduceAdd, Nat.reduceSub, Nat.reduceMul, Nat.reduceEqDiff, Nat.reduceLT, Nat.reduceLeDiff, Int.reduceToNat, Int.reduceLE, Int.reduceLT, Int.reduceEq, Int.reduceNeg, reduceCtorEq]
    simp only [ap_cg (ns_0 A M V), cu_cg (ns_0 A M V)]
    have hd : ∀ i, i < q → ((i : Int) + t).tmod (q : Int) = (((i + t.toNat) % q : Nat) : Int) := fun i _ => by
      rw [show (i : Int) + t = ((i + t.toNat : Nat) : Int) by omega]; rfl
    have hd2 : t.tmod (q : Int) = ((t.toNat % q : Nat) : Int) := by
      rw [show t.tmod (q : Int) = ((t.toNat : Nat) : Int).tmod (q : Int) by rw [show ((t.toNat : Nat) : Int) = t by omega]]; rfl
    refine ⟨fun e1 => ?_, fun e1 => ?_⟩
    · simp only [decide_eq_true_eq] at e1
      have iq : i < q := by omega
      have w4 : IntKind.i64.wrap ((i : Int) + t) = (i : Int) + t := wrap_id (by omega) (by omega)
      have hlt := turn_lt (t := t.toNat) iq
      have hcn := cnt_le (fun i => own i 0) i (rvN (fun i => own i 0) q call)
      have wc : IntKind.i64.wrap ((cnt (fun i => own i 0) i (rvN (fun i => own i 0) q call) : Int) + 1) = ((cnt (fun i => own i 0) i (rvN (fun i => own i 0) q call) + 1 : Nat) : Int) := by rw [wrap_id (by omega) (by omega)]; omega
      rw [w3, w4, hd i iq, hd2]
      have c3 : ∀ a b, a < i + 1 → b < 1 → catF i (fun a _ => SV.int .i64 (own ((a + t.toNat) % q) 0)) (oneF [.int .i64 (own ((i + t.toNat) % q) 0)]) a b = .int .i64 (own ((a + t.toNat) % q) 0) := cat_one (F := fun a => .int .i64 (own ((a + t.toNat) % q) 0)) (fun _ _ => rfl) rfl
      refine ⟨⟨by omega, by omega⟩, fun e2 => ?_, fun e2 => ?_⟩
      · simp only [decide_eq_true_eq] at e2
        have hc2 : cnt (fun i => own i 0) (i + 1) (rvN (fun i => own i 0) q call) = cnt (fun i => own i 0) i (rvN (fun i => own i 0) q call) + 1 := by simp only [cnt]; rw [if_pos e2]
        refine ⟨by omega, ⟨by omega, by omega⟩, ⟨by omega, by omega⟩, by omega, fun e3 => ⟨⟨by omega, by omega⟩, ⟨by omega, by omega⟩, ⟨i + 1, by omega⟩, by simp only []; omega, ?_⟩, fun e3 => ⟨⟨by omega, by omega⟩, ⟨i + 1, by omega⟩, by simp only []; omega, ?_⟩⟩
        · simp only [decide_eq_true_eq] at e3
          apply sub_of <;> simp only [wrap_s iq (show q ≤ 1000000 by omega), wc, hc2, go_sem, ↓reduceIte, Nat.reduceAdd, Nat.reduceSub, Nat.reduceMul, Nat.reduceEqDiff, Nat.reduceLT, Nat.reduceLeDiff, Int.reduceToNat, Int.reduceLE, Int.reduceLT, Int.reduceEq, Int.reduceNeg, reduceCtorEq] <;> first | (first | ((repeat' refine And.intro ?_ ?_) <;> first | trivial | rfl | exact fun _ _ _ _ => trivial | exact nestF_bd _ _ _ _ _ _ _ _ _ | exact fun i hi => nestF_bd _ _ _ _ _ _ _ _ _ i 0 hi Nat.zero_lt_one) | ((repeat' refine And.intro ?_ ?_) <;> first | ((repeat' refine And.intro ?_ ?_) <;> first | trivial | rfl | exact fun _ _ _ _ => trivial | exact nestF_bd _ _ _ _ _ _ _ _ _ | exact fun i hi => nestF_bd _ _ _ _ _ _ _ _ _ i 0 hi Nat.zero_lt_one) | exact nth3_bd (fun _ _ _ _ => trivial) (fun _ _ _ _ => trivial) (nestF_bd _ _ _ _ _ _ _ _ _))) | skip
          exact ⟨c3, cat_one (F := fun a => .int .i64 (mostF call (fun i => own i 0) (t.toNat % q) a)) (fun _ _ => rfl) (by rw [mostF, if_pos (by omega)])⟩
        · simp only [decide_eq_false_iff_not] at e3
          apply sub_of <;> simp only [wrap_s iq (show q ≤ 1000000 by omega), wc, hc2, go_sem, ↓reduceIte, Nat.reduceAdd, Nat.reduceSub, Nat.reduceMul, Nat.reduceEqDiff, Nat.reduceLT, Nat.reduceLeDiff, Int.reduceToNat, Int.reduceLE, Int.reduceLT, Int.reduceEq, Int.reduceNeg, reduceCtorEq] <;> first | (first | ((repeat' refine And.intro ?_ ?_) <;> first | trivial | rfl | exact fun _ _ _ _ => trivial | exact nestF_bd _ _ _ _ _ _ _ _ _ | exact fun i hi => nestF_bd _ _ _ _ _ _ _ _ _ i 0 hi Nat.zero_lt_one) | ((repeat' refine And.intro ?_ ?_) <;> first | ((repeat' refine And.intro ?_ ?_) <;> first | trivial | rfl | exact fun _ _ _ _ => trivial | exact nestF_bd _ _ _ _ _ _ _ _ _ | exact fun i hi => nestF_bd _ _ _ _ _ _ _ _ _ i 0 hi Nat.zero_lt_one) | exact nth3_bd (fun _ _ _ _ => trivial) (fun _ _ _ _ => trivial) (nestF_bd _ _ _ _ _ _ _ _ _))) | skip
          exact ⟨c3, cat_one (F := fun a => .int .i64 (mostF call (fun i => own i 0) (t.toNat % q) a)) (fun _ _ => rfl) (by rw [mostF, if_neg (by omega)])⟩
      · simp only [decide_eq_false_iff_not] at e2
        have hc2 : cnt (fun i => own i 0) (i + 1) (rvN (fun i => own i 0) q call) = cnt (fun i => own i 0) i (rvN (fun i => own i 0) q call) := by simp only [cnt]; rw [if_neg e2]; rfl
        refine ⟨by omega, ⟨by omega, by omega⟩, ⟨by omega, by omega⟩, by omega, fun e3 => ⟨⟨by omega, by omega⟩, ⟨by omega, by omega⟩, ⟨i + 1, by omega⟩, by simp only []; omega, ?_⟩, fun e3 => ⟨⟨by omega, by omega⟩, ⟨i + 1, by omega⟩, by simp only []; omega, ?_⟩⟩
        · simp only [decide_eq_true_eq] at e3
          apply sub_of <;> simp only [wrap_s iq (show q ≤ 1000000 by omega), hc2, go_sem, ↓reduceIte, Nat.reduceAdd, Nat.reduceSub, Nat.reduceMul, Nat.reduceEqDiff, Nat.reduceLT, Nat.reduceLeDiff, Int.reduceToNat, Int.reduceLE, Int.reduceLT, Int.reduceEq, Int.reduceNeg, reduceCtorEq] <;> first | (first | ((repeat' refine And.intro ?_ ?_) <;> first | trivial | rfl | exact fun _ _ _ _ => trivial | exact nestF_bd _ _ _ _ _ _ _ _ _ | exact fun i hi => nestF_bd _ _ _ _ _ _ _ _ _ i 0 hi Nat.zero_lt_one) | ((repeat' refine And.intro ?_ ?_) <;> first | ((repeat' refine And.intro ?_ ?_) <;> first | trivial | rfl | exact fun _ _ _ _ => trivial | exact nestF_bd _ _ _ _ _ _ _ _ _ | exact fun i hi => nestF_bd _ _ _ _ _ _ _ _ _ i 0 hi Nat.zero_lt_one) | exact nth3_bd (fun _ _ _ _ => trivial) (fun _ _ _ _ => trivial) (nestF_bd _ _ _ _ _ _ _ _ _))) | skip
          exact ⟨c3, cat_one (F := fun a => .int .i64 (mostF call (fun i => own i 0) (t.toNat % q) a)) (fun _ _ => rfl) (by rw [mostF, if_pos (by omega)])⟩
        · simp only [decide_eq_false_iff_not] at e3
          apply sub_of <;> simp only [wrap_s iq (show q ≤ 1000000 by omega), hc2, go_sem, ↓reduceIte, Nat.reduceAdd, Nat.reduceSub, Nat.reduceMul, Nat.reduceEqDiff, Nat.reduceLT, Nat.reduceLeDiff, Int.reduceToNat, Int.reduceLE, Int.reduceLT, Int.reduceEq, Int.reduceNeg, reduceCtorEq] <;> first | (first | ((repeat' refine And.intro ?_ ?_) <;> first | trivial | rfl | exact fun _ _ _ _ => trivial | exact nestF_bd _ _ _ _ _ _ _ _ _ | exact fun i hi => nestF_bd _ _ _ _ _ _ _ _ _ i 0 hi Nat.zero_lt_one) | ((repeat' refine And.intro ?_ ?_) <;> first | ((repeat' refine And.intro ?_ ?_) <;> first | trivial | rfl | exact fun _ _ _ _ => trivial | exact nestF_bd _ _ _ _ _ _ _ _ _ | exact fun i hi => nestF_bd _ _ _ _ _ _ _ _ _ i 0 hi Nat.zero_lt_one) | exact nth3_bd (fun _ _ _ _ => trivial) (fun _ _ _ _ => trivial) (nestF_bd _ _ _ _ _ _ _ _ _))) | skip
          exact ⟨c3, cat_one (F := fun a => .int .i64 (mostF call (fun i => own i 0) (t.toNat % q) a)) (fun _ _ => rfl) (by rw [mostF, if_neg (by omega)])⟩
    simp only [decide_eq_false_iff_not] at e1
    obtain rfl : q = i := by omega
    clear e1 hi
    have hcn := cnt_le (fun i => own i 0) q (rvN (fun i => own i 0) q call)
    have k1 := rv_yes (rvK_turn (t := t.toNat) hK)
    have k2 := rv_turn (fun i => own i 0) q t.toNat call
    have k3 : rvK call q (fun i _ => mostF call (fun i => own i 0) (t.toNat % q) i) = true := rvK_most hK
    have k4 := rv_yes k3
    have kA : rvA call q (fun i (_ : Nat) => own ((i + t.toNat) % q) 0) = rvN (fun i => own i 0) q call := k1.1.trans k2.1
    have kC : rvC call q (fun i (_ : Nat) => own ((i + t.toNat) % q) 0) = rvU (fun i => own i 0) q call := k1.2.1.trans k2.2
    have kE : rvE call q (fun i (_ : Nat) => own ((i + t.toNat) % q) 0) = 0 := k1.2.2
    have wq : IntKind.i64.wrap (2 * (cnt (fun i => own i 0) q (rvN (fun i => own i 0) q call) : Int)) = 2 * (cnt (fun i => own i 0) q (rvN (fun i => own i 0) q call) : Int) := wrap_id (by omega) (by omega)
    obtain ⟨l1, l2⟩ := rv_law (fun i => own i 0) q call
    rw [show decide (q < 2 * cnt (fun i => own i 0) q (rvN (fun i => own i 0) q call)) = decide ((q : Int) < 2 * (cnt (fun i => own i 0) q (rvN (fun i => own i 0) q call) : Int)) from by rw [decide_eq_decide]; omega] at l1
    simp only [kA, kC, kE, k4.2.2, wq]
    have hM : (rvC call q (fun i (_ : Nat) => mostF call (fun i => own i 0) (t.toNat % q) i) && decide (1 < (q : Int))) = false := by
      by_cases hq : 1 < q
      · rw [k4.2.1, most_u hq]; rfl
      · rw [decide_eq_false (show ¬ 1 < (q : Int) by omega), Bool.and_false]
    refine spl_rv l1 (fun h => decide_eq_true (l2 h)) ?_ ?_ ?_
    all_goals refine ⟨by omega, fun h => by simp at h, fun _ => ⟨fun h => by simp at h, fun _ => ⟨fun h => by simp at h, fun _ => ⟨by omega, fun h => by simp at h, fun _ => spl_c hM ?_ ?_⟩⟩⟩⟩
    all_goals (
      rcases ap_cases n (fun i => c i 0) m A M V fee with ⟨p1, p2, p3, p4, p5⟩ | ⟨p1, p2, p3, hok, hap⟩
      · have q1 : (!decide ((apA n (fun i => c i 0) m A M V fee).e = 0)) = true := by simpa using p1
        have q2 : decide (0 ≤ (apA n (fun i => c i 0) m A M V fee).ix) = true := by simpa using p4
        have q3 : decide ((apA n (fun i => c i 0) m A M V fee).ix ≤ m) = true := by simpa using p5
        rw [q1, q2, q3, p2, p3]
        exact ⟨⟨by omega, by omega, fun i hi => by have := v2 i hi; omega⟩, by simp [spl]⟩
      · simp only [hap]
        refine ⟨⟨by omega, by omega, fun i hi => by have := v2 i hi; omega⟩, fun h => by simp at h, fun _ => ⟨fun h => by simp at h, fun _ => ⟨fun h => by simp at h, fun _ => ?_⟩⟩⟩
        refine loop_ofH { i : Nat // i ≤ m } (fun i => [(32, .int .i64 (i.1 : Int)), (31, .int .i64 (smF (fun i => if rvU (vF V i) (M i) (c (A i 0).toNat 0) then 0 else fee) i.1)), (30, .vec 2 i.1), (27, .int .i64 (kpA (fun i => c i 0) A M V fee m)), (26, .row n 1 (fun i _ => .int .i64 (cuA (fun i => c i 0) A M V m i))), (5, .int .u8 t), (4, .int .i64 fee), (3, .row m 2 (nestF 1 1 A M V)), (2, .row n 1 fun i e => .int .i64 (c i e))]) (fun _ i => { blks := [], vecs := [.live q 3 1 q (fun a _ => .int .i64 (own ((a + t.toNat) % q) 0)), .live q 3 1 q (fun a _ => .int .i64 (mostF call (fun i => own i 0) (t.toNat % q) a)), .live i.1 65 2 i.1 (nestF 1 1 (fun a => A ((a + t.toNat) % m)) (fun a => M ((a + t.toNat) % m)) (fun a => V ((a + t.toNat) % m)))] }) (fun i => m - i.1) (fun _ => ⟨rfl, rfl⟩) ⟨0, by omega⟩ (by (apply sub_of <;> simp only [go_sem, ↓reduceIte, Nat.reduceAdd, Nat.reduceSub, Nat.reduceMul, Nat.reduceEqDiff, Nat.reduceLT, Nat.reduceLeDiff, Int.reduceToNat, Int.reduceLE, Int.reduceLT, Int.reduceEq, Int.reduceNeg, reduceCtorEq] <;> (try simp [catF]) <;> (try exact fun j _ => Bd_nth (by simp [BdL, Bd]) j) <;> (try exact bd_setL (by simp [bdAs, BdL, Bd])) <;> (try exact nestF_bd _ _ _ _ _ _ _ _ _)) <;> (first | ((repeat' refine And.intro ?_ ?_) <;> first | trivial | rfl | exact fun _ _ _ _ => trivial | exact nestF_bd _ _ _ _ _ _ _ _ _ | exact fun i hi => nestF_bd _ _ _ _ _ _ _ _ _ i 0 hi Nat.zero_lt_one) | ((repeat' refine And.intro ?_ ?_) <;> first | ((repeat' refine And.intro ?_ ?_) <;> first | trivial | rfl | exact fun _ _ _ _ => trivial | exact nestF_bd _ _ _ _ _ _ _ _ _ | exact fun i hi => nestF_bd _ _ _ _ _ _ _ _ _ i 0 hi Nat.zero_lt_one) | exact nth3_bd (fun _ _ _ _ => trivial) (fun _ _ _ _ => trivial) (nestF_bd _ _ _ _ _ _ _ _ _)))) ?_
        rintro ⟨i, hi⟩
        simp only [awake_eq, votes_eq, Review_eq, appeals_eq, ints_eq, p8_38, nestF_eq, nestR_lit, nsM_lit, nsV_lit, Try.f8, go_sem, ↓reduceIte, Nat.reduceAdd, Nat.reduceSub, Nat.reduceMul, Nat.reduceEqDiff, Nat.reduceLT, Nat.reduceLeDiff, Int.reduceToNat, Int.reduceLE, Int.reduceLT, Int.reduceEq, Int.reduceNeg, reduceCtorEq]
        have hfee := in3_iff.1 p3
        simp only [Bool.and_eq_true, decide_eq_true_eq, allU_iff] at p2
        have hsb : ∀ k, 0 ≤ smF (fun i => if rvU (vF V i) (M i) (c (A i 0).toNat 0) then 0 else fee) k ∧ smF (fun i => if rvU (vF V i) (M i) (c (A i 0).toNat 0) then 0 else fee) k ≤ k * fee := smF_bd (fun i => by split <;> omega)
        refine ⟨fun e1 => ?_, fun e1 => ?_⟩
        · simp only [decide_eq_true_eq] at e1
          have im : i < m := by omega
          have w4 : IntKind.i64.wrap ((i : Int) + t) = (i : Int) + t := wrap_id (by omega) (by omega)
          have hr : ((i : Int) + t).tmod (m : Int) = (((i + t.toNat) % m : Nat) : Int) := by
            rw [show (i : Int) + t = ((i + t.toNat : Nat) : Int) by omega]; rfl
          have hlt := turn_lt (t := t.toNat) im
          obtain ⟨a0, a1⟩ := hok.lt im
          have hMi := v2 i im
          have hrv : rvK (c (A i 0).toNat 0) (M i) (V i) = true := by
            have h1 := hok.ok i im
            simp only [okA, Bool.and_eq_true] at h1
            simp only [rvK, Bool.and_eq_true]
            exact ⟨p2.2 _ a1, h1.2⟩
          obtain ⟨s1, s2, s3⟩ := rv_yes hrv
          have hcu : cuA (fun i => c i 0) A M V m (A i 0).toNat = rvN (fun e => V i e 0) (M i) (c (A i 0).toNat 0) := cu_at (c := fun i => c i 0) hok im im (Nat.le_refl _)
          rw [w3, w4, hr, s1, s2, s3, hcu]
          have hs1 := hsb i
          have hs2 : (i : Int) * fee ≤ 64 * fee := Int.mul_le_mul_of_nonneg_right (by omega) hfee.1
          refine ⟨by omega, ⟨by omega, by omega⟩, ⟨by omega, by omega⟩, ⟨by omega, by omega⟩, ⟨by kernel_rfl, by kernel_rfl⟩, ⟨by omega, by omega⟩, ⟨by omega, by omega⟩, by omega, fun h => by simp at h, fun _ => ⟨⟨by omega, by omega⟩, fun h => by simp at h, fun _ => ⟨fun e2 => ?_, fun e2 => ?_⟩⟩⟩
          · simp only [Bool.not_eq_true'] at e2
            have hs3 : smF (fun i => if rvU (vF V i) (M i) (c (A i 0).toNat 0) then 0 else fee) (i + 1) = smF (fun i => if rvU (vF V i) (M i) (c (A i 0).toNat 0) then 0 else fee) i + fee := by
              have e3 : rvU (vF V i) (M i) (c (A i 0).toNat 0) = false := e2
              simp only [smF]; rw [e3]; rfl
            refine ⟨⟨i + 1, by omega⟩, by simp only []; omega, ?_⟩
            apply sub_of <;> simp only [wrap_s im (show m ≤ 1000000 by omega), hs3, wrap_id (show -9223372036854775808 ≤ smF (fun i => if rvU (vF V i) (M i) (c (A i 0).toNat 0) then 0 else fee) i + fee by omega) (by omega), go_sem, ↓reduceIte, Nat.reduceAdd, Nat.reduceSub, Nat.reduceMul, Nat.reduceEqDiff, Nat.reduceLT, Nat.reduceLeDiff, Int.reduceToNat, Int.reduceLE, Int.reduceLT, Int.reduceEq, Int.reduceNeg, reduceCtorEq] <;> first | (first | ((repeat' refine And.intro ?_ ?_) <;> first | trivial | rfl | exact fun _ _ _ _ => trivial | exact nestF_bd _ _ _ _ _ _ _ _ _ | exact fun i hi => nestF_bd _ _ _ _ _ _ _ _ _ i 0 hi Nat.zero_lt_one) | ((repeat' refine And.intro ?_ ?_) <;> first | ((repeat' refine And.intro ?_ ?_) <;> first | trivial | rfl | exact fun _ _ _ _ => trivial | exact nestF_bd _ _ _ _ _ _ _ _ _ | exact fun i hi => nestF_bd _ _ _ _ _ _ _ _ _ i 0 hi Nat.zero_lt_one) | exact nth3_bd (fun _ _ _ _ => trivial) (fun _ _ _ _ => trivial) (nestF_bd _ _ _ _ _ _ _ _ _))) | skip
            all_goals first | exact cat_nest (A := fun a => A ((a + t.toNat) % m)) (M := fun a => M ((a + t.toNat) % m)) (V := fun a => V ((a + t.toNat) % m)) | exact ⟨fun _ _ _ _ => trivial, fun _ _ _ _ => trivial, cat_nest (A := fun a => A ((a + t.toNat) % m)) (M := fun a => M ((a + t.toNat) % m)) (V := fun a => V ((a + t.toNat) % m))⟩
          · simp only [Bool.not_eq_false'] at e2
            have hs3 : smF (fun i => if rvU (vF V i) (M i) (c (A i 0).toNat 0) then 0 else fee) (i + 1) = smF (fun i => if rvU (vF V i) (M i) (c (A i 0).toNat 0) then 0 else fee) i := by
              have e3 : rvU (vF V i) (M i) (c (A i 0).toNat 0) = true := e2
              simp only [smF]; rw [e3]; simp
            refine ⟨⟨i + 1, by omega⟩, by simp only []; omega, ?_⟩
            apply sub_of <;> simp only [wrap_s im (show m ≤ 1000000 by omega), hs3, go_sem, ↓reduceIte, Nat.reduceAdd, Nat.reduceSub, Nat.reduceMul, Nat.reduceEqDiff, Nat.reduceLT, Nat.reduceLeDiff, Int.reduceToNat, Int.reduceLE, Int.reduceLT, Int.reduceEq, Int.reduceNeg, reduceCtorEq] <;> first | (first | ((repeat' refine And.intro ?_ ?_) <;> first | trivial | rfl | exact fun _ _ _ _ => trivial | exact nestF_bd _ _ _ _ _ _ _ _ _ | exact fun i hi => nestF_bd _ _ _ _ _ _ _ _ _ i 0 hi Nat.zero_lt_one) | ((repeat' refine And.intro ?_ ?_) <;> first | ((repeat' refine And.intro ?_ ?_) <;> first | trivial | rfl | exact fun _ _ _ _ => trivial | exact nestF_bd _ _ _ _ _ _ _ _ _ | exact fun i hi => nestF_bd _ _ _ _ _ _ _ _ _ i 0 hi Nat.zero_lt_one) | exact nth3_bd (fun _ _ _ _ => trivial) (fun _ _ _ _ => trivial) (nestF_bd _ _ _ _ _ _ _ _ _))) | skip
            all_goals first | exact cat_nest (A := fun a => A ((a + t.toNat) % m)) (M := fun a => M ((a + t.toNat) % m)) (V := fun a => V ((a + t.toNat) % m)) | exact ⟨fun _ _ _ _ => trivial, fun _ _ _ _ => trivial, cat_nest (A := fun a => A ((a + t.toNat) % m)) (M := fun a => M ((a + t.toNat) % m)) (V := fun a => V ((a + t.toNat) % m))⟩
        · simp only [decide_eq_false_iff_not] at e1
          obtain rfl : m = i := by omega
          have hf : (fun i j => if j = 1 then SV.row (M ((i + t.toNat) % m)) 1 (fun a b => .int .i64 (V ((i + t.toNat) % m) a b)) else .int .i64 (A ((i + t.toNat) % m) j)) = nestF 1 1 (fun a => A ((a + t.toNat) % m)) (fun a => M ((a + t.toNat) % m)) (fun a => V ((a + t.toNat) % m)) := rfl
          rw [hf]
          simp only [nestR_lit, nsM_lit, nsV_lit, ap_cg (ns_0 (fun a => A ((a + t.toNat) % m)) (fun a => M ((a + t.toNat) % m)) (fun a => V ((a + t.toNat) % m))), cu_cg (ns_0 (fun a => A ((a + t.toNat) % m)) (fun a => M ((a + t.toNat) % m)) (fun a => V ((a + t.toNat) % m)))]
          have hap2 := ap_all (fee := fee) p1 (by simp only [Bool.and_eq_true, decide_eq_true_eq, allU_iff]; exact p2) p3 (hok.turn t.toNat).er
          rw [hap2, kp_turn hok, kp_sm hok (Nat.le_refl _)]
          simp only [cu_turn hok]
          have hall : allU (fun i => decide True) n = true := allU_true (fun _ _ => rfl)
          refine ⟨⟨trivial, by omega, by omega, fun i hi => by have := v2 _ (turn_lt (t := t.toNat) hi); omega⟩, ?_⟩
          simp [spl, hall]
          exact ⟨by omega, allU_true fun _ _ => rfl⟩)
end Go.Eng
end

/-
  PanelVotes: for every input the law returns true, and each argument reads afterwards as it read before. No condition.
-/
section
namespace Go.Proofs.Ytnccjojfpkjihaa.panelVotes
open Go.ChangeShapes Go.WideShapes Go.ChangeAt Go.RowKit Go.Eng
set_option linter.unusedVariables false
theorem own : ownKnob Try.prog.godebug = none := by kernel_rfl
theorem laid : laidOutB Try.prog = true := by kernel_rfl
set_option maxRecDepth 100000 in
theorem lifted (os : Os) (started : os.Started) (H : Type) (enc : TypeId × Value → H) :
    ReturnsInHanded {} Try.checked os 8 .any (Rows.panelVotesSpec.pre6 enc Try.prog Try.f8 Rows.panelVotesRow.domain false) (Rows.panelVotesSpec.post enc Try.prog Try.f8 false true false false) := by
  refine returnsInHanded_of_change (C := Try.checked) own started (by kernel_rfl) Try.func8
    (ChangeSpec.witness6 (enc := enc) (C := Try.checked) false ⟨#[], #[.int .i64 0, .slice none 0 0, .slice none 0 0, .slice none 0 0, .int .i64 0, .int .u8 0], []⟩ 8 (by kernel_rfl) (by kernel_rfl) (by kernel_rfl) (by kernel_rfl)) ?_
  intro W base args ds gs before hval0 hW hcnd _
  have hval : ∀ (j : Nat) t v, Try.f8.params[j]? = some t → args[j]? = some v → Value.okWide Try.prog W .any base t v := hval0
  have hW' := hW
  obtain ⟨p, q, hA0, hV, rfl, hfz, hnd⟩ := hW
  have hA : DataW.TrodAll enc Try.prog W 0 (fun _ => true) true Try.f8.params.toList args.toList ds p := hA0
  rw [Try.params8] at hA hval
  obtain ⟨v0, vs0, d0, ds0, p0, q0, hargs, rfl, rfl, h0, r0⟩ := trodAll_cons hA
  obtain ⟨v1, vs1, d1, ds1, p1, q1, rfl, rfl, rfl, h1, r1⟩ := trodAll_cons r0
  obtain ⟨v2, vs2, d2, ds2, p2, q2, rfl, rfl, rfl, h2, r2⟩ := trodAll_cons r1
  obtain ⟨v3, vs3, d3, ds3, p3, q3, rfl, rfl, rfl, h3, r3⟩ := trodAll_cons r2
  obtain ⟨v4, vs4, d4, ds4, p4, q4, rfl, rfl, rfl, h4, r4⟩ := trodAll_cons r3
  obtain ⟨v5, vs5, d5, ds5, p5, q5, rfl, rfl, rfl, h5, r5⟩ := trodAll_cons r4
  obtain ⟨rfl, rfl, rfl⟩ := trodAll_nil r5
  obtain rfl : args = #[v0, v1, v2, v3, v4, v5] := by cases args; simp_all
  obtain ⟨rfl, rfl⟩ := trodVars_none hV
  obtain ⟨x0, rfl, rfl, rfl, w0⟩ := open_int Try.underlying3 (hval 0 3 v0 rfl rfl) h0
  obtain ⟨n1, f1, e1, m1, t1⟩ := arg_row (s := [.int .i64]) Try.underlying37 (by kernel_rfl) (hval 1 37 v1 rfl rfl) h1
  obtain ⟨i1, b1⟩ := intK_of_typ (k := .i64) (c := 1) rfl t1
  obtain ⟨n2, f2, e2, m2, t2⟩ := arg_row (s := [.int .i64]) Try.underlying37 (by kernel_rfl) (hval 2 37 v2 rfl rfl) h2
  obtain ⟨i2, b2⟩ := intK_of_typ (k := .i64) (c := 1) rfl t2
  obtain ⟨n3, f3, e3, m3, t3⟩ := arg_row (s := [.int .i64, .sl [.int .i64]]) Try.underlying38 (by kernel_rfl) (hval 3 38 v3 rfl rfl) h3
  obtain ⟨i3, b3, c3, g3⟩ := nestR_typ (sz := 2) (k := 1) (s := 1) (by intro j hj hk; rcases (show j = 0 ∨ j = 1 by omega) with rfl | rfl <;> first | rfl | exact absurd rfl hk) rfl t3
  obtain ⟨x4, rfl, rfl, rfl, w4⟩ := open_int Try.underlying3 (hval 4 3 v4 rfl rfl) h4
  obtain ⟨x5, rfl, rfl, rfl, w5⟩ := open_int Try.underlying5 (hval 5 5 v5 rfl rfl) h5
  have hd : DenL Env.emp W [.int .i64 x0, .row n1 1 f1, .row n2 1 f2, .row n3 2 f3, .int .i64 x4, .int .u8 x5] [.int .i64 x0, v1, v2, v3, .int .i64 x4, .int .u8 x5] := ⟨.int _ _, e1, e2, e3, .int _ _, .int _ _, trivial⟩
  refine (law_calls panelVotes_base (args := [.int .i64 x0, .row n1 1 f1, .row n2 1 f2, .row n3 2 f3, .int .i64 x4, .int .u8 x5]) rfl ⟨⟨rfl, fun i j hi hj => i1 i j hi hj⟩, ⟨rfl, fun i j hi hj => i2 i j hi hj⟩, ⟨rfl, i3⟩, w5⟩ (denA_of hd)).mono fun e W' ⟨he, hb⟩ => ?_
  subst he
  exact ⟨_, rfl, law_end laid rfl Try.underlying4 (by kernel_rfl) rfl hW' rfl hb⟩
theorem over : Rows.panelVotesRow.holds Try.pinned (OpenSpec.ofChange Rows.panelVotesSpec) :=
  OpenClaim.holds_of_wide 8 Try.f8 rfl rfl rfl rfl rfl rfl rfl ⟨rfl, rfl, rfl, rfl, rfl⟩ rfl rfl rfl rfl rfl (by kernel_rfl) Try.func8 (by kernel_rfl)
    (of_decide_eq_true (by kernel_rfl)) (by unfold Func.isWrapper; first | (rw [if_pos (by decide +kernel)]; kernel_rfl) | (rw [if_neg (by decide +kernel)]; exact ⟨rfl, rfl⟩))
    (fun os started H enc _ => lifted os started H enc)
end Go.Proofs.Ytnccjojfpkjihaa.panelVotes
namespace Go.Proofs.Ytnccjojfpkjihaa
/-- The given statement. -/
theorem panelVotes_holds : Rows.PanelVotesSaid := panelVotes.over
#print axioms panelVotes_holds
end Go.Proofs.Ytnccjojfpkjihaa
end
