/-
  A part of the symbolic machine, of its soundness, and of what functions compute. No condition.
-/
import Derived.Test.YtnomakoomapdbaaE3
set_option linter.unusedSimpArgs false
set_option linter.unusedVariables false
/- Ways through the regions whose order is drawn. -/
section
namespace Go.Eng
def p5_10 : Plan := .quiet 0 (.quiet 1 (.quiet 2 (.quiet 3 (.quiet 4 (.quiet 5 (.done))))))
def p5_19 : Plan := .quiet 0 (.quiet 1 (.quiet 2 (.quiet 3 (.quiet 4 (.quiet 5 (.quiet 6 (.quiet 7 (.quiet 8 (.quiet 9 (.quiet 10 (.quiet 11 (.quiet 12 (.quiet 13 (.quiet 14 (.quiet 15 (.quiet 16 (.quiet 17 (.quiet 18 (.quiet 19 (.quiet 20 (.quiet 21 (.quiet 22 (.quiet 23 (.quiet 24 (.quiet 25 (.quiet 26 (.quiet 27 (.quiet 28 (.quiet 29 (.quiet 30 (.quiet 31 (.quiet 32 (.quiet 33 (.quiet 34 (.loud 35 [0, 2, 3, 4, 8, 10, 11, 12, 13, 18, 20, 21, 22, 23, 24, 29, 31, 32, 33, 34] (.loud 36 [] (.done)))))))))))))))))))))))))))))))))))))
def p6_9 : Plan := .quiet 0 (.quiet 1 (.quiet 2 (.quiet 3 (.quiet 4 (.quiet 5 (.quiet 6 (.quiet 7 (.quiet 8 (.quiet 9 (.both (.loud 10 [0, 1, 4, 5] (.loud 11 [0, 1, 4, 5] (.loud 12 [] (.loud 13 [] (.quiet 14 (.done)))))) (.loud 11 [0, 1, 4, 5] (.loud 10 [0, 1, 4, 5] (.loud 12 [] (.loud 13 [] (.quiet 14 (.done))))))))))))))))
def p6_10 : Plan := .quiet 0 (.quiet 1 (.quiet 2 (.quiet 3 (.quiet 4 (.quiet 5 (.quiet 6 (.quiet 7 (.quiet 8 (.quiet 9 (.both (.loud 10 [0, 1, 4, 5] (.loud 11 [0, 1, 4, 5] (.loud 12 [] (.loud 13 [] (.quiet 14 (.done)))))) (.loud 11 [0, 1, 4, 5] (.loud 10 [0, 1, 4, 5] (.loud 12 [] (.loud 13 [] (.quiet 14 (.done))))))))))))))))
def p6_11 : Plan := .quiet 0 (.quiet 1 (.quiet 2 (.quiet 3 (.quiet 4 (.quiet 5 (.quiet 6 (.quiet 7 (.quiet 8 (.quiet 9 (.quiet 10 (.quiet 11 (.quiet 12 (.quiet 13 (.quiet 14 (.quiet 15 (.quiet 16 (.quiet 17 (.quiet 18 (.quiet 19 (.quiet 20 (.quiet 21 (.quiet 22 (.quiet 23 (.quiet 24 (.quiet 25 (.quiet 26 (.quiet 27 (.quiet 28 (.quiet 29 (.quiet 30 (.quiet 31 (.quiet 32 (.quiet 33 (.quiet 34 (.quiet 35 (.quiet 36 (.quiet 37 (.quiet 38 (.quiet 39 (.quiet 40 (.quiet 41 (.quiet 42 (.quiet 43 (.quiet 44 (.quiet 45 (.quiet 46 (.quiet 47 (.quiet 48 (.quiet 49 (.quiet 50 (.done)))))))))))))))))))))))))))))))))))))))))))))))))))
def p6_25 : Plan := .quiet 0 (.quiet 1 (.quiet 2 (.quiet 3 (.quiet 4 (.quiet 5 (.quiet 6 (.quiet 7 (.quiet 8 (.quiet 9 (.quiet 10 (.both (.loud 11 [0, 1, 4, 6] (.loud 12 [0, 1, 4, 6] (.loud 13 [] (.loud 14 [] (.quiet 15 (.done)))))) (.loud 12 [0, 1, 4, 6] (.loud 11 [0, 1, 4, 6] (.loud 13 [] (.loud 14 [] (.quiet 15 (.done)))))))))))))))))
def p8_9 : Plan := .quiet 0 (.quiet 1 (.quiet 2 (.quiet 3 (.quiet 4 (.quiet 5 (.quiet 6 (.quiet 7 (.quiet 8 (.quiet 9 (.quiet 10 (.quiet 11 (.quiet 12 (.quiet 13 (.quiet 14 (.quiet 15 (.quiet 16 (.done)))))))))))))))))
def p8_10 : Plan := .quiet 0 (.quiet 1 (.quiet 2 (.quiet 3 (.quiet 4 (.quiet 5 (.quiet 6 (.quiet 7 (.quiet 8 (.quiet 9 (.quiet 10 (.quiet 11 (.quiet 12 (.quiet 13 (.quiet 14 (.quiet 15 (.quiet 16 (.quiet 17 (.quiet 18 (.quiet 19 (.quiet 20 (.quiet 21 (.quiet 22 (.quiet 23 (.quiet 24 (.quiet 25 (.quiet 26 (.quiet 27 (.quiet 28 (.quiet 29 (.quiet 30 (.quiet 31 (.quiet 32 (.quiet 33 (.quiet 34 (.quiet 35 (.quiet 36 (.done)))))))))))))))))))))))))))))))))))))
def p8_15 : Plan := .quiet 0 (.quiet 1 (.quiet 2 (.quiet 3 (.quiet 4 (.quiet 5 (.quiet 6 (.quiet 7 (.quiet 8 (.quiet 9 (.quiet 10 (.quiet 11 (.done))))))))))))
def p8_16 : Plan := .quiet 0 (.quiet 1 (.quiet 2 (.quiet 3 (.quiet 4 (.quiet 5 (.quiet 6 (.quiet 7 (.quiet 8 (.quiet 9 (.quiet 10 (.quiet 11 (.quiet 12 (.quiet 13 (.done))))))))))))))
def p10_8 : Plan := .quiet 0 (.quiet 1 (.quiet 2 (.quiet 3 (.quiet 4 (.quiet 5 (.quiet 6 (.quiet 7 (.quiet 8 (.quiet 9 (.quiet 10 (.quiet 11 (.quiet 12 (.quiet 13 (.quiet 14 (.quiet 15 (.quiet 16 (.quiet 17 (.quiet 18 (.quiet 19 (.quiet 20 (.quiet 21 (.quiet 22 (.quiet 23 (.done))))))))))))))))))))))))
def p10_10 : Plan := .quiet 0 (.quiet 1 (.quiet 2 (.quiet 3 (.quiet 4 (.quiet 5 (.quiet 6 (.quiet 7 (.quiet 8 (.quiet 9 (.quiet 10 (.quiet 11 (.quiet 12 (.quiet 13 (.quiet 14 (.quiet 15 (.quiet 16 (.quiet 17 (.quiet 18 (.quiet 19 (.quiet 20 (.quiet 21 (.quiet 22 (.quiet 23 (.quiet 24 (.quiet 25 (.quiet 26 (.quiet 27 (.done))))))))))))))))))))))))))))
def p13_2 : Plan := .quiet 0 (.quiet 1 (.loud 2 [1] (.loud 3 [] (.quiet 4 (.done)))))
def p13_11 : Plan := .quiet 0 (.quiet 2 (.loud 1 [2] (.loud 3 [2] (.loud 4 [] (.quiet 5 (.done))))))
def p14_3 : Plan := .quiet 0 (.quiet 1 (.loud 2 [1] (.loud 3 [] (.quiet 4 (.done)))))
def p14_7 : Plan := .quiet 0 (.quiet 1 (.quiet 2 (.quiet 3 (.quiet 4 (.quiet 5 (.quiet 6 (.quiet 7 (.quiet 8 (.quiet 9 (.quiet 10 (.quiet 11 (.quiet 12 (.quiet 13 (.quiet 14 (.quiet 15 (.both (.loud 16 [0, 1, 2, 5, 6, 7, 8, 9, 10, 13, 14, 15] (.loud 17 [0, 1, 2, 5, 6, 7, 8, 9, 10, 13, 14, 15] (.loud 18 [] (.loud 19 [] (.done))))) (.loud 17 [0, 1, 2, 5, 6, 7, 8, 9, 10, 13, 14, 15] (.loud 16 [0, 1, 2, 5, 6, 7, 8, 9, 10, 13, 14, 15] (.loud 18 [] (.loud 19 [] (.done)))))))))))))))))))))
def p14_9 : Plan := .quiet 0 (.quiet 1 (.quiet 2 (.quiet 3 (.quiet 4 (.quiet 5 (.quiet 6 (.quiet 7 (.quiet 8 (.quiet 9 (.quiet 10 (.quiet 11 (.quiet 12 (.quiet 13 (.quiet 14 (.quiet 15 (.quiet 16 (.quiet 17 (.quiet 18 (.quiet 19 (.quiet 20 (.quiet 21 (.quiet 22 (.quiet 23 (.quiet 24 (.quiet 25 (.quiet 26 (.quiet 27 (.quiet 28 (.loud 29 [] (.done))))))))))))))))))))))))))))))
def p14_10 : Plan := .quiet 0 (.quiet 1 (.loud 2 [1] (.loud 3 [] (.quiet 4 (.done)))))
def p15_13 : Plan := .quiet 0 (.quiet 1 (.loud 2 [1] (.loud 3 [] (.quiet 4 (.done)))))
def p16_7 : Plan := .quiet 0 (.quiet 1 (.quiet 2 (.quiet 3 (.quiet 4 (.quiet 5 (.quiet 6 (.quiet 7 (.quiet 8 (.quiet 9 (.quiet 10 (.quiet 11 (.quiet 12 (.quiet 13 (.quiet 14 (.quiet 15 (.both (.loud 16 [0, 1, 2, 5, 6, 7, 8, 9, 10, 13, 14, 15] (.loud 17 [0, 1, 2, 5, 6, 7, 8, 9, 10, 13, 14, 15] (.loud 18 [] (.loud 19 [] (.done))))) (.loud 17 [0, 1, 2, 5, 6, 7, 8, 9, 10, 13, 14, 15] (.loud 16 [0, 1, 2, 5, 6, 7, 8, 9, 10, 13, 14, 15] (.loud 18 [] (.loud 19 [] (.done)))))))))))))))))))))
def p17_6 : Plan := .quiet 0 (.quiet 2 (.loud 1 [2] (.loud 3 [] (.done))))
def p17_9 : Plan := .quiet 0 (.quiet 1 (.quiet 2 (.quiet 3 (.quiet 4 (.quiet 5 (.quiet 6 (.quiet 7 (.quiet 8 (.done)))))))))
def p17_10 : Plan := .quiet 0 (.quiet 1 (.quiet 2 (.quiet 3 (.quiet 4 (.quiet 5 (.quiet 6 (.quiet 9 (.quiet 10 (.quiet 11 (.quiet 12 (.quiet 13 (.quiet 14 (.quiet 15 (.both (.loud 7 [0, 9, 10, 11, 12] (.both (.loud 8 [9, 10, 11, 12] (.loud 16 [9] (.loud 17 [] (.loud 18 [] (.loud 19 [] (.done)))))) (.loud 16 [0, 9] (.loud 8 [9] (.loud 17 [] (.loud 18 [] (.loud 19 [] (.done)))))))) (.loud 16 [0, 1, 2, 3, 9] (.loud 7 [0, 9] (.loud 8 [9] (.loud 17 [] (.loud 18 [] (.loud 19 [] (.done)))))))))))))))))))))
def p17_11 : Plan := .quiet 0 (.quiet 1 (.quiet 2 (.quiet 3 (.quiet 4 (.loud 5 [] (.quiet 6 (.done)))))))
def p18_9 : Plan := .quiet 0 (.quiet 1 (.quiet 2 (.quiet 3 (.quiet 4 (.quiet 5 (.quiet 6 (.quiet 7 (.quiet 8 (.quiet 9 (.quiet 10 (.quiet 11 (.quiet 12 (.quiet 13 (.quiet 14 (.quiet 15 (.both (.loud 16 [0, 1, 2, 5, 6, 7, 8, 9, 10, 13, 14, 15] (.loud 17 [0, 1, 2, 5, 6, 7, 8, 9, 10, 13, 14, 15] (.loud 18 [] (.loud 19 [] (.done))))) (.loud 17 [0, 1, 2, 5, 6, 7, 8, 9, 10, 13, 14, 15] (.loud 16 [0, 1, 2, 5, 6, 7, 8, 9, 10, 13, 14, 15] (.loud 18 [] (.loud 19 [] (.done)))))))))))))))))))))
def p18_11 : Plan := .quiet 0 (.quiet 1 (.quiet 2 (.quiet 3 (.quiet 4 (.quiet 5 (.quiet 6 (.quiet 7 (.quiet 8 (.quiet 9 (.done))))))))))
def p22_1 : Plan := .quiet 0 (.quiet 1 (.quiet 2 (.quiet 3 (.quiet 4 (.quiet 5 (.quiet 6 (.quiet 7 (.quiet 8 (.quiet 9 (.quiet 10 (.quiet 11 (.quiet 12 (.done)))))))))))))
def p26_1 : Plan := .quiet 0 (.quiet 1 (.quiet 2 (.quiet 3 (.quiet 4 (.quiet 5 (.quiet 6 (.quiet 7 (.quiet 8 (.quiet 9 (.quiet 10 (.quiet 11 (.quiet 12 (.quiet 13 (.quiet 14 (.quiet 15 (.quiet 16 (.quiet 17 (.quiet 18 (.quiet 19 (.quiet 20 (.done)))))))))))))))))))))
def p28_9 : Plan := .quiet 0 (.quiet 1 (.quiet 2 (.quiet 3 (.quiet 4 (.quiet 5 (.quiet 6 (.quiet 7 (.quiet 8 (.quiet 9 (.quiet 10 (.quiet 11 (.quiet 12 (.quiet 13 (.quiet 14 (.quiet 15 (.quiet 16 (.quiet 17 (.quiet 18 (.quiet 19 (.quiet 20 (.quiet 21 (.quiet 22 (.quiet 23 (.quiet 24 (.quiet 25 (.quiet 26 (.quiet 27 (.quiet 28 (.quiet 29 (.done))))))))))))))))))))))))))))))
def p29_1 : Plan := .quiet 0 (.quiet 1 (.quiet 2 (.quiet 3 (.quiet 4 (.quiet 5 (.quiet 6 (.quiet 7 (.quiet 8 (.quiet 9 (.quiet 10 (.quiet 11 (.quiet 12 (.quiet 13 (.quiet 14 (.done)))))))))))))))
def p30_2 : Plan := .quiet 0 (.quiet 1 (.quiet 2 (.quiet 3 (.quiet 4 (.both (.loud 5 [0] (.loud 6 [] (.quiet 7 (.done)))) (.loud 6 [3, 4] (.loud 5 [] (.quiet 7 (.done)))))))))
def p33_1 : Plan := .quiet 0 (.quiet 1 (.quiet 2 (.quiet 3 (.quiet 4 (.quiet 5 (.quiet 6 (.quiet 7 (.quiet 8 (.quiet 9 (.quiet 10 (.quiet 11 (.quiet 12 (.quiet 13 (.quiet 14 (.quiet 15 (.quiet 16 (.quiet 17 (.quiet 18 (.quiet 19 (.quiet 20 (.done)))))))))))))))))))))
def p34_2 : Plan := .quiet 0 (.quiet 1 (.quiet 2 (.quiet 3 (.quiet 4 (.quiet 5 (.quiet 6 (.quiet 7 (.quiet 8 (.done)))))))))
def p34_5 : Plan := .quiet 0 (.quiet 1 (.quiet 2 (.quiet 3 (.quiet 4 (.quiet 5 (.quiet 6 (.quiet 7 (.quiet 8 (.quiet 9 (.quiet 10 (.quiet 11 (.quiet 12 (.quiet 13 (.quiet 14 (.quiet 15 (.quiet 16 (.quiet 17 (.done))))))))))))))))))
def p34_6 : Plan := .quiet 0 (.quiet 1 (.quiet 2 (.quiet 3 (.quiet 4 (.quiet 5 (.quiet 6 (.quiet 7 (.quiet 8 (.quiet 9 (.quiet 10 (.quiet 11 (.quiet 12 (.quiet 13 (.quiet 14 (.quiet 15 (.quiet 16 (.quiet 17 (.quiet 18 (.quiet 19 (.quiet 20 (.quiet 21 (.quiet 22 (.quiet 23 (.quiet 24 (.quiet 25 (.done))))))))))))))))))))))))))
def p35_5 : Plan := .quiet 0 (.quiet 1 (.quiet 2 (.quiet 3 (.quiet 4 (.quiet 5 (.quiet 6 (.quiet 7 (.quiet 8 (.done)))))))))
def p35_7 : Plan := .quiet 0 (.quiet 1 (.quiet 2 (.quiet 3 (.quiet 4 (.quiet 5 (.quiet 6 (.quiet 7 (.quiet 8 (.quiet 9 (.quiet 10 (.quiet 11 (.quiet 12 (.quiet 13 (.quiet 14 (.quiet 15 (.quiet 16 (.quiet 17 (.quiet 18 (.quiet 19 (.quiet 20 (.quiet 21 (.quiet 22 (.quiet 23 (.quiet 24 (.quiet 25 (.quiet 26 (.quiet 27 (.quiet 28 (.quiet 29 (.quiet 30 (.quiet 31 (.quiet 32 (.quiet 33 (.quiet 34 (.done)))))))))))))))))))))))))))))))))))
def p35_8 : Plan := .quiet 0 (.quiet 1 (.quiet 2 (.quiet 3 (.quiet 4 (.quiet 5 (.quiet 6 (.quiet 7 (.quiet 8 (.quiet 9 (.quiet 10 (.quiet 11 (.done))))))))))))
def p38_1 : Plan := .quiet 0 (.quiet 1 (.quiet 2 (.quiet 3 (.quiet 4 (.quiet 5 (.quiet 6 (.quiet 7 (.quiet 8 (.loud 9 [] (.done))))))))))
def p57_6 : Plan := .quiet 0 (.quiet 1 (.quiet 2 (.quiet 3 (.quiet 4 (.quiet 5 (.quiet 6 (.quiet 7 (.quiet 8 (.quiet 9 (.quiet 10 (.quiet 11 (.quiet 12 (.quiet 13 (.quiet 14 (.quiet 15 (.quiet 16 (.quiet 17 (.quiet 18 (.quiet 19 (.quiet 20 (.quiet 21 (.quiet 22 (.quiet 23 (.quiet 24 (.quiet 25 (.quiet 26 (.quiet 27 (.quiet 28 (.quiet 29 (.quiet 30 (.quiet 31 (.quiet 32 (.quiet 33 (.quiet 34 (.quiet 35 (.quiet 36 (.quiet 37 (.loud 38 [] (.done)))))))))))))))))))))))))))))))))))))))
def p64_0 : Plan := .quiet 0 (.quiet 1 (.quiet 2 (.quiet 3 (.quiet 4 (.quiet 5 (.quiet 6 (.quiet 7 (.done))))))))
def p64_4 : Plan := .quiet 0 (.quiet 1 (.quiet 2 (.quiet 3 (.quiet 4 (.quiet 5 (.quiet 6 (.quiet 7 (.quiet 8 (.loud 9 [1, 2, 3, 5, 6, 7, 8] (.loud 10 [] (.done)))))))))))
def p64_6 : Plan := .quiet 0 (.quiet 1 (.quiet 2 (.quiet 3 (.quiet 4 (.quiet 5 (.quiet 6 (.quiet 7 (.done))))))))
def p65_2 : Plan := .quiet 0 (.quiet 1 (.quiet 2 (.quiet 3 (.quiet 4 (.quiet 5 (.quiet 6 (.quiet 7 (.quiet 8 (.quiet 9 (.quiet 10 (.quiet 11 (.quiet 12 (.quiet 13 (.quiet 14 (.quiet 15 (.quiet 16 (.quiet 17 (.quiet 18 (.quiet 19 (.quiet 20 (.quiet 21 (.quiet 22 (.quiet 23 (.quiet 24 (.quiet 25 (.quiet 26 (.quiet 27 (.quiet 28 (.quiet 29 (.quiet 30 (.quiet 31 (.done))))))))))))))))))))))))))))))))
end Go.Eng
end

/- air: small functions. -/
section
namespace Go.Eng
open Go Go.RowKit Go.Proofs
set_option maxRecDepth 100000
set_option maxHeartbeats 4000000
attribute [local irreducible] OwnT DefS
def in3 (n lo hi : Int) : Bool := decide (lo ≤ n) && decide (n ≤ hi)
theorem in3_iff {n lo hi : Int} : in3 n lo hi = true ↔ lo ≤ n ∧ n ≤ hi := by simp [in3]
def sp3 (lo hi most : Int) : Bool := in3 lo 0 hi && decide (hi ≤ most)
theorem sp3_iff {lo hi most : Int} : sp3 lo hi most = true ↔ 0 ≤ lo ∧ lo ≤ hi ∧ hi ≤ most := by simp [sp3, in3_iff, and_assoc]
theorem wrap_id {x : Int} (h1 : -9223372036854775808 ≤ x) (h2 : x ≤ 9223372036854775807) : IntKind.i64.wrap x = x := by
  simp [IntKind.wrap, IntKind.signed, IntKind.bits]
  omega
def inBase : BaseF := fun args => match args with
  | [.int .i64 n, .int .i64 lo, .int .i64 hi] => some (True, .bool (in3 n lo hi))
  | _ => none
theorem in_eq (n : Int) (lo : Int) (hi : Int) : inBase [.int .i64 n, .int .i64 lo, .int .i64 hi] = some (True, .bool (in3 n lo hi)) := rfl
theorem in_base : Base Try.prog 49 inBase := by
  intro args p v hq hp
  unfold inBase at hq
  split at hq
  rotate_left
  · cases hq
  rename_i n lo hi
  cases hq
  refine base_of (C := cx [] [] [] [] none) (cx_ok trivial trivial) rfl (g := 49) (fn := Try.f49)
    (args' := [.int .i64 n, .int .i64 lo, .int .i64 hi]) (fn_49) rfl 1000 (by simp only [BdL, Bd, and_self, and_true, true_and]) ⟨SameD.rfl' _, SameD.rfl' _, SameD.rfl' _, trivial⟩ ?_
  simp only [Try.f49, go_sem, ↓reduceIte, Nat.reduceAdd, Nat.reduceSub, Nat.reduceMul, Nat.reduceEqDiff, Nat.reduceLT, Nat.reduceLeDiff, Int.reduceToNat, Int.reduceLE, Int.reduceLT, Int.reduceEq, Int.reduceNeg, reduceCtorEq]
  (repeat' refine And.intro (fun _ => ?_) (fun _ => ?_)) <;> simp_all [in3, sp3] <;> omega
def in2Base : BaseF := fun args => match args with
  | [.int .i64 n, .int .i64 lo, .int .i64 hi] => some (True, .bool (in3 n lo hi))
  | _ => none
theorem in2_eq (n : Int) (lo : Int) (hi : Int) : in2Base [.int .i64 n, .int .i64 lo, .int .i64 hi] = some (True, .bool (in3 n lo hi)) := rfl
theorem in2_base : Base Try.prog 47 in2Base := by
  intro args p v hq hp
  unfold in2Base at hq
  split at hq
  rotate_left
  · cases hq
  rename_i n lo hi
  cases hq
  refine base_of (C := cx [] [] [] [] none) (cx_ok trivial trivial) rfl (g := 47) (fn := Try.f47)
    (args' := [.int .i64 n, .int .i64 lo, .int .i64 hi]) (fn_47) rfl 1000 (by simp only [BdL, Bd, and_self, and_true, true_and]) ⟨SameD.rfl' _, SameD.rfl' _, SameD.rfl' _, trivial⟩ ?_
  simp only [Try.f47, go_sem, ↓reduceIte, Nat.reduceAdd, Nat.reduceSub, Nat.reduceMul, Nat.reduceEqDiff, Nat.reduceLT, Nat.reduceLeDiff, Int.reduceToNat, Int.reduceLE, Int.reduceLT, Int.reduceEq, Int.reduceNeg, reduceCtorEq]
  (repeat' refine And.intro (fun _ => ?_) (fun _ => ?_)) <;> simp_all [in3, sp3] <;> omega
def spanVBase : BaseF := fun args => match args with
  | [.agg [.int .i64 lo, .int .i64 hi], .int .i64 most] => some (True, .bool (sp3 lo hi most))
  | _ => none
theorem spanV_eq (lo : Int) (hi : Int) (most : Int) : spanVBase [.agg [.int .i64 lo, .int .i64 hi], .int .i64 most] = some (True, .bool (sp3 lo hi most)) := rfl
theorem spanV_base : Base Try.prog 54 spanVBase := by
  intro args p v hq hp
  unfold spanVBase at hq
  split at hq
  rotate_left
  · cases hq
  rename_i lo hi most
  cases hq
  refine base_of (C := cx [] [] [] [] none) (cx_ok trivial trivial) rfl (g := 54) (fn := Try.f54)
    (args' := [.agg [.int .i64 lo, .int .i64 hi], .int .i64 most]) (fn_54) rfl 1000 (by simp only [BdL, Bd, and_self, and_true, true_and]) ⟨SameD.rfl' _, SameD.rfl' _, trivial⟩ ?_
  simp only [Try.f54, go_sem, ↓reduceIte, Nat.reduceAdd, Nat.reduceSub, Nat.reduceMul, Nat.reduceEqDiff, Nat.reduceLT, Nat.reduceLeDiff, Int.reduceToNat, Int.reduceLE, Int.reduceLT, Int.reduceEq, Int.reduceNeg, reduceCtorEq]
  (repeat' refine And.intro (fun _ => ?_) (fun _ => ?_)) <;> simp_all [in3, sp3] <;> omega
def isSpanBase : BaseF := fun args => match args with
  | [.agg [.int .i64 lo, .int .i64 hi], .int .i64 most] => some (True, .bool (sp3 lo hi most))
  | _ => none
theorem isSpan_eq (lo : Int) (hi : Int) (most : Int) : isSpanBase [.agg [.int .i64 lo, .int .i64 hi], .int .i64 most] = some (True, .bool (sp3 lo hi most)) := rfl
theorem isSpan_base : Base Try.prog 59 isSpanBase := by
  intro args p v hq hp
  unfold isSpanBase at hq
  split at hq
  rotate_left
  · cases hq
  rename_i lo hi most
  cases hq
  refine base_of (C := cx [] [] [] [] none) (cx_ok trivial trivial) rfl (g := 59) (fn := Try.f59)
    (args' := [.agg [.int .i64 lo, .int .i64 hi], .int .i64 most]) (fn_59) rfl 1000 (by simp only [BdL, Bd, and_self, and_true, true_and]) ⟨SameD.rfl' _, SameD.rfl' _, trivial⟩ ?_
  simp only [Try.f59, go_sem, ↓reduceIte, Nat.reduceAdd, Nat.reduceSub, Nat.reduceMul, Nat.reduceEqDiff, Nat.reduceLT, Nat.reduceLeDiff, Int.reduceToNat, Int.reduceLE, Int.reduceLT, Int.reduceEq, Int.reduceNeg, reduceCtorEq]
  (repeat' refine And.intro (fun _ => ?_) (fun _ => ?_)) <;> simp_all [in3, sp3] <;> omega
def leastEBase : BaseF := fun args => match args with
  | [.agg [.int .i64 lo, .int .i64 hi]] => some (True, .int .i64 lo)
  | _ => none
theorem leastE_eq (lo : Int) (hi : Int) : leastEBase [.agg [.int .i64 lo, .int .i64 hi]] = some (True, .int .i64 lo) := rfl
theorem leastE_base : Base Try.prog 62 leastEBase := by
  intro args p v hq hp
  unfold leastEBase at hq
  split at hq
  rotate_left
  · cases hq
  rename_i lo hi
  cases hq
  refine base_of (C := cx [] [] [] [] none) (cx_ok trivial trivial) rfl (g := 62) (fn := Try.f62)
    (args' := [.agg [.int .i64 lo, .int .i64 hi]]) (fn_62) rfl 1000 (by simp only [BdL, Bd, and_self, and_true, true_and]) ⟨SameD.rfl' _, trivial⟩ ?_
  simp only [Try.f62, go_sem, ↓reduceIte, Nat.reduceAdd, Nat.reduceSub, Nat.reduceMul, Nat.reduceEqDiff, Nat.reduceLT, Nat.reduceLeDiff, Int.reduceToNat, Int.reduceLE, Int.reduceLT, Int.reduceEq, Int.reduceNeg, reduceCtorEq]
def greatEBase : BaseF := fun args => match args with
  | [.agg [.int .i64 lo, .int .i64 hi]] => some (True, .int .i64 hi)
  | _ => none
theorem greatE_eq (lo : Int) (hi : Int) : greatEBase [.agg [.int .i64 lo, .int .i64 hi]] = some (True, .int .i64 hi) := rfl
theorem greatE_base : Base Try.prog 63 greatEBase := by
  intro args p v hq hp
  unfold greatEBase at hq
  split at hq
  rotate_left
  · cases hq
  rename_i lo hi
  cases hq
  refine base_of (C := cx [] [] [] [] none) (cx_ok trivial trivial) rfl (g := 63) (fn := Try.f63)
    (args' := [.agg [.int .i64 lo, .int .i64 hi]]) (fn_63) rfl 1000 (by simp only [BdL, Bd, and_self, and_true, true_and]) ⟨SameD.rfl' _, trivial⟩ ?_
  simp only [Try.f63, go_sem, ↓reduceIte, Nat.reduceAdd, Nat.reduceSub, Nat.reduceMul, Nat.reduceEqDiff, Nat.reduceLT, Nat.reduceLeDiff, Int.reduceToNat, Int.reduceLE, Int.reduceLT, Int.reduceEq, Int.reduceNeg, reduceCtorEq]
def mkSpanBase : BaseF := fun args => match args with
  | [.int .i64 lo, .int .i64 hi] => some (True, .agg [.int .i64 lo, .int .i64 hi])
  | _ => none
theorem mkSpan_eq (lo : Int) (hi : Int) : mkSpanBase [.int .i64 lo, .int .i64 hi] = some (True, .agg [.int .i64 lo, .int .i64 hi]) := rfl
theorem mkSpan_base : Base Try.prog 31 mkSpanBase := by
  intro args p v hq hp
  unfold mkSpanBase at hq
  split at hq
  rotate_left
  · cases hq
  rename_i lo hi
  cases hq
  refine base_of (C := cx [] [] [] [] none) (cx_ok trivial trivial) rfl (g := 31) (fn := Try.f31)
    (args' := [.int .i64 lo, .int .i64 hi]) (fn_31) rfl 1000 (by simp only [BdL, Bd, and_self, and_true, true_and]) ⟨SameD.rfl' _, SameD.rfl' _, trivial⟩ ?_
  simp only [Try.f31, go_sem, ↓reduceIte, Nat.reduceAdd, Nat.reduceSub, Nat.reduceMul, Nat.reduceEqDiff, Nat.reduceLT, Nat.reduceLeDiff, Int.reduceToNat, Int.reduceLE, Int.reduceLT, Int.reduceEq, Int.reduceNeg, reduceCtorEq]
def plus3Base : BaseF := fun args => match args with
  | [.agg [.int .i64 lo, .int .i64 hi], .int .i64 a, .int .i64 b] => some (True, .agg [.int .i64 (IntKind.i64.wrap (lo + a)), .int .i64 (IntKind.i64.wrap (hi + b))])
  | _ => none
theorem plus3_eq (lo : Int) (hi : Int) (a : Int) (b : Int) : plus3Base [.agg [.int .i64 lo, .int .i64 hi], .int .i64 a, .int .i64 b] = some (True, .agg [.int .i64 (IntKind.i64.wrap (lo + a)), .int .i64 (IntKind.i64.wrap (hi + b))]) := rfl
theorem plus3_base : Base Try.prog 46 plus3Base := by
  intro args p v hq hp
  unfold plus3Base at hq
  split at hq
  rotate_left
  · cases hq
  rename_i lo hi a b
  cases hq
  refine base_of (C := cx [] [] [] [] none) (cx_ok trivial trivial) rfl (g := 46) (fn := Try.f46)
    (args' := [.agg [.int .i64 lo, .int .i64 hi], .int .i64 a, .int .i64 b]) (fn_46) rfl 1000 (by simp only [BdL, Bd, and_self, and_true, true_and]) ⟨SameD.rfl' _, SameD.rfl' _, SameD.rfl' _, trivial⟩ ?_
  simp only [Try.f46, go_sem, ↓reduceIte, Nat.reduceAdd, Nat.reduceSub, Nat.reduceMul, Nat.reduceEqDiff, Nat.reduceLT, Nat.reduceLeDiff, Int.reduceToNat, Int.reduceLE, Int.reduceLT, Int.reduceEq, Int.reduceNeg, reduceCtorEq]
def plusSBase : BaseF := fun args => match args with
  | [.agg [.int .i64 lo, .int .i64 hi], .agg [.int .i64 a, .int .i64 b]] => some (True, .agg [.int .i64 (IntKind.i64.wrap (lo + a)), .int .i64 (IntKind.i64.wrap (hi + b))])
  | _ => none
theorem plusS_eq (lo : Int) (hi : Int) (a : Int) (b : Int) : plusSBase [.agg [.int .i64 lo, .int .i64 hi], .agg [.int .i64 a, .int .i64 b]] = some (True, .agg [.int .i64 (IntKind.i64.wrap (lo + a)), .int .i64 (IntKind.i64.wrap (hi + b))]) := rfl
theorem plusS_base : Base Try.prog 25 plusSBase := by
  intro args p v hq hp
  unfold plusSBase at hq
  split at hq
  rotate_left
  · cases hq
  rename_i lo hi a b
  cases hq
  refine base_of (C := cx [] [] [] [] none) (cx_ok trivial trivial) rfl (g := 25) (fn := Try.f25)
    (args' := [.agg [.int .i64 lo, .int .i64 hi], .agg [.int .i64 a, .int .i64 b]]) (fn_25) rfl 1000 (by simp only [BdL, Bd, and_self, and_true, true_and]) ⟨SameD.rfl' _, SameD.rfl' _, trivial⟩ ?_
  simp only [Try.f25, go_sem, ↓reduceIte, Nat.reduceAdd, Nat.reduceSub, Nat.reduceMul, Nat.reduceEqDiff, Nat.reduceLT, Nat.reduceLeDiff, Int.reduceToNat, Int.reduceLE, Int.reduceLT, Int.reduceEq, Int.reduceNeg, reduceCtorEq]
def hasBase : BaseF := fun args => match args with
  | [.agg [.int .i64 lo, .int .i64 hi], .int .i64 n] => some (True, .bool (in3 n lo hi))
  | _ => none
theorem has_eq (lo : Int) (hi : Int) (n : Int) : hasBase [.agg [.int .i64 lo, .int .i64 hi], .int .i64 n] = some (True, .bool (in3 n lo hi)) := rfl
theorem has_base : Base Try.prog 24 hasBase := by
  intro args p v hq hp
  unfold hasBase at hq
  split at hq
  rotate_left
  · cases hq
  rename_i lo hi n
  cases hq
  refine base_of (C := cx [] [] [] [] none) (cx_ok trivial trivial) rfl (g := 24) (fn := Try.f24)
    (args' := [.agg [.int .i64 lo, .int .i64 hi], .int .i64 n]) (fn_24) rfl 1000 (by simp only [BdL, Bd, and_self, and_true, true_and]) ⟨SameD.rfl' _, SameD.rfl' _, trivial⟩ ?_
  simp only [Try.f24, go_sem, ↓reduceIte, Nat.reduceAdd, Nat.reduceSub, Nat.reduceMul, Nat.reduceEqDiff, Nat.reduceLT, Nat.reduceLeDiff, Int.reduceToNat, Int.reduceLE, Int.reduceLT, Int.reduceEq, Int.reduceNeg, reduceCtorEq]
  (repeat' refine And.intro (fun _ => ?_) (fun _ => ?_)) <;> simp_all [in3, sp3] <;> omega
def insideBase : BaseF := fun args => match args with
  | [.agg [.int .i64 a, .int .i64 b], .agg [.int .i64 c, .int .i64 d]] => some (True, .bool (decide (c ≤ a) && decide (a ≤ b) && decide (b ≤ d)))
  | _ => none
theorem inside_eq (a : Int) (b : Int) (c : Int) (d : Int) : insideBase [.agg [.int .i64 a, .int .i64 b], .agg [.int .i64 c, .int .i64 d]] = some (True, .bool (decide (c ≤ a) && decide (a ≤ b) && decide (b ≤ d))) := rfl
theorem inside_base : Base Try.prog 27 insideBase := by
  intro args p v hq hp
  unfold insideBase at hq
  split at hq
  rotate_left
  · cases hq
  rename_i a b c d
  cases hq
  refine base_of (C := cx [] [] [] [] none) (cx_ok trivial trivial) rfl (g := 27) (fn := Try.f27)
    (args' := [.agg [.int .i64 a, .int .i64 b], .agg [.int .i64 c, .int .i64 d]]) (fn_27) rfl 1000 (by simp only [BdL, Bd, and_self, and_true, true_and]) ⟨SameD.rfl' _, SameD.rfl' _, trivial⟩ ?_
  simp only [Try.f27, go_sem, ↓reduceIte, Nat.reduceAdd, Nat.reduceSub, Nat.reduceMul, Nat.reduceEqDiff, Nat.reduceLT, Nat.reduceLeDiff, Int.reduceToNat, Int.reduceLE, Int.reduceLT, Int.reduceEq, Int.reduceNeg, reduceCtorEq]
  (repeat' refine And.intro (fun _ => ?_) (fun _ => ?_)) <;> simp_all [in3, sp3] <;> omega
def lessBase : BaseF := fun args => match args with
  | [.int .i64 a, .int .i64 b] => some (True, .bool (decide (a < b)))
  | _ => none
theorem less_eq (a : Int) (b : Int) : lessBase [.int .i64 a, .int .i64 b] = some (True, .bool (decide (a < b))) := rfl
theorem less_base : Base Try.prog 67 lessBase := by
  intro args p v hq hp
  unfold lessBase at hq
  split at hq
  rotate_left
  · cases hq
  rename_i a b
  cases hq
  refine base_of (C := cx [] [] [] [] none) (cx_ok trivial trivial) rfl (g := 67) (fn := Try.f67)
    (args' := [.int .i64 a, .int .i64 b]) (fn_67) rfl 1000 (by simp only [BdL, Bd, and_self, and_true, true_and]) ⟨SameD.rfl' _, SameD.rfl' _, trivial⟩ ?_
  simp only [Try.f68, Try.f69, Try.f67, go_sem, ↓reduceIte, Nat.reduceAdd, Nat.reduceSub, Nat.reduceMul, Nat.reduceEqDiff, Nat.reduceLT, Nat.reduceLeDiff, Int.reduceToNat, Int.reduceLE, Int.reduceLT, Int.reduceEq, Int.reduceNeg, reduceCtorEq]
end Go.Eng
end

/- air: what is valid. -/
section
namespace Go.Eng
open Go Go.RowKit Go.Proofs
set_option maxRecDepth 100000
set_option maxHeartbeats 4000000
attribute [local irreducible] OwnT DefS
def allU (p : Nat → Bool) : Nat → Bool
  | 0 => true
  | n + 1 => allU p n && p n
theorem allU_iff {p : Nat → Bool} : ∀ {n : Nat}, allU p n = true ↔ ∀ i, i < n → p i = true
  | 0 => ⟨fun _ i h => absurd h (by omega), fun _ => rfl⟩
  | n + 1 => by
    simp only [allU, Bool.and_eq_true, allU_iff (n := n)]
    constructor
    · rintro ⟨h1, h2⟩ i hi
      rcases Nat.lt_or_ge i n with h | h
      · exact h1 i h
      · obtain rfl : i = n := by omega
        exact h2
    · intro h
      exact ⟨fun i hi => h i (by omega), h n (by omega)⟩
theorem allU_false {p : Nat → Bool} {n i : Nat} (hi : i < n) (h : p i = false) : allU p n = false := by
  cases hc : allU p n with
  | false => rfl
  | true => have := allU_iff.1 hc i hi; rw [h] at this; cases this
def okA (T H : Nat → Nat → Int) (i : Nat) : Bool := (in3 (T i 0) (-500) 500 && in3 (H i 0) 1 100000) && (decide (i = 0) || (decide (T (i - 1) 0 < T i 0) && decide (H (i - 1) 0 ≤ H i 0)))
def airB (R : Int) (n m : Nat) (T H : Nat → Nat → Int) (bl bh : Int) : Bool := (in3 R 1 1048576 && (decide (m = n) && (in3 n 1 32 && sp3 bl bh 1048576))) && allU (okA T H) n
theorem airB_iff {R : Int} {n m : Nat} {T H : Nat → Nat → Int} {bl bh : Int} : airB R n m T H bl bh = true ↔ ((1 ≤ R ∧ R ≤ 1048576) ∧ m = n ∧ (1 ≤ n ∧ n ≤ 32) ∧ (0 ≤ bl ∧ bl ≤ bh ∧ bh ≤ 1048576)) ∧ ∀ i, i < n → okA T H i = true := by
  simp only [airB, Bool.and_eq_true, in3_iff, sp3_iff, decide_eq_true_eq, allU_iff]
  constructor
  · rintro ⟨⟨h1, h2, h3, h4⟩, h5⟩; exact ⟨⟨h1, h2, by omega, h4⟩, h5⟩
  · rintro ⟨⟨h1, h2, h3, h4⟩, h5⟩; exact ⟨⟨h1, h2, by omega, h4⟩, h5⟩
def airBase : BaseF := fun args => match args with
  | [.agg [.int .i64 R, .row n sz_T f_T, .row m sz_H f_H, .int .i64 bl, .int .i64 bh]] => some ((sz_T = 1 ∧ IntR n 1 f_T) ∧ (sz_H = 1 ∧ IntR m 1 f_H), .bool (airB R n m (ivf f_T) (ivf f_H) bl bh))
  | _ => none
theorem air_eq (R : Int) (n : Nat) (sz_T : Nat) (f_T : Nat → Nat → SV) (m : Nat) (sz_H : Nat) (f_H : Nat → Nat → SV) (bl : Int) (bh : Int) : airBase [.agg [.int .i64 R, .row n sz_T f_T, .row m sz_H f_H, .int .i64 bl, .int .i64 bh]] = some ((sz_T = 1 ∧ IntR n 1 f_T) ∧ (sz_H = 1 ∧ IntR m 1 f_H), .bool (airB R n m (ivf f_T) (ivf f_H) bl bh)) := rfl
theorem air_base : Base Try.prog 28 airBase := by
  intro args p v hq hp
  unfold airBase at hq
  split at hq
  rotate_left
  · cases hq
  rename_i R n sz_T f_T m sz_H f_H bl bh
  cases hq
  obtain ⟨⟨rfl, i_T⟩, ⟨rfl, i_H⟩⟩ := hp
  refine base_of (C := cx [] [] [(49, inBase), (54, spanVBase)] [(28, 9, p28_9)] none) (cx_ok trivial ⟨in_base, spanV_base, trivial⟩) rfl (g := 28) (fn := Try.f28)
    (args' := [.agg [.int .i64 R, .row n 1 (rowF .i64 (ivf f_T)), .row m 1 (rowF .i64 (ivf f_H)), .int .i64 bl, .int .i64 bh]]) (fn_28) rfl 1000 (by
    simp only [BdL, Bd, and_self, and_true, true_and]
    exact ⟨(fun i j hi hj => by rw [i_T i j hi hj]; trivial), (fun i j hi hj => by rw [i_H i j hi hj]; trivial)⟩) ⟨SameD.agg ⟨SameD.rfl' _, SameD.int i_T, SameD.int i_H, SameD.rfl' _, SameD.rfl' _, trivial⟩, trivial⟩ ?_
  generalize ivf f_T = T
  generalize ivf f_H = H
  simp only [rowF_eq]
  simp only [in_eq, spanV_eq, p28_9, Try.f28, go_sem, ↓reduceIte, Nat.reduceAdd, Nat.reduceSub, Nat.reduceMul, Nat.reduceEqDiff, Nat.reduceLT, Nat.reduceLeDiff, Int.reduceToNat, Int.reduceLE, Int.reduceLT, Int.reduceEq, Int.reduceNeg, reduceCtorEq]
  refine ⟨fun c1 => ?_, fun c1 => ⟨fun c2 => ?_, fun c2 => ⟨fun c3 => ?_, fun c3 => ⟨fun c4 => ?_, fun c4 => ?_⟩⟩⟩⟩
  · simp at c1; simp [airB, c1]
  · simp at c2; simp [airB, show ¬ m = n by omega]
  · simp at c3; simp [airB, c3]
  · simp at c4; simp [airB, c4]
  simp only [Bool.not_eq_false', decide_eq_true_eq] at c1 c2 c3 c4
  obtain rfl : m = n := by omega
  have hn := in3_iff.1 c3
  have hA : airB R m m T H bl bh = allU (okA T H) m := by simp [airB, c1, c3, c4]
  rw [hA]
  refine loop_of { i : Nat // i ≤ m ∧ ∀ j, j < i → okA T H j = true } (fun i => [(4, .int .i64 (i.1 : Int)), (3, .int .i64 (m : Int)), (1, .ptr 0 0)]) (fun _ => ⟨[.live 26 [.int .i64 R, .row m 1 fun i j => .int .i64 (T i j), .row m 1 fun i j => .int .i64 (H i j), .int .i64 bl, .int .i64 bh]], []⟩) (fun i => m - i.1) (fun _ => ⟨rfl, rfl⟩) ⟨0, by omega, by omega⟩ (by (apply sub_of <;> simp only [go_sem, ↓reduceIte, Nat.reduceAdd, Nat.reduceSub, Nat.reduceMul, Nat.reduceEqDiff, Nat.reduceLT, Nat.reduceLeDiff, Int.reduceToNat, Int.reduceLE, Int.reduceLT, Int.reduceEq, Int.reduceNeg, reduceCtorEq] <;> (try simp [catF]) <;> (try exact fun j _ => Bd_nth (by simp [BdL, Bd]) j) <;> (try exact bd_setL (by simp [bdAs, BdL, Bd])))) ?_
  rintro ⟨i, hi, h3⟩
  simp only [in_eq, spanV_eq, p28_9, Try.f28, go_sem, ↓reduceIte, Nat.reduceAdd, Nat.reduceSub, Nat.reduceMul, Nat.reduceEqDiff, Nat.reduceLT, Nat.reduceLeDiff, Int.reduceToNat, Int.reduceLE, Int.reduceLT, Int.reduceEq, Int.reduceNeg, reduceCtorEq]
  have hw3 : IntKind.i64.wrap ((i : Int) + 1) = ((i + 1 : Nat) : Int) := by rw [wrap_id (by omega) (by omega)]; omega
  have bad : i < m → okA T H i = false → SV.bool false = .bool (allU (okA T H) m) := fun hi h => by rw [allU_false hi h]
  refine ⟨fun e1 => ?_, fun e1 => ?_⟩
  · simp only [decide_eq_true_eq] at e1
    have ik : i < m := by omega
    refine ⟨⟨by omega, by omega⟩, fun e3 => bad ik (by simp only [Bool.not_eq_true'] at e3; simp [okA, e3]), fun e3 => ⟨⟨by omega, by omega⟩, fun e4 => bad ik (by simp only [Bool.not_eq_true'] at e4; simp [okA, e4]), fun e4 => ⟨⟨by kernel_rfl, by kernel_rfl⟩, fun e5 => ?_, fun e5 => ?_⟩⟩⟩
    · simp only [decide_eq_true_eq] at e5
      simp only [Bool.not_eq_false'] at e3 e4
      have hw4 : IntKind.i64.wrap ((i : Int) - 1) = ((i - 1 : Nat) : Int) := by rw [wrap_id (by omega) (by omega)]; omega
      simp only [hw4, Int.toNat_natCast]
      refine ⟨⟨by omega, by omega⟩, ⟨by omega, by omega⟩, fun e6 => bad ik ?_, fun e6 => ⟨⟨by omega, by omega⟩, ⟨by omega, by omega⟩, fun e7 => bad ik ?_, fun e7 => ?_⟩⟩
      · simp only [decide_eq_true_eq] at e6
        have h0 : i ≠ 0 := by omega
        have h6 : ¬ T (i - 1) 0 < T i 0 := by omega
        simp [okA, h0, h6]
      · simp only [decide_eq_true_eq] at e7
        have h0 : i ≠ 0 := by omega
        have h6 : ¬ H (i - 1) 0 ≤ H i 0 := by omega
        simp [okA, h0, h6]
      · simp only [decide_eq_false_iff_not] at e6 e7
        refine ⟨⟨i + 1, by omega, fun j hj => ?_⟩, by simp only []; omega, ?_⟩
        · rcases Nat.lt_or_ge j i with h | h
          · exact h3 j h
          · obtain rfl : j = i := by omega
            have h6 : T (j - 1) 0 < T j 0 := by omega
            have h7 : H (j - 1) 0 ≤ H j 0 := by omega
            simp [okA, e3, e4, h6, h7]
        · apply sub_of <;> simp only [hw3, go_sem, ↓reduceIte, Nat.reduceAdd, Nat.reduceSub, Nat.reduceMul, Nat.reduceEqDiff, Nat.reduceLT, Nat.reduceLeDiff, Int.reduceToNat, Int.reduceLE, Int.reduceLT, Int.reduceEq, Int.reduceNeg, reduceCtorEq] <;> (try simp)
    · simp only [decide_eq_false_iff_not] at e5
      simp only [Bool.not_eq_false'] at e3 e4
      obtain rfl : i = 0 := by omega
      refine ⟨⟨1, by omega, fun j hj => ?_⟩, by simp only []; omega, ?_⟩
      · obtain rfl : j = 0 := by omega
        simp [okA, e3, e4]
      · apply sub_of <;> simp only [hw3, go_sem, ↓reduceIte, Nat.reduceAdd, Nat.reduceSub, Nat.reduceMul, Nat.reduceEqDiff, Nat.reduceLT, Nat.reduceLeDiff, Int.reduceToNat, Int.reduceLE, Int.reduceLT, Int.reduceEq, Int.reduceNeg, reduceCtorEq] <;> (try simp)
  · simp only [decide_eq_false_iff_not] at e1
    congr 1
    exact (allU_iff.2 fun j hj => h3 j (by omega)).symm
def tempBase : BaseF := fun args => match args with
  | [.agg [.int .i64 R, .row n sz_T f_T, .row m sz_H f_H, .int .i64 bl, .int .i64 bh], .int .i64 t] => some ((sz_T = 1 ∧ IntR n 1 f_T) ∧ (sz_H = 1 ∧ IntR m 1 f_H) ∧ (1 ≤ n ∧ n ≤ 1000000), .bool (in3 t ((ivf f_T) 0 0) ((ivf f_T) (n - 1) 0)))
  | _ => none
theorem temp_eq (R : Int) (n : Nat) (sz_T : Nat) (f_T : Nat → Nat → SV) (m : Nat) (sz_H : Nat) (f_H : Nat → Nat → SV) (bl : Int) (bh : Int) (t : Int) : tempBase [.agg [.int .i64 R, .row n sz_T f_T, .row m sz_H f_H, .int .i64 bl, .int .i64 bh], .int .i64 t] = some ((sz_T = 1 ∧ IntR n 1 f_T) ∧ (sz_H = 1 ∧ IntR m 1 f_H) ∧ (1 ≤ n ∧ n ≤ 1000000), .bool (in3 t ((ivf f_T) 0 0) ((ivf f_T) (n - 1) 0))) := rfl
theorem temp_base : Base Try.prog 29 tempBase := by
  intro args p v hq hp
  unfold tempBase at hq
  split at hq
  rotate_left
  · cases hq
  rename_i R n sz_T f_T m sz_H f_H bl bh t
  cases hq
  obtain ⟨⟨rfl, i_T⟩, ⟨rfl, i_H⟩, pre⟩ := hp
  refine base_of (C := cx [] [] [(49, inBase)] [(29, 1, p29_1)] none) (cx_ok trivial ⟨in_base, trivial⟩) rfl (g := 29) (fn := Try.f29)
    (args' := [.agg [.int .i64 R, .row n 1 (rowF .i64 (ivf f_T)), .row m 1 (rowF .i64 (ivf f_H)), .int .i64 bl, .int .i64 bh], .int .i64 t]) (fn_29) rfl 1000 (by
    simp only [BdL, Bd, and_self, and_true, true_and]
    exact ⟨(fun i j hi hj => by rw [i_T i j hi hj]; trivial), (fun i j hi hj => by rw [i_H i j hi hj]; trivial)⟩) ⟨SameD.agg ⟨SameD.rfl' _, SameD.int i_T, SameD.int i_H, SameD.rfl' _, SameD.rfl' _, trivial⟩, SameD.rfl' _, trivial⟩ ?_
  generalize ivf f_T = T at *
  generalize ivf f_H = H at *
  simp only [rowF_eq]
  simp only [in_eq, p29_1, Try.f29, go_sem, ↓reduceIte, Nat.reduceAdd, Nat.reduceSub, Nat.reduceMul, Nat.reduceEqDiff, Nat.reduceLT, Nat.reduceLeDiff, Int.reduceToNat, Int.reduceLE, Int.reduceLT, Int.reduceEq, Int.reduceNeg, reduceCtorEq]
  have hw : IntKind.i64.wrap ((n : Int) - 1) = ((n - 1 : Nat) : Int) := by rw [wrap_id (by omega) (by omega)]; omega
  rw [hw]
  exact ⟨⟨by kernel_rfl, by kernel_rfl⟩, by omega, ⟨by omega, by omega⟩, rfl⟩
def isColdBase : BaseF := fun args => match args with
  | [.rptr sz_1 c_1, .int .i64 t] => (match c_1 0, c_1 1, c_1 2, c_1 3, c_1 4 with | .int .i64 R, .row n sz_T f_T, .row m sz_H f_H, .int .i64 bl, .int .i64 bh => some ((sz_1 = 5) ∧ (sz_T = 1 ∧ IntR n 1 f_T) ∧ (sz_H = 1 ∧ IntR m 1 f_H) ∧ (1 ≤ n ∧ n ≤ 1000000), .bool (in3 t ((ivf f_T) 0 0) ((ivf f_T) (n - 1) 0))) | _, _, _, _, _ => none)
  | _ => none
theorem isCold_eq (sz_1 : Nat) (c_1 : Nat → SV) (t : Int) : isColdBase [.rptr sz_1 c_1, .int .i64 t] = (match c_1 0, c_1 1, c_1 2, c_1 3, c_1 4 with | .int .i64 R, .row n sz_T f_T, .row m sz_H f_H, .int .i64 bl, .int .i64 bh => some ((sz_1 = 5) ∧ (sz_T = 1 ∧ IntR n 1 f_T) ∧ (sz_H = 1 ∧ IntR m 1 f_H) ∧ (1 ≤ n ∧ n ≤ 1000000), .bool (in3 t ((ivf f_T) 0 0) ((ivf f_T) (n - 1) 0))) | _, _, _, _, _ => none) := rfl
theorem isCold_base : Base Try.prog 33 isColdBase := by
  intro args p v hq hp
  unfold isColdBase at hq
  split at hq
  rotate_left
  · cases hq
  rename_i sz_1 c_1 t
  split at hq
  rotate_left
  · cases hq
  rename_i R n sz_T f_T m sz_H f_H bl bh h_1_0 h_1_1 h_1_2 h_1_3 h_1_4
  cases hq
  obtain ⟨rfl, ⟨rfl, i_T⟩, ⟨rfl, i_H⟩, pre⟩ := hp
  refine base_of (C := cx [] [] [(47, in2Base)] [(33, 1, p33_1)] none) (cx_ok trivial ⟨in2_base, trivial⟩) rfl (g := 33) (fn := Try.f33)
    (args' := [.rptr 5 (fun j => nth [.int .i64 R, .row n 1 (rowF .i64 (ivf f_T)), .row m 1 (rowF .i64 (ivf f_H)), .int .i64 bl, .int .i64 bh] j), .int .i64 t]) (fn_33) rfl 1000 (by
    simp only [BdL, Bd, and_self, and_true, true_and]
    exact (fun j hj => by
      have hj : j = 0 ∨ j = 1 ∨ j = 2 ∨ j = 3 ∨ j = 4 := by omega
      rcases hj with rfl | rfl | rfl | rfl | rfl
      · rw [h_1_0]; simp only [BdL, Bd, and_self, and_true, true_and]
      · rw [h_1_1]; simp only [BdL, Bd, and_self, and_true, true_and]; exact (fun i j hi hj => by rw [i_T i j hi hj]; trivial)
      · rw [h_1_2]; simp only [BdL, Bd, and_self, and_true, true_and]; exact (fun i j hi hj => by rw [i_H i j hi hj]; trivial)
      · rw [h_1_3]; simp only [BdL, Bd, and_self, and_true, true_and]
      · rw [h_1_4]; simp only [BdL, Bd, and_self, and_true, true_and])) ⟨SameD.rptr (fun j hj => by
      have hj : j = 0 ∨ j = 1 ∨ j = 2 ∨ j = 3 ∨ j = 4 := by omega
      rcases hj with rfl | rfl | rfl | rfl | rfl
      · rw [h_1_0]; exact SameD.rfl' _
      · rw [h_1_1]; exact SameD.int i_T
      · rw [h_1_2]; exact SameD.int i_H
      · rw [h_1_3]; exact SameD.rfl' _
      · rw [h_1_4]; exact SameD.rfl' _), SameD.rfl' _, trivial⟩ ?_
  generalize ivf f_T = T at *
  generalize ivf f_H = H at *
  simp only [rowF_eq]
  simp only [in2_eq, p33_1, Try.f33, go_sem, ↓reduceIte, Nat.reduceAdd, Nat.reduceSub, Nat.reduceMul, Nat.reduceEqDiff, Nat.reduceLT, Nat.reduceLeDiff, Int.reduceToNat, Int.reduceLE, Int.reduceLT, Int.reduceEq, Int.reduceNeg, reduceCtorEq]
  have hw : IntKind.i64.wrap ((n : Int) - 1) = ((n - 1 : Nat) : Int) := by rw [wrap_id (by omega) (by omega)]; omega
  rw [hw]
  exact ⟨⟨by kernel_rfl, by kernel_rfl⟩, by omega, ⟨by omega, by omega⟩, rfl⟩
end Go.Eng
end

/- air: steps, and the program's checks. -/
section
namespace Go.Eng
open Go Go.RowKit Go.Proofs
set_option maxRecDepth 100000
set_option maxHeartbeats 4000000
attribute [local irreducible] OwnT DefS
def okS (lo hi : Int) (s : Nat → Int) : Bool := in3 (s 0) lo hi && (in3 (s 1) 0 16384 && (in3 (s 2) 0 1000 && (sp3 (s 3) (s 4) 100000 && (sp3 (s 5) (s 6) 68719476736 && in3 (s 7) 0 68719476736))))
def stepsB (lo hi : Int) (k : Nat) (l : Nat → Nat → Int) : Bool := decide (k ≤ 200) && allU (fun i => okS lo hi (l i)) k
def validB (R : Int) (n m : Nat) (T H : Nat → Nat → Int) (bl bh wl wh : Int) (k : Nat) (l : Nat → Nat → Int) : Bool := airB R n m T H bl bh && (sp3 wl wh 274877906944 && stepsB (T 0 0) (T (n - 1) 0) k l)
def stepsBase : BaseF := fun args => match args with
  | [.agg [.int .i64 R, .row n sz_T f_T, .row m sz_H f_H, .int .i64 bl, .int .i64 bh], .row k sz_l f_l] => some ((sz_T = 1 ∧ IntR n 1 f_T) ∧ (sz_H = 1 ∧ IntR m 1 f_H) ∧ (sz_l = 8 ∧ IntR k 8 f_l) ∧ (1 ≤ n ∧ n ≤ 1000000), .bool (stepsB ((ivf f_T) 0 0) ((ivf f_T) (n - 1) 0) k (ivf f_l)))
  | _ => none
theorem steps_eq (R : Int) (n : Nat) (sz_T : Nat) (f_T : Nat → Nat → SV) (m : Nat) (sz_H : Nat) (f_H : Nat → Nat → SV) (bl : Int) (bh : Int) (k : Nat) (sz_l : Nat) (f_l : Nat → Nat → SV) : stepsBase [.agg [.int .i64 R, .row n sz_T f_T, .row m sz_H f_H, .int .i64 bl, .int .i64 bh], .row k sz_l f_l] = some ((sz_T = 1 ∧ IntR n 1 f_T) ∧ (sz_H = 1 ∧ IntR m 1 f_H) ∧ (sz_l = 8 ∧ IntR k 8 f_l) ∧ (1 ≤ n ∧ n ≤ 1000000), .bool (stepsB ((ivf f_T) 0 0) ((ivf f_T) (n - 1) 0) k (ivf f_l))) := rfl
theorem steps_base : Base Try.prog 55 stepsBase := by
  intro args p v hq hp
  unfold stepsBase at hq
  split at hq
  rotate_left
  · cases hq
  rename_i R n sz_T f_T m sz_H f_H bl bh k sz_l f_l
  cases hq
  obtain ⟨⟨rfl, i_T⟩, ⟨rfl, i_H⟩, ⟨rfl, i_l⟩, pre⟩ := hp
  refine base_of (C := cx [] [] [(29, tempBase), (49, inBase), (54, spanVBase)] [] none) (cx_ok trivial ⟨temp_base, in_base, spanV_base, trivial⟩) rfl (g := 55) (fn := Try.f55)
    (args' := [.agg [.int .i64 R, .row n 1 (rowF .i64 (ivf f_T)), .row m 1 (rowF .i64 (ivf f_H)), .int .i64 bl, .int .i64 bh], .row k 8 (rowF .i64 (ivf f_l))]) (fn_55) rfl 1000 (by
    simp only [BdL, Bd, and_self, and_true, true_and]
    exact ⟨⟨(fun i j hi hj => by rw [i_T i j hi hj]; trivial), (fun i j hi hj => by rw [i_H i j hi hj]; trivial)⟩, (fun i j hi hj => by rw [i_l i j hi hj]; trivial)⟩) ⟨SameD.agg ⟨SameD.rfl' _, SameD.int i_T, SameD.int i_H, SameD.rfl' _, SameD.rfl' _, trivial⟩, SameD.int i_l, trivial⟩ ?_
  generalize ivf f_T = T at *
  generalize ivf f_H = H at *
  generalize ivf f_l = l at *
  simp only [rowF_eq]
  simp only [temp_eq, in_eq, spanV_eq, Try.f55, go_sem, ↓reduceIte, Nat.reduceAdd, Nat.reduceSub, Nat.reduceMul, Nat.reduceEqDiff, Nat.reduceLT, Nat.reduceLeDiff, Int.reduceToNat, Int.reduceLE, Int.reduceLT, Int.reduceEq, Int.reduceNeg, reduceCtorEq]
  refine loop_ofH { i : Nat // i ≤ k ∧ i ≤ 201 ∧ ∀ j, j < i → okS (T 0 0) (T (n - 1) 0) (l j) = true } (fun i => [(5, .int .i64 (i.1 : Int)), (2, .ptr 0 0), (1, .row k 8 fun i j => .int .i64 (l i j))]) (fun h _ => h) (fun i => k - i.1) (fun _ => ⟨rfl, rfl⟩) ⟨0, by omega, by omega, by omega⟩ (by (apply sub_of <;> simp only [go_sem, ↓reduceIte, Nat.reduceAdd, Nat.reduceSub, Nat.reduceMul, Nat.reduceEqDiff, Nat.reduceLT, Nat.reduceLeDiff, Int.reduceToNat, Int.reduceLE, Int.reduceLT, Int.reduceEq, Int.reduceNeg, reduceCtorEq] <;> (try simp [catF]) <;> (try exact fun j _ => Bd_nth (by simp [BdL, Bd]) j) <;> (try exact bd_setL (by simp [bdAs, BdL, Bd])))) ?_
  rintro ⟨i, hi, hi2, h3⟩
  simp only [temp_eq, in_eq, spanV_eq, Try.f55, go_sem, ↓reduceIte, Nat.reduceAdd, Nat.reduceSub, Nat.reduceMul, Nat.reduceEqDiff, Nat.reduceLT, Nat.reduceLeDiff, Int.reduceToNat, Int.reduceLE, Int.reduceLT, Int.reduceEq, Int.reduceNeg, reduceCtorEq]
  have hw3 : IntKind.i64.wrap ((i : Int) + 1) = ((i + 1 : Nat) : Int) := by rw [wrap_id (by omega) (by omega)]; omega
  have bad : i < k → okS (T 0 0) (T (n - 1) 0) (l i) = false → SV.bool false = .bool (stepsB (T 0 0) (T (n - 1) 0) k l) := fun hi h => by unfold stepsB; rw [allU_false (p := fun i => okS (T 0 0) (T (n - 1) 0) (l i)) hi h, Bool.and_false]
  refine ⟨fun e1 => ⟨fun e2 => ?_, fun e2 => ?_⟩, fun e1 => ?_⟩
  · simp only [decide_eq_true_eq] at e1 e2
    have ik : i < k := by omega
    refine ⟨⟨by omega, by omega⟩, pre, fun e3 => bad ik (by simp only [Bool.not_eq_true'] at e3; simp [okS, e3]), fun e3 => ⟨fun e4 => bad ik (by simp only [Bool.not_eq_true'] at e4; simp [okS, e4]), fun e4 => ⟨fun e5 => bad ik (by simp only [Bool.not_eq_true'] at e5; simp [okS, e5]), fun e5 => ⟨fun e6 => bad ik (by simp only [Bool.not_eq_true'] at e6; simp [okS, e6]), fun e6 => ⟨fun e7 => bad ik (by simp only [Bool.not_eq_true'] at e7; simp [okS, e7]), fun e7 => ⟨fun e8 => bad ik (by simp only [Bool.not_eq_true'] at e8; simp [okS, e8]), fun e8 => ?_⟩⟩⟩⟩⟩⟩
    refine ⟨⟨i + 1, by omega, by omega, fun j hj => ?_⟩, by simp only []; omega, ?_⟩
    · rcases Nat.lt_or_ge j i with h | h
      · exact h3 j h
      · obtain rfl : j = i := by omega
        simp only [Bool.not_eq_false'] at e3 e4 e5 e6 e7 e8
        simp [okS, e3, e4, e5, e6, e7, e8]
    · apply sub_of <;> simp only [hw3, go_sem, ↓reduceIte, Nat.reduceAdd, Nat.reduceSub, Nat.reduceMul, Nat.reduceEqDiff, Nat.reduceLT, Nat.reduceLeDiff, Int.reduceToNat, Int.reduceLE, Int.reduceLT, Int.reduceEq, Int.reduceNeg, reduceCtorEq] <;> (try simp) <;> (try exact fun j _ => Bd_nth (by simp [BdL, Bd]) j) <;> (try exact bd_setL (by simp [bdAs, BdL, Bd]))
  · simp only [decide_eq_false_iff_not] at e2
    congr 1
    have : ¬ k ≤ 200 := by omega
    simp [stepsB, this]
    omega
  · simp only [decide_eq_false_iff_not] at e1
    obtain rfl : i = k := by omega
    congr 1
    have := allU_iff.2 h3
    simp only [stepsB, this, Bool.and_true]
    simp
    omega
def validBase : BaseF := fun args => match args with
  | [.agg [.int .i64 R, .row n sz_T f_T, .row m sz_H f_H, .int .i64 bl, .int .i64 bh], .agg [.int .i64 wl, .int .i64 wh], .row k sz_l f_l] => some ((sz_T = 1 ∧ IntR n 1 f_T) ∧ (sz_H = 1 ∧ IntR m 1 f_H) ∧ (sz_l = 8 ∧ IntR k 8 f_l), .bool (validB R n m (ivf f_T) (ivf f_H) bl bh wl wh k (ivf f_l)))
  | _ => none
theorem valid_eq (R : Int) (n : Nat) (sz_T : Nat) (f_T : Nat → Nat → SV) (m : Nat) (sz_H : Nat) (f_H : Nat → Nat → SV) (bl : Int) (bh : Int) (wl : Int) (wh : Int) (k : Nat) (sz_l : Nat) (f_l : Nat → Nat → SV) : validBase [.agg [.int .i64 R, .row n sz_T f_T, .row m sz_H f_H, .int .i64 bl, .int .i64 bh], .agg [.int .i64 wl, .int .i64 wh], .row k sz_l f_l] = some ((sz_T = 1 ∧ IntR n 1 f_T) ∧ (sz_H = 1 ∧ IntR m 1 f_H) ∧ (sz_l = 8 ∧ IntR k 8 f_l), .bool (validB R n m (ivf f_T) (ivf f_H) bl bh wl wh k (ivf f_l))) := rfl
theorem valid_base : Base Try.prog 21 validBase := by
  intro args p v hq hp
  unfold validBase at hq
  split at hq
  rotate_left
  · cases hq
  rename_i R n sz_T f_T m sz_H f_H bl bh wl wh k sz_l f_l
  cases hq
  obtain ⟨⟨rfl, i_T⟩, ⟨rfl, i_H⟩, ⟨rfl, i_l⟩⟩ := hp
  refine base_of (C := cx [] [] [(28, airBase), (54, spanVBase), (55, stepsBase)] [] none) (cx_ok trivial ⟨air_base, spanV_base, steps_base, trivial⟩) rfl (g := 21) (fn := Try.f21)
    (args' := [.agg [.int .i64 R, .row n 1 (rowF .i64 (ivf f_T)), .row m 1 (rowF .i64 (ivf f_H)), .int .i64 bl, .int .i64 bh], .agg [.int .i64 wl, .int .i64 wh], .row k 8 (rowF .i64 (ivf f_l))]) (fn_21) rfl 1000 (by
    simp only [BdL, Bd, and_self, and_true, true_and]
    exact ⟨⟨(fun i j hi hj => by rw [i_T i j hi hj]; trivial), (fun i j hi hj => by rw [i_H i j hi hj]; trivial)⟩, (fun i j hi hj => by rw [i_l i j hi hj]; trivial)⟩) ⟨SameD.agg ⟨SameD.rfl' _, SameD.int i_T, SameD.int i_H, SameD.rfl' _, SameD.rfl' _, trivial⟩, SameD.rfl' _, SameD.int i_l, trivial⟩ ?_
  generalize ivf f_T = T
  generalize ivf f_H = H
  generalize ivf f_l = l
  simp only [rowF_eq]
  simp only [air_eq, spanV_eq, steps_eq, Try.f21, go_sem, ↓reduceIte, Nat.reduceAdd, Nat.reduceSub, Nat.reduceMul, Nat.reduceEqDiff, Nat.reduceLT, Nat.reduceLeDiff, Int.reduceToNat, Int.reduceLE, Int.reduceLT, Int.reduceEq, Int.reduceNeg, reduceCtorEq]
  refine ⟨fun c1 => ⟨fun c2 => ⟨?_, ?_⟩, fun c2 => ?_⟩, fun c1 => ?_⟩
  · have := airB_iff.1 c1; omega
  · simp only [validB, c2, Bool.true_and]; rw [show airB R n m T H bl bh = true from c1]; rfl
  · simp only [validB, c2, Bool.false_and, Bool.and_false]
  · simp only [validB]; rw [show airB R n m T H bl bh = false from c1]; rfl
theorem def56_none (h : HS) (e : Nat) : DefS Try.prog 56 [.ptr e 0] none h (fun p' h' => p' = none ∧ h' = h) := by
  refine defS_of_run (C := cx [] [] [] [] (some [])) (cx_ok trivial trivial) (g := 56) (fn := Try.f56) fn_56 rfl rfl rfl 1000 1000 ?_
  simp only [Try.f56, go_sem, ↓reduceIte, Nat.reduceAdd, Nat.reduceSub, Nat.reduceMul, Nat.reduceEqDiff, Nat.reduceLT, Nat.reduceLeDiff, Int.reduceToNat, Int.reduceLE, Int.reduceLT, Int.reduceEq, Int.reduceNeg, reduceCtorEq]
theorem setB_last : ∀ (l : List Blk) (a b : Blk), setB (snocB l a) (lenB l) b = snocB l b
  | [], _, _ => rfl
  | x :: l, a, b => by simp [setB, snocB, lenB, setB_last l a b]
theorem def56_some (h : HS) (e : Nat) (k : Bool) (he : getB h.blks e = .live 4 [.bool k]) : DefS Try.prog 56 [.ptr e 0] (some (.iface 93 (.agg []))) h (fun p' h' => p' = none ∧ h' = { h with blks := setB (snocB h.blks (.live 93 [])) e (.live 4 [.bool false]) }) := by
  have hlt := getB_lt he
  have ha : ∀ b, getB (snocB h.blks b) (lenB h.blks) = b := fun b => by simp [getB_snoc]
  have hb : ∀ b, getB (snocB h.blks b) e = .live 4 [.bool k] := fun b => by rw [getB_snoc, if_neg (by omega), he]
  refine defS_of_run (C := cx [] [] [] [] (some [])) (cx_ok trivial trivial) (g := 56) (fn := Try.f56) fn_56 rfl rfl rfl 1000 1000 ?_
  simp only [Try.f56, he, ha, hb, setB_last, go_sem, ↓reduceIte, Nat.reduceAdd, Nat.reduceSub, Nat.reduceMul, Nat.reduceEqDiff, Nat.reduceLT, Nat.reduceLeDiff, Int.reduceToNat, Int.reduceLE, Int.reduceLT, Int.reduceEq, Int.reduceNeg, reduceCtorEq]
def areValidBase : BaseF := fun args => match args with
  | [.rptr sz_1 c_1, .agg [.int .i64 wl, .int .i64 wh], .row k sz_l f_l] => (match c_1 0, c_1 1, c_1 2, c_1 3, c_1 4 with | .int .i64 R, .row n sz_T f_T, .row m sz_H f_H, .int .i64 bl, .int .i64 bh => some ((sz_1 = 5) ∧ (sz_T = 1 ∧ IntR n 1 f_T) ∧ (sz_H = 1 ∧ IntR m 1 f_H) ∧ ((sz_l = 8 ∨ k = 0) ∧ IntR k 8 f_l), .bool (validB R n m (ivf f_T) (ivf f_H) bl bh wl wh k (ivf f_l))) | _, _, _, _, _ => none)
  | _ => none
theorem areValid_eq (sz_1 : Nat) (c_1 : Nat → SV) (wl : Int) (wh : Int) (k : Nat) (sz_l : Nat) (f_l : Nat → Nat → SV) : areValidBase [.rptr sz_1 c_1, .agg [.int .i64 wl, .int .i64 wh], .row k sz_l f_l] = (match c_1 0, c_1 1, c_1 2, c_1 3, c_1 4 with | .int .i64 R, .row n sz_T f_T, .row m sz_H f_H, .int .i64 bl, .int .i64 bh => some ((sz_1 = 5) ∧ (sz_T = 1 ∧ IntR n 1 f_T) ∧ (sz_H = 1 ∧ IntR m 1 f_H) ∧ ((sz_l = 8 ∨ k = 0) ∧ IntR k 8 f_l), .bool (validB R n m (ivf f_T) (ivf f_H) bl bh wl wh k (ivf f_l))) | _, _, _, _, _ => none) := rfl
theorem areValid_base : Base Try.prog 32 areValidBase := by
  intro args p v hq hp
  unfold areValidBase at hq
  split at hq
  rotate_left
  · cases hq
  rename_i sz_1 c_1 wl wh k sz_l f_l
  split at hq
  rotate_left
  · cases hq
  rename_i R n sz_T f_T m sz_H f_H bl bh h_1_0 h_1_1 h_1_2 h_1_3 h_1_4
  cases hq
  obtain ⟨rfl, ⟨rfl, i_T⟩, ⟨rfl, i_H⟩, ⟨z_l, i_l⟩⟩ := hp
  refine ⟨(by
    simp only [BdL, Bd, and_self, and_true, true_and]
    exact ⟨(fun j hj => by
      have hj : j = 0 ∨ j = 1 ∨ j = 2 ∨ j = 3 ∨ j = 4 := by omega
      rcases hj with rfl | rfl | rfl | rfl | rfl
      · rw [h_1_0]; simp only [BdL, Bd, and_self, and_true, true_and]
      · rw [h_1_1]; simp only [BdL, Bd, and_self, and_true, true_and]; exact (fun i j hi hj => by rw [i_T i j hi hj]; trivial)
      · rw [h_1_2]; simp only [BdL, Bd, and_self, and_true, true_and]; exact (fun i j hi hj => by rw [i_H i j hi hj]; trivial)
      · rw [h_1_3]; simp only [BdL, Bd, and_self, and_true, true_and]
      · rw [h_1_4]; simp only [BdL, Bd, and_self, and_true, true_and]), (fun i j hi hj => by
      rcases z_l with rfl | rfl
      · rw [i_l i j hi hj]; trivial
      · omega)⟩), calls_mono (fun _ _ ⟨u, e1, e2, e3⟩ => ⟨u, e1, e2, by rw [e3]; exact SameD.rfl' _⟩) (calls_congr (args' := [.rptr 5 (fun j => nth [.int .i64 R, .row n 1 (rowF .i64 (ivf f_T)), .row m 1 (rowF .i64 (ivf f_H)), .int .i64 bl, .int .i64 bh] j), .agg [.int .i64 wl, .int .i64 wh], .row k 8 (rowF .i64 (ivf f_l))]) ⟨SameD.rptr (fun j hj => by
      have hj : j = 0 ∨ j = 1 ∨ j = 2 ∨ j = 3 ∨ j = 4 := by omega
      rcases hj with rfl | rfl | rfl | rfl | rfl
      · rw [h_1_0]; exact SameD.rfl' _
      · rw [h_1_1]; exact SameD.int i_T
      · rw [h_1_2]; exact SameD.int i_H
      · rw [h_1_3]; exact SameD.rfl' _
      · rw [h_1_4]; exact SameD.rfl' _), SameD.rfl' _, SameD.intN z_l i_l, trivial⟩ (calls_of_defer (C := cx [] [] [(33, isColdBase), (47, in2Base), (59, isSpanBase)] [(57, 6, p57_6)] (some [6])) (cx_ok trivial ⟨isCold_base, in2_base, isSpan_base, trivial⟩) (g := 32) (fn := Try.f32) (fn_32) rfl rfl
    (args := [.rptr 5 (fun j => nth [.int .i64 R, .row n 1 (rowF .i64 (ivf f_T)), .row m 1 (rowF .i64 (ivf f_H)), .int .i64 bl, .int .i64 bh] j), .agg [.int .i64 wl, .int .i64 wh], .row k 8 (rowF .i64 (ivf f_l))]) (K := fun o h' => ∃ u, o = .ret u ∧ Fl u ∧ u = .bool (validB R n m (ivf f_T) (ivf f_H) bl bh wl wh k (ivf f_l))) 1000 1000 ?_))⟩
  generalize ivf f_T = T
  generalize ivf f_H = H
  generalize ivf f_l = l
  simp only [rowF_eq]
  simp only [isCold_eq, in2_eq, isSpan_eq, p57_6, Try.f57, Try.f58, Try.f60, Try.f32, go_sem, ↓reduceIte, Nat.reduceAdd, Nat.reduceSub, Nat.reduceMul, Nat.reduceEqDiff, Nat.reduceLT, Nat.reduceLeDiff, Int.reduceToNat, Int.reduceLE, Int.reduceLT, Int.reduceEq, Int.reduceNeg, reduceCtorEq]
  have out : validB R n m T H bl bh wl wh k l = false → ∀ {h : HS} {K : Option SV → HS → Prop}, getB h.blks 1 = .live 4 [.bool false] → K none { h with blks := setB (snocB h.blks (.live 93 [])) 1 (.live 4 [.bool false]) } → DefS Try.prog 56 [.ptr 1 0] (some (.iface 93 (.agg []))) h K := fun h {h'} {K} hg hK => defS_mono (def56_some h' 1 false hg) (fun p' h'' ⟨e1, e2⟩ => by rw [e1, e2]; exact hK)
  refine ⟨fun c1 => ⟨fun c2 => ⟨fun c3 => ⟨fun c4 => ?_, fun c4 => ?_⟩, fun c3 => ?_⟩, fun c2 => ?_⟩, fun c1 => ?_⟩
  · have hv : validB R n m T H bl bh wl wh k l = false := by simp at c4; simp [validB, airB, c4]
    refine out hv rfl ?_
    simp only [hv, go_sem, ↓reduceIte, Nat.reduceAdd, Nat.reduceSub, Nat.reduceMul, Nat.reduceEqDiff, Nat.reduceLT, Nat.reduceLeDiff, Int.reduceToNat, Int.reduceLE, Int.reduceLT, Int.reduceEq, Int.reduceNeg, reduceCtorEq]
  rotate_left
  · have hv : validB R n m T H bl bh wl wh k l = false := by simp at c3; simp [validB, airB, show ¬ m = n by omega]
    refine out hv rfl ?_
    simp only [hv, go_sem, ↓reduceIte, Nat.reduceAdd, Nat.reduceSub, Nat.reduceMul, Nat.reduceEqDiff, Nat.reduceLT, Nat.reduceLeDiff, Int.reduceToNat, Int.reduceLE, Int.reduceLT, Int.reduceEq, Int.reduceNeg, reduceCtorEq]
  · have hv : validB R n m T H bl bh wl wh k l = false := by simp [validB, airB, c2]
    refine out hv rfl ?_
    simp only [hv, go_sem, ↓reduceIte, Nat.reduceAdd, Nat.reduceSub, Nat.reduceMul, Nat.reduceEqDiff, Nat.reduceLT, Nat.reduceLeDiff, Int.reduceToNat, Int.reduceLE, Int.reduceLT, Int.reduceEq, Int.reduceNeg, reduceCtorEq]
  · have hv : validB R n m T H bl bh wl wh k l = false := by simp [validB, airB, c1]
    refine out hv rfl ?_
    simp only [hv, go_sem, ↓reduceIte, Nat.reduceAdd, Nat.reduceSub, Nat.reduceMul, Nat.reduceEqDiff, Nat.reduceLT, Nat.reduceLeDiff, Int.reduceToNat, Int.reduceLE, Int.reduceLT, Int.reduceEq, Int.reduceNeg, reduceCtorEq]
  simp only [Bool.not_eq_false', decide_eq_true_eq] at c1 c2 c3 c4
  obtain rfl : m = n := by omega
  have hn := in3_iff.1 c2
  have hA : airB R m m T H bl bh = allU (okA T H) m := by simp [airB, c1, c2, c4]
  refine loop_ofH { i : Nat // i ≤ m ∧ ∀ j, j < i → okA T H j = true } (fun i => [(36, .int .i64 (i.1 : Int)), (35, .int .i64 (m : Int)), (0, .rptr 5 fun j => nth [.int .i64 R, .row m 1 fun i j => .int .i64 (T i j), .row m 1 fun i j => .int .i64 (H i j), .int .i64 bl, .int .i64 bh] j)]) (fun h _ => h) (fun i => m - i.1) (fun _ => ⟨rfl, rfl⟩) ⟨0, by omega, by omega⟩ (by (apply sub_of <;> simp only [go_sem, ↓reduceIte, Nat.reduceAdd, Nat.reduceSub, Nat.reduceMul, Nat.reduceEqDiff, Nat.reduceLT, Nat.reduceLeDiff, Int.reduceToNat, Int.reduceLE, Int.reduceLT, Int.reduceEq, Int.reduceNeg, reduceCtorEq] <;> (try simp [catF]) <;> (try exact fun j _ => Bd_nth (by simp [BdL, Bd]) j) <;> (try exact bd_setL (by simp [bdAs, BdL, Bd])))) ?_
  rintro ⟨i, hi, h3⟩
  simp only [isCold_eq, in2_eq, isSpan_eq, p57_6, Try.f57, Try.f58, Try.f60, Try.f32, go_sem, ↓reduceIte, Nat.reduceAdd, Nat.reduceSub, Nat.reduceMul, Nat.reduceEqDiff, Nat.reduceLT, Nat.reduceLeDiff, Int.reduceToNat, Int.reduceLE, Int.reduceLT, Int.reduceEq, Int.reduceNeg, reduceCtorEq]
  have hw3 : IntKind.i64.wrap ((i : Int) + 1) = ((i + 1 : Nat) : Int) := by rw [wrap_id (by omega) (by omega)]; omega
  have bad : i < m → okA T H i = false → validB R m m T H bl bh wl wh k l = false := fun hi h => by simp only [validB, hA, allU_false hi h, Bool.false_and]
  refine ⟨fun e1 => ?_, fun e1 => ?_⟩
  · simp only [decide_eq_true_eq] at e1
    have ik : i < m := by omega
    refine ⟨⟨by omega, by omega⟩, fun e3 => ⟨⟨by omega, by omega⟩, fun e4 => ?_, fun e4 => ⟨⟨by kernel_rfl, by kernel_rfl⟩, fun e5 => ?_, fun e5 => ?_⟩⟩, fun e3 => ?_⟩
    · have hv := bad ik (by simp only [Bool.not_eq_true'] at e4; simp [okA, e4])
      refine out hv rfl ?_
      simp only [hv, go_sem, ↓reduceIte, Nat.reduceAdd, Nat.reduceSub, Nat.reduceMul, Nat.reduceEqDiff, Nat.reduceLT, Nat.reduceLeDiff, Int.reduceToNat, Int.reduceLE, Int.reduceLT, Int.reduceEq, Int.reduceNeg, reduceCtorEq]
    · simp only [decide_eq_true_eq] at e5
      simp only [Bool.not_eq_false'] at e3 e4
      obtain rfl : i = 0 := by omega
      refine ⟨⟨1, by omega, fun j hj => ?_⟩, by simp only []; omega, ?_⟩
      · obtain rfl : j = 0 := by omega
        simp [okA, e3, e4]
      · apply sub_of <;> simp only [hw3, go_sem, ↓reduceIte, Nat.reduceAdd, Nat.reduceSub, Nat.reduceMul, Nat.reduceEqDiff, Nat.reduceLT, Nat.reduceLeDiff, Int.reduceToNat, Int.reduceLE, Int.reduceLT, Int.reduceEq, Int.reduceNeg, reduceCtorEq] <;> (try simp) <;> (try exact fun j _ => Bd_nth (by simp [BdL, Bd]) j) <;> (try exact bd_setL (by simp [bdAs, BdL, Bd]))
    · simp only [decide_eq_false_iff_not] at e5
      simp only [Bool.not_eq_false'] at e3 e4
      have hw4 : IntKind.i64.wrap ((i : Int) - 1) = ((i - 1 : Nat) : Int) := by rw [wrap_id (by omega) (by omega)]; omega
      simp only [hw4, Int.toNat_natCast]
      refine ⟨⟨by omega, by omega⟩, ⟨by omega, by omega⟩, fun e6 => ⟨⟨by omega, by omega⟩, ⟨by omega, by omega⟩, fun e7 => ?_, fun e7 => ?_⟩, fun e6 => ?_⟩
      · simp only [Bool.not_eq_true', decide_eq_false_iff_not] at e7
        have h0 : i ≠ 0 := by omega
        have hv := bad ik (by simp [okA, h0, e7])
        refine out hv rfl ?_
        simp only [hv, go_sem, ↓reduceIte, Nat.reduceAdd, Nat.reduceSub, Nat.reduceMul, Nat.reduceEqDiff, Nat.reduceLT, Nat.reduceLeDiff, Int.reduceToNat, Int.reduceLE, Int.reduceLT, Int.reduceEq, Int.reduceNeg, reduceCtorEq]
      · simp only [Bool.not_eq_false', decide_eq_true_eq] at e6 e7
        refine ⟨⟨i + 1, by omega, fun j hj => ?_⟩, by simp only []; omega, ?_⟩
        · rcases Nat.lt_or_ge j i with h | h
          · exact h3 j h
          · obtain rfl : j = i := by omega
            simp [okA, e3, e4, e6, e7]
        · apply sub_of <;> simp only [hw3, go_sem, ↓reduceIte, Nat.reduceAdd, Nat.reduceSub, Nat.reduceMul, Nat.reduceEqDiff, Nat.reduceLT, Nat.reduceLeDiff, Int.reduceToNat, Int.reduceLE, Int.reduceLT, Int.reduceEq, Int.reduceNeg, reduceCtorEq] <;> (try simp) <;> (try exact fun j _ => Bd_nth (by simp [BdL, Bd]) j) <;> (try exact bd_setL (by simp [bdAs, BdL, Bd]))
      · simp only [decide_eq_false_iff_not] at e6
        have h0 : i ≠ 0 := by omega
        have hv := bad ik (by simp [okA, h0, e6])
        refine out hv rfl ?_
        simp only [hv, go_sem, ↓reduceIte, Nat.reduceAdd, Nat.reduceSub, Nat.reduceMul, Nat.reduceEqDiff, Nat.reduceLT, Nat.reduceLeDiff, Int.reduceToNat, Int.reduceLE, Int.reduceLT, Int.reduceEq, Int.reduceNeg, reduceCtorEq]
    · have hv := bad ik (by simp [okA, e3])
      refine out hv rfl ?_
      simp only [hv, go_sem, ↓reduceIte, Nat.reduceAdd, Nat.reduceSub, Nat.reduceMul, Nat.reduceEqDiff, Nat.reduceLT, Nat.reduceLeDiff, Int.reduceToNat, Int.reduceLE, Int.reduceLT, Int.reduceEq, Int.reduceNeg, reduceCtorEq]
  simp only [decide_eq_false_iff_not] at e1
  have hA2 : airB R m m T H bl bh = true := by
    rw [hA]
    exact allU_iff.2 fun j hj => h3 j (by omega)
  have hV : validB R m m T H bl bh wl wh k l = (sp3 wl wh 274877906944 && stepsB (T 0 0) (T (m - 1) 0) k l) := by simp only [validB, hA2, Bool.true_and]
  clear bad h3 hi hw3 e1 hA
  refine ⟨fun c5 => ?_, fun c5 => ⟨fun c6 => ?_, fun c6 => ?_⟩⟩
  · have hv : validB R m m T H bl bh wl wh k l = false := by simp at c5; simp [hV, c5]
    refine out hv rfl ?_
    simp only [hv, go_sem, ↓reduceIte, Nat.reduceAdd, Nat.reduceSub, Nat.reduceMul, Nat.reduceEqDiff, Nat.reduceLT, Nat.reduceLeDiff, Int.reduceToNat, Int.reduceLE, Int.reduceLT, Int.reduceEq, Int.reduceNeg, reduceCtorEq]
  · have hv : validB R m m T H bl bh wl wh k l = false := by simp at c6; simp [hV, stepsB, show ¬ k ≤ 200 by omega]
    refine out hv rfl ?_
    simp only [hv, go_sem, ↓reduceIte, Nat.reduceAdd, Nat.reduceSub, Nat.reduceMul, Nat.reduceEqDiff, Nat.reduceLT, Nat.reduceLeDiff, Int.reduceToNat, Int.reduceLE, Int.reduceLT, Int.reduceEq, Int.reduceNeg, reduceCtorEq]
  simp only [Bool.not_eq_false', decide_eq_true_eq] at c5 c6
  have hV2 : validB R m m T H bl bh wl wh k l = allU (fun i => okS (T 0 0) (T (m - 1) 0) (l i)) k := by simp [hV, stepsB, c5, show k ≤ 200 by omega]
  refine loop_ofH { i : Nat // i ≤ k ∧ ∀ j, j < i → okS (T 0 0) (T (m - 1) 0) (l j) = true } (fun i => [(12, .int .i64 (i.1 : Int)), (11, .int .i64 (k : Int)), (10, .row k 8 fun i j => .int .i64 (l i j)), (0, .rptr 5 fun j => nth [.int .i64 R, .row m 1 fun i j => .int .i64 (T i j), .row m 1 fun i j => .int .i64 (H i j), .int .i64 bl, .int .i64 bh] j)]) (fun h _ => h) (fun i => k - i.1) (fun _ => ⟨rfl, rfl⟩) ⟨0, by omega, by omega⟩ (by (apply sub_of <;> simp only [go_sem, ↓reduceIte, Nat.reduceAdd, Nat.reduceSub, Nat.reduceMul, Nat.reduceEqDiff, Nat.reduceLT, Nat.reduceLeDiff, Int.reduceToNat, Int.reduceLE, Int.reduceLT, Int.reduceEq, Int.reduceNeg, reduceCtorEq] <;> (try simp [catF]) <;> (try exact fun j _ => Bd_nth (by simp [BdL, Bd]) j) <;> (try exact bd_setL (by simp [bdAs, BdL, Bd])))) ?_
  rintro ⟨i, hi, h3⟩
  simp only [isCold_eq, in2_eq, isSpan_eq, p57_6, Try.f57, Try.f58, Try.f60, Try.f32, go_sem, ↓reduceIte, Nat.reduceAdd, Nat.reduceSub, Nat.reduceMul, Nat.reduceEqDiff, Nat.reduceLT, Nat.reduceLeDiff, Int.reduceToNat, Int.reduceLE, Int.reduceLT, Int.reduceEq, Int.reduceNeg, reduceCtorEq]
  have hw3 : IntKind.i64.wrap ((i : Int) + 1) = ((i + 1 : Nat) : Int) := by rw [wrap_id (by omega) (by omega)]; omega
  have bad : i < k → okS (T 0 0) (T (m - 1) 0) (l i) = false → validB R m m T H bl bh wl wh k l = false := fun hi h => by rw [hV2]; exact allU_false (p := fun i => okS (T 0 0) (T (m - 1) 0) (l i)) hi h
  refine ⟨fun e1 => ?_, fun e1 => ?_⟩
  · simp only [decide_eq_true_eq] at e1
    have ik : i < k := by omega
    refine ⟨⟨by omega, by omega⟩, ⟨by omega, by omega⟩, ?_⟩
    repeat' refine And.intro (fun _ => ?_) (fun _ => ?_)
    all_goals first
      | (have hv := bad ik (by simp_all [okS])
         refine out hv rfl ?_
         simp only [hv, go_sem, ↓reduceIte, Nat.reduceAdd, Nat.reduceSub, Nat.reduceMul, Nat.reduceEqDiff, Nat.reduceLT, Nat.reduceLeDiff, Int.reduceToNat, Int.reduceLE, Int.reduceLT, Int.reduceEq, Int.reduceNeg, reduceCtorEq])
      | skip
    refine ⟨⟨i + 1, by omega, fun j hj => ?_⟩, by simp only []; omega, ?_⟩
    · rcases Nat.lt_or_ge j i with h | h
      · exact h3 j h
      · obtain rfl : j = i := by omega
        simp_all [okS]
    · apply sub_of <;> simp only [hw3, go_sem, ↓reduceIte, Nat.reduceAdd, Nat.reduceSub, Nat.reduceMul, Nat.reduceEqDiff, Nat.reduceLT, Nat.reduceLeDiff, Int.reduceToNat, Int.reduceLE, Int.reduceLT, Int.reduceEq, Int.reduceNeg, reduceCtorEq] <;> (try simp) <;> (try exact fun j _ => Bd_nth (by simp [BdL, Bd]) j) <;> (try exact bd_setL (by simp [bdAs, BdL, Bd]))
  · simp only [decide_eq_false_iff_not] at e1
    have hv : validB R m m T H bl bh wl wh k l = true := by
      rw [hV2]
      exact allU_iff.2 fun j hj => h3 j (by omega)
    refine defS_mono (def56_none _ 1) ?_
    rintro p' h' ⟨rfl, rfl⟩
    simp only [hv, go_sem, ↓reduceIte, Nat.reduceAdd, Nat.reduceSub, Nat.reduceMul, Nat.reduceEqDiff, Nat.reduceLT, Nat.reduceLeDiff, Int.reduceToNat, Int.reduceLE, Int.reduceLT, Int.reduceEq, Int.reduceNeg, reduceCtorEq]
end Go.Eng
end

/- air: how much water the air holds. -/
section
namespace Go.Eng
open Go Go.RowKit Go.Proofs
set_option maxRecDepth 100000
set_option maxHeartbeats 4000000
attribute [local irreducible] OwnT DefS
/-- The first index from i on, among c, where t is reached. -/
def fstF (x : Nat → Int) (t : Int) : Nat → Nat → Nat
  | 0, i => i
  | c + 1, i => if t ≤ x i then i else fstF x t c (i + 1)
def fstT (n : Nat) (T : Nat → Nat → Int) (t : Int) : Nat := fstF (fun i => T i 0) t n 0
theorem fstF_eq {x : Nat → Int} {t : Int} : ∀ (c i k : Nat), i ≤ k → k ≤ i + c → (∀ j, i ≤ j → j < k → x j < t) → (k < i + c → t ≤ x k) → fstF x t c i = k
  | 0, i, k, h1, h2, _, _ => by simp only [fstF]; omega
  | c + 1, i, k, h1, h2, h3, h4 => by
    simp only [fstF]
    split
    · rename_i h
      rcases Nat.lt_or_ge i k with h5 | h5
      · have := h3 i (Nat.le_refl _) h5; omega
      · omega
    · rename_i h
      have : i ≠ k := fun e => by subst e; exact h (h4 (by omega))
      exact fstF_eq c (i + 1) k (by omega) (by omega) (fun j a b => h3 j (by omega) b) (fun a => h4 (by omega))
theorem fstT_eq {n k : Nat} {T : Nat → Nat → Int} {t : Int} (h1 : k ≤ n) (h2 : ∀ j, j < k → T j 0 < t) (h3 : k < n → t ≤ T k 0) : fstT n T t = k :=
  fstF_eq n 0 k (by omega) (by omega) (fun j _ hj => h2 j hj) (fun h => h3 (by omega))
theorem fstF_spec {x : Nat → Int} {t : Int} : ∀ (c i : Nat), i ≤ fstF x t c i ∧ fstF x t c i ≤ i + c ∧ (∀ j, i ≤ j → j < fstF x t c i → x j < t) ∧ (fstF x t c i < i + c → t ≤ x (fstF x t c i))
  | 0, i => by simp only [fstF]; exact ⟨Nat.le_refl _, Nat.le_refl _, fun j a b => by omega, fun a => by omega⟩
  | c + 1, i => by
    simp only [fstF]
    split
    · rename_i h; exact ⟨Nat.le_refl _, by omega, fun j a b => by omega, fun _ => h⟩
    · rename_i h
      obtain ⟨h1, h2, h3, h4⟩ := fstF_spec c (i + 1) (x := x) (t := t)
      refine ⟨by omega, by omega, fun j a b => ?_, fun a => h4 (by omega)⟩
      rcases Nat.lt_or_ge i j with h5 | h5
      · exact h3 j h5 b
      · obtain rfl : j = i := by omega
        omega
theorem fstT_spec {n : Nat} {T : Nat → Nat → Int} {t : Int} : fstT n T t ≤ n ∧ (∀ j, j < fstT n T t → T j 0 < t) ∧ (fstT n T t < n → t ≤ T (fstT n T t) 0) := by
  obtain ⟨_, h2, h3, h4⟩ := fstF_spec (x := fun i => T i 0) (t := t) n 0
  exact ⟨by unfold fstT; omega, fun j hj => h3 j (by omega) hj, fun h => h4 (by unfold fstT at h; omega)⟩
def upT (n : Nat) (T : Nat → Nat → Int) : Prop := ∀ i j, i ≤ j → j < n → T i 0 ≤ T j 0
theorem fstT_iff {n : Nat} {T : Nat → Nat → Int} {t : Int} (hu : upT n T) {i : Nat} (hi : i < n) : t ≤ T i 0 ↔ fstT n T t ≤ i := by
  obtain ⟨h1, h2, h3⟩ := fstT_spec (n := n) (T := T) (t := t)
  constructor
  · intro h
    rcases Nat.lt_or_ge i (fstT n T t) with h4 | h4
    · have := h2 i h4; omega
    · exact h4
  · intro h
    have := h3 (by omega)
    have := hu _ i h hi
    omega
theorem airB_up {R : Int} {n m : Nat} {T H : Nat → Nat → Int} {bl bh : Int} (h : airB R n m T H bl bh = true) : (∀ d i, i + d < n → T i 0 + d ≤ T (i + d) 0) ∧ (∀ d i, i + d < n → H i 0 ≤ H (i + d) 0) := by
  have hA := (airB_iff.1 h).2
  constructor
  · intro d
    induction d with
    | zero => intro i hi; simp
    | succ d ih =>
      intro i hi
      have h1 := ih i (by omega)
      have h2 := hA (i + d + 1) (by omega)
      simp only [okA, Bool.and_eq_true, Bool.or_eq_true, decide_eq_true_eq, Nat.add_sub_cancel] at h2
      rw [show i + (d + 1) = i + d + 1 by omega]
      omega
  · intro d
    induction d with
    | zero => intro i hi; simp
    | succ d ih =>
      intro i hi
      have h1 := ih i (by omega)
      have h2 := hA (i + d + 1) (by omega)
      simp only [okA, Bool.and_eq_true, Bool.or_eq_true, decide_eq_true_eq, Nat.add_sub_cancel] at h2
      rw [show i + (d + 1) = i + d + 1 by omega]
      omega
theorem airB_upT {R : Int} {n m : Nat} {T H : Nat → Nat → Int} {bl bh : Int} (h : airB R n m T H bl bh = true) : upT n T := fun i j hij hj => by
  have := (airB_up h).1 (j - i) i (by omega)
  rw [show i + (j - i) = j by omega] at this
  omega
theorem airB_at {R : Int} {n m : Nat} {T H : Nat → Nat → Int} {bl bh : Int} (h : airB R n m T H bl bh = true) {i : Nat} (hi : i < n) : (-500 ≤ T i 0 ∧ T i 0 ≤ 500) ∧ 1 ≤ H i 0 ∧ H i 0 ≤ 100000 := by
  have := (airB_iff.1 h).2 i hi
  simp only [okA, Bool.and_eq_true, in3_iff] at this
  exact ⟨this.1.1, this.1.2⟩
def holdV (R : Int) (n : Nat) (T H : Nat → Nat → Int) (t : Int) : Int :=
  if T (fstT n T t) 0 = t then H (fstT n T t) 0 * R
  else (H (fstT n T t - 1) 0 + (H (fstT n T t) 0 - H (fstT n T t - 1) 0) * (t - T (fstT n T t - 1) 0) / (T (fstT n T t) 0 - T (fstT n T t - 1) 0)) * R
/-- Where a temperature lies. -/
theorem fst_in {R : Int} {n m : Nat} {T H : Nat → Nat → Int} {bl bh t : Int} (h : airB R n m T H bl bh = true) (ht : in3 t (T 0 0) (T (n - 1) 0) = true) :
    fstT n T t < n ∧ (T (fstT n T t) 0 ≠ t → 0 < fstT n T t ∧ T (fstT n T t - 1) 0 < t ∧ t < T (fstT n T t) 0) := by
  have hn := (airB_iff.1 h).1.2.2.1
  have ht := in3_iff.1 ht
  obtain ⟨h1, h2, h3⟩ := fstT_spec (n := n) (T := T) (t := t)
  have h4 : fstT n T t < n := by
    rcases Nat.lt_or_ge (fstT n T t) n with h5 | h5
    · exact h5
    · have := h2 (n - 1) (by omega); omega
  refine ⟨h4, fun hne => ?_⟩
  have h5 := h3 h4
  have h6 : 0 < fstT n T t := by
    rcases Nat.eq_zero_or_pos (fstT n T t) with h7 | h7
    · rw [h7] at hne h5; omega
    · exact h7
  have := h2 (fstT n T t - 1) (by omega)
  exact ⟨h6, this, by omega⟩
theorem wrapu_id {x : Int} (h1 : 0 ≤ x) (h2 : x ≤ 9223372036854775807) : IntKind.u64.wrap x = x := by
  simp [IntKind.wrap, IntKind.signed, IntKind.bits]
  omega
theorem mid_eq {i j : Nat} (h : i + j ≤ 1000000000000) : IntKind.i64.wrap ((IntKind.u64.wrap (IntKind.i64.wrap ((i : Int) + (j : Int)))).fdiv (2 ^ min 1 64)) = (((i + j) / 2 : Nat) : Int) := by
  rw [wrap_id (x := (i : Int) + j) (by omega) (by omega), wrapu_id (by omega) (by omega)]
  have e : (2 : Int) ^ min 1 64 = 2 := by decide
  rw [e, Int.fdiv_eq_ediv_of_nonneg _ (by omega), wrap_id (by omega) (by omega)]
  omega
theorem holdV_bd {R : Int} {n m : Nat} {T H : Nat → Nat → Int} {bl bh t : Int} (h : airB R n m T H bl bh = true) (ht : in3 t (T 0 0) (T (n - 1) 0) = true) :
    ∃ v, holdV R n T H t = v * R ∧ 1 ≤ v ∧ v ≤ 100000 ∧ 1 ≤ R ∧ R ≤ 1048576 ∧ 1 ≤ holdV R n T H t ∧ holdV R n T H t ≤ 104857600000 := by
  obtain ⟨h1, h2⟩ := fst_in h ht
  have hR := (airB_iff.1 h).1.1
  have key : ∀ v : Int, 1 ≤ v → v ≤ 100000 → 1 ≤ v * R ∧ v * R ≤ 104857600000 := fun v a b => by
    have c1 := Int.mul_le_mul a hR.1 (by omega) (by omega)
    have c2 := Int.mul_le_mul b hR.2 (by omega) (by omega)
    omega
  unfold holdV
  split
  · have := airB_at h h1
    have := key _ this.2.1 this.2.2
    exact ⟨_, rfl, by omega, by omega, hR.1, hR.2, this.1, this.2⟩
  · rename_i hne
    obtain ⟨k1, k2, k3⟩ := h2 hne
    have a1 := airB_at h h1
    have a2 := airB_at h (i := fstT n T t - 1) (by omega)
    have a3 := (airB_up h).2 1 (fstT n T t - 1) (by omega)
    rw [show fstT n T t - 1 + 1 = fstT n T t by omega] at a3
    have d0 := Int.ediv_nonneg (a := (H (fstT n T t) 0 - H (fstT n T t - 1) 0) * (t - T (fstT n T t - 1) 0)) (b := T (fstT n T t) 0 - T (fstT n T t - 1) 0) (Int.mul_nonneg (by omega) (by omega)) (by omega)
    have d1 : (H (fstT n T t) 0 - H (fstT n T t - 1) 0) * (t - T (fstT n T t - 1) 0) / (T (fstT n T t) 0 - T (fstT n T t - 1) 0) ≤ H (fstT n T t) 0 - H (fstT n T t - 1) 0 := by
      apply Int.ediv_le_of_le_mul (by omega)
      exact Int.mul_le_mul_of_nonneg_left (by omega) (by omega)
    have := key (H (fstT n T t - 1) 0 + (H (fstT n T t) 0 - H (fstT n T t - 1) 0) * (t - T (fstT n T t - 1) 0) / (T (fstT n T t) 0 - T (fstT n T t - 1) 0)) (by omega) (by omega)
    exact ⟨_, rfl, by omega, by omega, hR.1, hR.2, this.1, this.2⟩
/-- Between two temperatures, without wrapping. -/
theorem interp_eq {h0 h1 t t0 t1 : Int} (a1 : 0 ≤ h0) (a2 : h0 ≤ h1) (a3 : h1 ≤ 100000) (b1 : -500 ≤ t0) (b2 : t0 ≤ t) (b3 : t ≤ t1) (b4 : t0 < t1) (b5 : t1 ≤ 500) :
    IntKind.i64.wrap (h0 + IntKind.i64.wrap ((IntKind.i64.wrap (IntKind.i64.wrap (h1 - h0) * IntKind.i64.wrap (t - t0))).tdiv (IntKind.i64.wrap (t1 - t0)))) = h0 + (h1 - h0) * (t - t0) / (t1 - t0) := by
  have m0 : 0 ≤ (h1 - h0) * (t - t0) := Int.mul_nonneg (by omega) (by omega)
  have m1 : (h1 - h0) * (t - t0) ≤ 100000 * 1000 := Int.mul_le_mul (by omega) (by omega) (by omega) (by omega)
  have d0 := Int.ediv_nonneg m0 (show 0 ≤ t1 - t0 by omega)
  have d1 : (h1 - h0) * (t - t0) / (t1 - t0) ≤ h1 - h0 := by
    apply Int.ediv_le_of_le_mul (by omega)
    exact Int.mul_le_mul_of_nonneg_left (by omega) (by omega)
  rw [wrap_id (x := h1 - h0) (by omega) (by omega), wrap_id (x := t - t0) (by omega) (by omega), wrap_id (x := t1 - t0) (by omega) (by omega), wrap_id (x := (h1 - h0) * (t - t0)) (by omega) (by omega),
    Int.tdiv_eq_ediv_of_nonneg m0, wrap_id (x := (h1 - h0) * (t - t0) / (t1 - t0)) (by omega) (by omega), wrap_id (by omega) (by omega)]
def bsearchBase : BaseF := fun args => match args with
  | [.row n sz_T f_T, .int .i64 t] => some ((sz_T = 1 ∧ IntR n 1 f_T) ∧ (upT n (ivf f_T) ∧ n ≤ 100000), .tup [.int .i64 (fstT n (ivf f_T) t : Nat), .bool (decide (fstT n (ivf f_T) t < n) && decide ((ivf f_T) (fstT n (ivf f_T) t) 0 = t))])
  | _ => none
theorem bsearch_eq (n : Nat) (sz_T : Nat) (f_T : Nat → Nat → SV) (t : Int) : bsearchBase [.row n sz_T f_T, .int .i64 t] = some ((sz_T = 1 ∧ IntR n 1 f_T) ∧ (upT n (ivf f_T) ∧ n ≤ 100000), .tup [.int .i64 (fstT n (ivf f_T) t : Nat), .bool (decide (fstT n (ivf f_T) t < n) && decide ((ivf f_T) (fstT n (ivf f_T) t) 0 = t))]) := rfl
theorem bsearch_base : Base Try.prog 66 bsearchBase := by
  intro args p v hq hp
  unfold bsearchBase at hq
  split at hq
  rotate_left
  · cases hq
  rename_i n sz_T f_T t
  cases hq
  obtain ⟨⟨rfl, i_T⟩, pre⟩ := hp
  refine base_of (C := cx [] [] [(67, lessBase)] [] none) (cx_ok trivial ⟨less_base, trivial⟩) rfl (g := 66) (fn := Try.f66)
    (args' := [.row n 1 (rowF .i64 (ivf f_T)), .int .i64 t]) (fn_66) rfl 1000 (by
    simp only [BdL, Bd, and_self, and_true, true_and]
    exact (fun i j hi hj => by rw [i_T i j hi hj]; trivial)) ⟨SameD.int i_T, SameD.rfl' _, trivial⟩ ?_
  generalize ivf f_T = T at *
  simp only [rowF_eq]
  simp only [less_eq, Try.f68, Try.f66, go_sem, ↓reduceIte, Nat.reduceAdd, Nat.reduceSub, Nat.reduceMul, Nat.reduceEqDiff, Nat.reduceLT, Nat.reduceLeDiff, Int.reduceToNat, Int.reduceLE, Int.reduceLT, Int.reduceEq, Int.reduceNeg, reduceCtorEq]
  have hsp := fun i (hi : i < n) => fstT_iff (t := t) pre.1 hi
  have hle := (fstT_spec (n := n) (T := T) (t := t)).1
  generalize fstT n T t = S at *
  refine loop_ofH { q : Nat × Nat // q.1 ≤ S ∧ S ≤ q.2 ∧ q.2 ≤ n } (fun q => [(8, .int .i64 (q.1.2 : Int)), (7, .int .i64 (q.1.1 : Int)), (6, .int .i64 (n : Int)), (1, .int .i64 t), (0, .row n 1 fun i j => .int .i64 (T i j))]) (fun h _ => h) (fun q => q.1.2 - q.1.1) (fun _ => ⟨rfl, rfl⟩) ⟨(0, n), by omega, by omega, by omega⟩ (by (apply sub_of <;> simp only [go_sem, ↓reduceIte, Nat.reduceAdd, Nat.reduceSub, Nat.reduceMul, Nat.reduceEqDiff, Nat.reduceLT, Nat.reduceLeDiff, Int.reduceToNat, Int.reduceLE, Int.reduceLT, Int.reduceEq, Int.reduceNeg, reduceCtorEq] <;> (try simp [catF]) <;> (try exact fun j _ => Bd_nth (by simp [BdL, Bd]) j) <;> (try exact bd_setL (by simp [bdAs, BdL, Bd])))) ?_
  rintro ⟨⟨a, b⟩, q1, q2, q3⟩
  simp only [] at q1 q2 q3
  simp only [less_eq, Try.f68, Try.f66, go_sem, ↓reduceIte, Nat.reduceAdd, Nat.reduceSub, Nat.reduceMul, Nat.reduceEqDiff, Nat.reduceLT, Nat.reduceLeDiff, Int.reduceToNat, Int.reduceLE, Int.reduceLT, Int.reduceEq, Int.reduceNeg, reduceCtorEq]
  simp only [mid_eq (show a + b ≤ 1000000000000 by omega)]
  refine ⟨fun d1 => ?_, fun d1 => ?_⟩
  · simp only [decide_eq_true_eq] at d1
    generalize hm : (a + b) / 2 = x
    have hx : a ≤ x ∧ x < b := by omega
    have hxk := hsp x (by omega)
    have hw2 : IntKind.i64.wrap ((x : Int) + 1) = ((x + 1 : Nat) : Int) := by rw [wrap_id (by omega) (by omega)]; omega
    refine ⟨⟨by omega, by omega⟩, fun d2 => ?_, fun d2 => ?_⟩
    · simp only [decide_eq_true_eq, Int.toNat_natCast] at d2
      refine ⟨⟨(x + 1, b), by simp only []; omega, by simp only []; omega, by simp only []; omega⟩, by simp only []; omega, ?_⟩
      apply sub_of <;> simp only [hw2, go_sem, ↓reduceIte, Nat.reduceAdd, Nat.reduceSub, Nat.reduceMul, Nat.reduceEqDiff, Nat.reduceLT, Nat.reduceLeDiff, Int.reduceToNat, Int.reduceLE, Int.reduceLT, Int.reduceEq, Int.reduceNeg, reduceCtorEq] <;> (try simp) <;> (try exact fun j _ => Bd_nth (by simp [BdL, Bd]) j) <;> (try exact bd_setL (by simp [bdAs, BdL, Bd]))
    · simp only [decide_eq_false_iff_not, Int.toNat_natCast] at d2
      refine ⟨⟨(a, x), by simp only []; omega, by simp only []; omega, by simp only []; omega⟩, by simp only []; omega, ?_⟩
      apply sub_of <;> simp only [go_sem, ↓reduceIte, Nat.reduceAdd, Nat.reduceSub, Nat.reduceMul, Nat.reduceEqDiff, Nat.reduceLT, Nat.reduceLeDiff, Int.reduceToNat, Int.reduceLE, Int.reduceLT, Int.reduceEq, Int.reduceNeg, reduceCtorEq] <;> (try simp) <;> (try exact fun j _ => Bd_nth (by simp [BdL, Bd]) j) <;> (try exact bd_setL (by simp [bdAs, BdL, Bd]))
  · simp only [decide_eq_false_iff_not] at d1
    obtain rfl : a = S := by omega
    refine ⟨fun e1 => ⟨⟨by omega, by simpa using e1⟩, fun e2 => ?_, fun e2 => ⟨⟨by omega, by simpa using e1⟩, ?_⟩⟩, fun e1 => ?_⟩
    · simp only [decide_eq_true_eq] at e1 e2
      simp [e2, show a < n by omega]
    · simp only [decide_eq_true_eq, decide_eq_false_iff_not] at e1 e2
      simp [e2]
    · simp only [decide_eq_false_iff_not] at e1
      simp [show ¬ a < n by omega]
def aroundBase : BaseF := fun args => match args with
  | [.rptr sz_1 c_1, .int .i64 t] => (match c_1 0, c_1 1, c_1 2, c_1 3, c_1 4 with | .int .i64 R, .row n sz_T f_T, .row m sz_H f_H, .int .i64 bl, .int .i64 bh => some ((sz_1 = 5) ∧ (sz_T = 1 ∧ IntR n 1 f_T) ∧ (sz_H = 1 ∧ IntR m 1 f_H) ∧ (airB R n m (ivf f_T) (ivf f_H) bl bh = true ∧ in3 t ((ivf f_T) 0 0) ((ivf f_T) (n - 1) 0) = true), .agg [.int .i64 (if (ivf f_T) (fstT n (ivf f_T) t) 0 = t then (fstT n (ivf f_T) t : Int) else (fstT n (ivf f_T) t : Int) - 1), .int .i64 (fstT n (ivf f_T) t : Nat)]) | _, _, _, _, _ => none)
  | _ => none
theorem around_eq (sz_1 : Nat) (c_1 : Nat → SV) (t : Int) : aroundBase [.rptr sz_1 c_1, .int .i64 t] = (match c_1 0, c_1 1, c_1 2, c_1 3, c_1 4 with | .int .i64 R, .row n sz_T f_T, .row m sz_H f_H, .int .i64 bl, .int .i64 bh => some ((sz_1 = 5) ∧ (sz_T = 1 ∧ IntR n 1 f_T) ∧ (sz_H = 1 ∧ IntR m 1 f_H) ∧ (airB R n m (ivf f_T) (ivf f_H) bl bh = true ∧ in3 t ((ivf f_T) 0 0) ((ivf f_T) (n - 1) 0) = true), .agg [.int .i64 (if (ivf f_T) (fstT n (ivf f_T) t) 0 = t then (fstT n (ivf f_T) t : Int) else (fstT n (ivf f_T) t : Int) - 1), .int .i64 (fstT n (ivf f_T) t : Nat)]) | _, _, _, _, _ => none) := rfl
theorem around_base : Base Try.prog 61 aroundBase := by
  intro args p v hq hp
  unfold aroundBase at hq
  split at hq
  rotate_left
  · cases hq
  rename_i sz_1 c_1 t
  split at hq
  rotate_left
  · cases hq
  rename_i R n sz_T f_T m sz_H f_H bl bh h_1_0 h_1_1 h_1_2 h_1_3 h_1_4
  cases hq
  obtain ⟨rfl, ⟨rfl, i_T⟩, ⟨rfl, i_H⟩, pre⟩ := hp
  refine base_of (C := cx [] [] [(66, bsearchBase)] [] none) (cx_ok trivial ⟨bsearch_base, trivial⟩) rfl (g := 61) (fn := Try.f61)
    (args' := [.rptr 5 (fun j => nth [.int .i64 R, .row n 1 (rowF .i64 (ivf f_T)), .row m 1 (rowF .i64 (ivf f_H)), .int .i64 bl, .int .i64 bh] j), .int .i64 t]) (fn_61) rfl 1000 (by
    simp only [BdL, Bd, and_self, and_true, true_and]
    exact (fun j hj => by
      have hj : j = 0 ∨ j = 1 ∨ j = 2 ∨ j = 3 ∨ j = 4 := by omega
      rcases hj with rfl | rfl | rfl | rfl | rfl
      · rw [h_1_0]; simp only [BdL, Bd, and_self, and_true, true_and]
      · rw [h_1_1]; simp only [BdL, Bd, and_self, and_true, true_and]; exact (fun i j hi hj => by rw [i_T i j hi hj]; trivial)
      · rw [h_1_2]; simp only [BdL, Bd, and_self, and_true, true_and]; exact (fun i j hi hj => by rw [i_H i j hi hj]; trivial)
      · rw [h_1_3]; simp only [BdL, Bd, and_self, and_true, true_and]
      · rw [h_1_4]; simp only [BdL, Bd, and_self, and_true, true_and])) ⟨SameD.rptr (fun j hj => by
      have hj : j = 0 ∨ j = 1 ∨ j = 2 ∨ j = 3 ∨ j = 4 := by omega
      rcases hj with rfl | rfl | rfl | rfl | rfl
      · rw [h_1_0]; exact SameD.rfl' _
      · rw [h_1_1]; exact SameD.int i_T
      · rw [h_1_2]; exact SameD.int i_H
      · rw [h_1_3]; exact SameD.rfl' _
      · rw [h_1_4]; exact SameD.rfl' _), SameD.rfl' _, trivial⟩ ?_
  generalize ivf f_T = T at *
  generalize ivf f_H = H at *
  simp only [rowF_eq]
  simp only [bsearch_eq, Try.f61, go_sem, ↓reduceIte, Nat.reduceAdd, Nat.reduceSub, Nat.reduceMul, Nat.reduceEqDiff, Nat.reduceLT, Nat.reduceLeDiff, Int.reduceToNat, Int.reduceLE, Int.reduceLT, Int.reduceEq, Int.reduceNeg, reduceCtorEq]
  obtain ⟨h1, h2⟩ := fst_in pre.1 pre.2
  have hn := (airB_iff.1 pre.1).1.2.2.1
  refine ⟨⟨airB_upT pre.1, by omega⟩, fun c1 => ?_, fun c1 => ?_⟩
  · have he : T (fstT n T t) 0 = t := of_decide_eq_true ((Bool.and_eq_true _ _).mp c1).2
    simp only [eq_true he, ↓reduceIte]
  · have hne : ¬ T (fstT n T t) 0 = t := fun h => by simp [h1, h] at c1
    have := (h2 hne).1
    rw [if_neg hne, wrap_id (by omega) (by omega)]
def holdsBase : BaseF := fun args => match args with
  | [.rptr sz_1 c_1, .int .i64 t] => (match c_1 0, c_1 1, c_1 2, c_1 3, c_1 4 with | .int .i64 R, .row n sz_T f_T, .row m sz_H f_H, .int .i64 bl, .int .i64 bh => some ((sz_1 = 5) ∧ (sz_T = 1 ∧ IntR n 1 f_T) ∧ (sz_H = 1 ∧ IntR m 1 f_H) ∧ (airB R n m (ivf f_T) (ivf f_H) bl bh = true ∧ in3 t ((ivf f_T) 0 0) ((ivf f_T) (n - 1) 0) = true), .int .i64 (holdV R n (ivf f_T) (ivf f_H) t)) | _, _, _, _, _ => none)
  | _ => none
theorem holds_eq (sz_1 : Nat) (c_1 : Nat → SV) (t : Int) : holdsBase [.rptr sz_1 c_1, .int .i64 t] = (match c_1 0, c_1 1, c_1 2, c_1 3, c_1 4 with | .int .i64 R, .row n sz_T f_T, .row m sz_H f_H, .int .i64 bl, .int .i64 bh => some ((sz_1 = 5) ∧ (sz_T = 1 ∧ IntR n 1 f_T) ∧ (sz_H = 1 ∧ IntR m 1 f_H) ∧ (airB R n m (ivf f_T) (ivf f_H) bl bh = true ∧ in3 t ((ivf f_T) 0 0) ((ivf f_T) (n - 1) 0) = true), .int .i64 (holdV R n (ivf f_T) (ivf f_H) t)) | _, _, _, _, _ => none) := rfl
theorem holds_base : Base Try.prog 34 holdsBase := by
  intro args p v hq hp
  unfold holdsBase at hq
  split at hq
  rotate_left
  · cases hq
  rename_i sz_1 c_1 t
  split at hq
  rotate_left
  · cases hq
  rename_i R n sz_T f_T m sz_H f_H bl bh h_1_0 h_1_1 h_1_2 h_1_3 h_1_4
  cases hq
  obtain ⟨rfl, ⟨rfl, i_T⟩, ⟨rfl, i_H⟩, pre⟩ := hp
  refine base_of (C := cx [] [] [(61, aroundBase)] [(34, 2, p34_2), (34, 5, p34_5), (34, 6, p34_6)] none) (cx_ok trivial ⟨around_base, trivial⟩) rfl (g := 34) (fn := Try.f34)
    (args' := [.rptr 5 (fun j => nth [.int .i64 R, .row n 1 (rowF .i64 (ivf f_T)), .row m 1 (rowF .i64 (ivf f_H)), .int .i64 bl, .int .i64 bh] j), .int .i64 t]) (fn_34) rfl 1000 (by
    simp only [BdL, Bd, and_self, and_true, true_and]
    exact (fun j hj => by
      have hj : j = 0 ∨ j = 1 ∨ j = 2 ∨ j = 3 ∨ j = 4 := by omega
      rcases hj with rfl | rfl | rfl | rfl | rfl
      · rw [h_1_0]; simp only [BdL, Bd, and_self, and_true, true_and]
      · rw [h_1_1]; simp only [BdL, Bd, and_self, and_true, true_and]; exact (fun i j hi hj => by rw [i_T i j hi hj]; trivial)
      · rw [h_1_2]; simp only [BdL, Bd, and_self, and_true, true_and]; exact (fun i j hi hj => by rw [i_H i j hi hj]; trivial)
      · rw [h_1_3]; simp only [BdL, Bd, and_self, and_true, true_and]
      · rw [h_1_4]; simp only [BdL, Bd, and_self, and_true, true_and])) ⟨SameD.rptr (fun j hj => by
      have hj : j = 0 ∨ j = 1 ∨ j = 2 ∨ j = 3 ∨ j = 4 := by omega
      rcases hj with rfl | rfl | rfl | rfl | rfl
      · rw [h_1_0]; exact SameD.rfl' _
      · rw [h_1_1]; exact SameD.int i_T
      · rw [h_1_2]; exact SameD.int i_H
      · rw [h_1_3]; exact SameD.rfl' _
      · rw [h_1_4]; exact SameD.rfl' _), SameD.rfl' _, trivial⟩ ?_
  generalize ivf f_T = T at *
  generalize ivf f_H = H at *
  simp only [rowF_eq]
  simp only [around_eq, p34_2, p34_5, p34_6, Try.f34, go_sem, ↓reduceIte, Nat.reduceAdd, Nat.reduceSub, Nat.reduceMul, Nat.reduceEqDiff, Nat.reduceLT, Nat.reduceLeDiff, Int.reduceToNat, Int.reduceLE, Int.reduceLT, Int.reduceEq, Int.reduceNeg, reduceCtorEq]
  obtain ⟨h1, h2⟩ := fst_in pre.1 pre.2
  have hA := airB_iff.1 pre.1
  have hn := hA.1
  obtain ⟨v, hv, v1, v2, v3, v4, v5, v6⟩ := holdV_bd pre.1 pre.2
  have a1 := airB_at pre.1 h1
  by_cases he : T (fstT n T t) 0 = t
  · simp only [eq_true he, ↓reduceIte]
    have hk : holdV R n T H t = H (fstT n T t) 0 * R := by unfold holdV; rw [if_pos he]
    refine ⟨pre, ⟨by kernel_rfl, by kernel_rfl⟩, by omega, ⟨by omega, by omega⟩, by omega, by omega, fun _ => ?_, fun h => by simp at h⟩
    simp only [Int.toNat_natCast]
    rw [← hk, wrap_id (by omega) (by omega)]
  · simp only [eq_false he, ↓reduceIte]
    obtain ⟨k1, k2, k3⟩ := h2 he
    have a2 := airB_at pre.1 (i := fstT n T t - 1) (by omega)
    have a3 := (airB_up pre.1).2 1 (fstT n T t - 1) (by omega)
    rw [show fstT n T t - 1 + 1 = fstT n T t by omega] at a3
    have e1 : ((fstT n T t : Int) - 1).toNat = fstT n T t - 1 := by omega
    have hk : holdV R n T H t = (H (fstT n T t - 1) 0 + (H (fstT n T t) 0 - H (fstT n T t - 1) 0) * (t - T (fstT n T t - 1) 0) / (T (fstT n T t) 0 - T (fstT n T t - 1) 0)) * R := by unfold holdV; rw [if_neg he]
    refine ⟨pre, ⟨by kernel_rfl, by kernel_rfl⟩, by omega, ⟨by omega, by omega⟩, by omega, by omega, fun h => by simp at h; omega, fun _ => ⟨⟨by kernel_rfl, by kernel_rfl⟩, by omega, ⟨by omega, by omega⟩, by omega, ⟨by omega, by omega⟩, ⟨by kernel_rfl, by kernel_rfl⟩, by omega, ⟨by omega, by omega⟩, ?_, ?_⟩⟩
    · simp only [e1]; rw [wrap_id (by omega) (by omega)]; omega
    · simp only [e1]
      rw [interp_eq (by omega) (by omega) (by omega) (by omega) (by omega) (by omega) (by omega) (by omega), ← hk, wrap_id (by omega) (by omega)]
def rholdsBase : BaseF := fun args => match args with
  | [.agg [.int .i64 R, .row n sz_T f_T, .row m sz_H f_H, .int .i64 bl, .int .i64 bh], .int .i64 t] => some ((sz_T = 1 ∧ IntR n 1 f_T) ∧ (sz_H = 1 ∧ IntR m 1 f_H) ∧ (airB R n m (ivf f_T) (ivf f_H) bl bh = true ∧ in3 t ((ivf f_T) 0 0) ((ivf f_T) (n - 1) 0) = true), .int .i64 (holdV R n (ivf f_T) (ivf f_H) t))
  | _ => none
theorem rholds_eq (R : Int) (n : Nat) (sz_T : Nat) (f_T : Nat → Nat → SV) (m : Nat) (sz_H : Nat) (f_H : Nat → Nat → SV) (bl : Int) (bh : Int) (t : Int) : rholdsBase [.agg [.int .i64 R, .row n sz_T f_T, .row m sz_H f_H, .int .i64 bl, .int .i64 bh], .int .i64 t] = some ((sz_T = 1 ∧ IntR n 1 f_T) ∧ (sz_H = 1 ∧ IntR m 1 f_H) ∧ (airB R n m (ivf f_T) (ivf f_H) bl bh = true ∧ in3 t ((ivf f_T) 0 0) ((ivf f_T) (n - 1) 0) = true), .int .i64 (holdV R n (ivf f_T) (ivf f_H) t)) := rfl
theorem rholds_base : Base Try.prog 35 rholdsBase := by
  intro args p v hq hp
  unfold rholdsBase at hq
  split at hq
  rotate_left
  · cases hq
  rename_i R n sz_T f_T m sz_H f_H bl bh t
  cases hq
  obtain ⟨⟨rfl, i_T⟩, ⟨rfl, i_H⟩, pre⟩ := hp
  refine base_of (C := cx [] [] [] [(35, 5, p35_5), (35, 7, p35_7), (35, 8, p35_8)] none) (cx_ok trivial trivial) rfl (g := 35) (fn := Try.f35)
    (args' := [.agg [.int .i64 R, .row n 1 (rowF .i64 (ivf f_T)), .row m 1 (rowF .i64 (ivf f_H)), .int .i64 bl, .int .i64 bh], .int .i64 t]) (fn_35) rfl 1000 (by
    simp only [BdL, Bd, and_self, and_true, true_and]
    exact ⟨(fun i j hi hj => by rw [i_T i j hi hj]; trivial), (fun i j hi hj => by rw [i_H i j hi hj]; trivial)⟩) ⟨SameD.agg ⟨SameD.rfl' _, SameD.int i_T, SameD.int i_H, SameD.rfl' _, SameD.rfl' _, trivial⟩, SameD.rfl' _, trivial⟩ ?_
  generalize ivf f_T = T at *
  generalize ivf f_H = H at *
  simp only [rowF_eq]
  simp only [p35_5, p35_7, p35_8, Try.f35, go_sem, ↓reduceIte, Nat.reduceAdd, Nat.reduceSub, Nat.reduceMul, Nat.reduceEqDiff, Nat.reduceLT, Nat.reduceLeDiff, Int.reduceToNat, Int.reduceLE, Int.reduceLT, Int.reduceEq, Int.reduceNeg, reduceCtorEq]
  obtain ⟨h1, h2⟩ := fst_in pre.1 pre.2
  have hA := airB_iff.1 pre.1
  have hn := hA.1
  have ht := in3_iff.1 pre.2
  obtain ⟨v, hv, v1, v2, v3, v4, v5, v6⟩ := holdV_bd pre.1 pre.2
  refine loop_ofH { i : Nat // i ≤ n ∧ ∀ j, j < i → T j 0 < t } (fun i => [(5, .int .i64 (i.1 : Int)), (2, .ptr 0 0), (1, .int .i64 t)]) (fun h _ => h) (fun i => n - i.1) (fun _ => ⟨rfl, rfl⟩) ⟨0, by omega, by omega⟩ (by (apply sub_of <;> simp only [go_sem, ↓reduceIte, Nat.reduceAdd, Nat.reduceSub, Nat.reduceMul, Nat.reduceEqDiff, Nat.reduceLT, Nat.reduceLeDiff, Int.reduceToNat, Int.reduceLE, Int.reduceLT, Int.reduceEq, Int.reduceNeg, reduceCtorEq] <;> (try simp [catF]) <;> (try exact fun j _ => Bd_nth (by simp [BdL, Bd]) j) <;> (try exact bd_setL (by simp [bdAs, BdL, Bd])))) ?_
  rintro ⟨i, hi, h3⟩
  simp only [p35_5, p35_7, p35_8, Try.f35, go_sem, ↓reduceIte, Nat.reduceAdd, Nat.reduceSub, Nat.reduceMul, Nat.reduceEqDiff, Nat.reduceLT, Nat.reduceLeDiff, Int.reduceToNat, Int.reduceLE, Int.reduceLT, Int.reduceEq, Int.reduceNeg, reduceCtorEq]
  have hw3 : IntKind.i64.wrap ((i : Int) + 1) = ((i + 1 : Nat) : Int) := by rw [wrap_id (by omega) (by omega)]; omega
  refine ⟨fun e1 => ?_, fun e1 => ?_⟩
  · simp only [decide_eq_true_eq] at e1
    have ik : i < n := by omega
    refine ⟨⟨by omega, by omega⟩, fun e2 => ?_, fun e2 => ?_⟩
    · simp only [decide_eq_true_eq] at e2
      have hS : fstT n T t = i := fstT_eq hi h3 (fun _ => by omega)
      have hk : holdV R n T H t = H i 0 * R := by unfold holdV; rw [hS, if_pos e2]
      refine ⟨⟨by kernel_rfl, by kernel_rfl⟩, ⟨by omega, by omega⟩, ?_⟩
      rw [← hk, wrap_id (by omega) (by omega)]
    · simp only [decide_eq_false_iff_not] at e2
      have next : T i 0 < t → ∀ j, j < i + 1 → T j 0 < t := fun h j hj => by
        rcases Nat.lt_or_ge j i with h' | h'
        · exact h3 j h'
        · obtain rfl : j = i := by omega
          exact h
      by_cases hT : T i 0 < t
      · refine ⟨fun e3 => ⟨?_, fun e4 => ⟨⟨by omega, by omega⟩, fun e5 => ?_, fun e5 => ?_⟩, fun e4 => ?_⟩, fun e3 => ?_⟩
        · simp only [decide_eq_true_eq] at e3
          rw [wrap_id (by omega) (by omega)]; omega
        · simp only [decide_eq_true_eq] at e5; omega
        all_goals
          refine ⟨⟨i + 1, by omega, next hT⟩, by simp only []; omega, ?_⟩
          apply sub_of <;> simp only [hw3, go_sem, ↓reduceIte, Nat.reduceAdd, Nat.reduceSub, Nat.reduceMul, Nat.reduceEqDiff, Nat.reduceLT, Nat.reduceLeDiff, Int.reduceToNat, Int.reduceLE, Int.reduceLT, Int.reduceEq, Int.reduceNeg, reduceCtorEq] <;> (try simp) <;> (try exact fun j _ => Bd_nth (by simp [BdL, Bd]) j) <;> (try exact bd_setL (by simp [bdAs, BdL, Bd]))
      · have hS : fstT n T t = i := fstT_eq hi h3 (fun _ => by omega)
        obtain ⟨k1, k2, k3⟩ := h2 (by rw [hS]; exact e2)
        rw [hS] at k1 k2 k3
        have hw4 : IntKind.i64.wrap ((i : Int) - 1) = ((i - 1 : Nat) : Int) := by rw [wrap_id (by omega) (by omega)]; omega
        simp only [hw4, Int.toNat_natCast]
        have a1 := airB_at pre.1 ik
        have a2 := airB_at pre.1 (i := i - 1) (by omega)
        have a3 := (airB_up pre.1).2 1 (i - 1) (by omega)
        rw [show i - 1 + 1 = i by omega] at a3
        have hk : holdV R n T H t = (H (i - 1) 0 + (H i 0 - H (i - 1) 0) * (t - T (i - 1) 0) / (T i 0 - T (i - 1) 0)) * R := by unfold holdV; rw [hS, if_neg e2]
        refine ⟨fun e3 => ⟨⟨by omega, by omega⟩, fun e4 => ⟨⟨by omega, by omega⟩, fun e5 => ⟨⟨by kernel_rfl, by kernel_rfl⟩, ⟨by omega, by omega⟩, ⟨by omega, by omega⟩, ⟨by omega, by omega⟩, ⟨by omega, by omega⟩, ⟨by omega, by omega⟩, ?_, ⟨by kernel_rfl, by kernel_rfl⟩, ⟨by omega, by omega⟩, ?_⟩, fun e5 => ?_⟩, fun e4 => ?_⟩, fun e3 => ?_⟩
        · rw [wrap_id (by omega) (by omega)]; omega
        · rw [interp_eq (by omega) (by omega) (by omega) (by omega) (by omega) (by omega) (by omega) (by omega), ← hk, wrap_id (by omega) (by omega)]
        · simp only [decide_eq_false_iff_not] at e5; omega
        · simp only [decide_eq_false_iff_not] at e4; omega
        · simp only [decide_eq_false_iff_not] at e3; omega
  · simp only [decide_eq_false_iff_not] at e1
    have := h3 (n - 1) (by omega)
    omega
end Go.Eng
end

/- air: a step. -/
section
namespace Go.Eng
open Go Go.RowKit Go.Proofs
set_option maxRecDepth 100000
set_option maxHeartbeats 4000000
attribute [local irreducible] OwnT DefS
def holdsO (R : Int) (n m : Nat) (T H : Nat → Nat → Int) (bl bh t : Int) : Int × Int :=
  if airB R n m T H bl bh = true then (if in3 t (T 0 0) (T (n - 1) 0) = true then (holdV R n T H t, 0) else (0, 2)) else (0, 1)
def two (v : Int × Int) : SV := .tup [.int .i64 v.1, .int .i64 v.2]
theorem intR_0 (s : Nat) (f : Nat → Nat → SV) : IntR 0 s f = True := eq_true fun i j h => by omega
theorem valid_0 {R : Int} {n m : Nat} {T H : Nat → Nat → Int} {bl bh : Int} {l : Nat → Nat → Int} : validB R n m T H bl bh 0 0 0 l = airB R n m T H bl bh := by
  simp [validB, stepsB, allU, sp3, in3]
def holdsPBase : BaseF := fun args => match args with
  | [.agg [.int .i64 R, .row n sz_T f_T, .row m sz_H f_H, .int .i64 bl, .int .i64 bh], .int .i64 t] => some ((sz_T = 1 ∧ IntR n 1 f_T) ∧ (sz_H = 1 ∧ IntR m 1 f_H), two (holdsO R n m (ivf f_T) (ivf f_H) bl bh t))
  | _ => none
theorem holdsP_eq (R : Int) (n : Nat) (sz_T : Nat) (f_T : Nat → Nat → SV) (m : Nat) (sz_H : Nat) (f_H : Nat → Nat → SV) (bl : Int) (bh : Int) (t : Int) : holdsPBase [.agg [.int .i64 R, .row n sz_T f_T, .row m sz_H f_H, .int .i64 bl, .int .i64 bh], .int .i64 t] = some ((sz_T = 1 ∧ IntR n 1 f_T) ∧ (sz_H = 1 ∧ IntR m 1 f_H), two (holdsO R n m (ivf f_T) (ivf f_H) bl bh t)) := rfl
theorem holdsP_base : Base Try.prog 11 holdsPBase := by
  intro args p v hq hp
  unfold holdsPBase at hq
  split at hq
  rotate_left
  · cases hq
  rename_i R n sz_T f_T m sz_H f_H bl bh t
  cases hq
  obtain ⟨⟨rfl, i_T⟩, ⟨rfl, i_H⟩⟩ := hp
  refine base_of (C := cx [] [] [(32, areValidBase), (33, isColdBase), (34, holdsBase)] [] none) (cx_ok trivial ⟨areValid_base, isCold_base, holds_base, trivial⟩) rfl (g := 11) (fn := Try.f11)
    (args' := [.agg [.int .i64 R, .row n 1 (rowF .i64 (ivf f_T)), .row m 1 (rowF .i64 (ivf f_H)), .int .i64 bl, .int .i64 bh], .int .i64 t]) (fn_11) rfl 1000 (by
    simp only [BdL, Bd, and_self, and_true, true_and]
    exact ⟨(fun i j hi hj => by rw [i_T i j hi hj]; trivial), (fun i j hi hj => by rw [i_H i j hi hj]; trivial)⟩) ⟨SameD.agg ⟨SameD.rfl' _, SameD.int i_T, SameD.int i_H, SameD.rfl' _, SameD.rfl' _, trivial⟩, SameD.rfl' _, trivial⟩ ?_
  generalize ivf f_T = T
  generalize ivf f_H = H
  simp only [rowF_eq]
  simp only [areValid_eq, isCold_eq, holds_eq, two, intR_0, valid_0, Try.f11, go_sem, ↓reduceIte, Nat.reduceAdd, Nat.reduceSub, Nat.reduceMul, Nat.reduceEqDiff, Nat.reduceLT, Nat.reduceLeDiff, Int.reduceToNat, Int.reduceLE, Int.reduceLT, Int.reduceEq, Int.reduceNeg, reduceCtorEq]
  refine ⟨.inr trivial, fun c1 => ?_, fun c1 => ?_⟩
  · simp only [Bool.not_eq_true'] at c1; simp [holdsO, c1]
  simp only [Bool.not_eq_false'] at c1
  have hn := (airB_iff.1 c1).1
  refine ⟨by omega, fun c2 => ?_, fun c2 => ?_⟩
  · simp only [Bool.not_eq_true'] at c2; simp [holdsO, c1, c2]
  · simp only [Bool.not_eq_false'] at c2
    refine ⟨⟨c1, c2⟩, ?_⟩
    simp [holdsO, c1, c2]
def holdsRBase : BaseF := fun args => match args with
  | [.agg [.int .i64 R, .row n sz_T f_T, .row m sz_H f_H, .int .i64 bl, .int .i64 bh], .int .i64 t] => some ((sz_T = 1 ∧ IntR n 1 f_T) ∧ (sz_H = 1 ∧ IntR m 1 f_H), two (holdsO R n m (ivf f_T) (ivf f_H) bl bh t))
  | _ => none
theorem holdsR_eq (R : Int) (n : Nat) (sz_T : Nat) (f_T : Nat → Nat → SV) (m : Nat) (sz_H : Nat) (f_H : Nat → Nat → SV) (bl : Int) (bh : Int) (t : Int) : holdsRBase [.agg [.int .i64 R, .row n sz_T f_T, .row m sz_H f_H, .int .i64 bl, .int .i64 bh], .int .i64 t] = some ((sz_T = 1 ∧ IntR n 1 f_T) ∧ (sz_H = 1 ∧ IntR m 1 f_H), two (holdsO R n m (ivf f_T) (ivf f_H) bl bh t)) := rfl
theorem holdsR_base : Base Try.prog 12 holdsRBase := by
  intro args p v hq hp
  unfold holdsRBase at hq
  split at hq
  rotate_left
  · cases hq
  rename_i R n sz_T f_T m sz_H f_H bl bh t
  cases hq
  obtain ⟨⟨rfl, i_T⟩, ⟨rfl, i_H⟩⟩ := hp
  refine base_of (C := cx [] [] [(28, airBase), (29, tempBase), (35, rholdsBase)] [] none) (cx_ok trivial ⟨air_base, temp_base, rholds_base, trivial⟩) rfl (g := 12) (fn := Try.f12)
    (args' := [.agg [.int .i64 R, .row n 1 (rowF .i64 (ivf f_T)), .row m 1 (rowF .i64 (ivf f_H)), .int .i64 bl, .int .i64 bh], .int .i64 t]) (fn_12) rfl 1000 (by
    simp only [BdL, Bd, and_self, and_true, true_and]
    exact ⟨(fun i j hi hj => by rw [i_T i j hi hj]; trivial), (fun i j hi hj => by rw [i_H i j hi hj]; trivial)⟩) ⟨SameD.agg ⟨SameD.rfl' _, SameD.int i_T, SameD.int i_H, SameD.rfl' _, SameD.rfl' _, trivial⟩, SameD.rfl' _, trivial⟩ ?_
  generalize ivf f_T = T
  generalize ivf f_H = H
  simp only [rowF_eq]
  simp only [air_eq, temp_eq, rholds_eq, two, intR_0, Try.f12, go_sem, ↓reduceIte, Nat.reduceAdd, Nat.reduceSub, Nat.reduceMul, Nat.reduceEqDiff, Nat.reduceLT, Nat.reduceLeDiff, Int.reduceToNat, Int.reduceLE, Int.reduceLT, Int.reduceEq, Int.reduceNeg, reduceCtorEq]
  refine ⟨fun c1 => ?_, fun c1 => ?_⟩
  · simp only [Bool.not_eq_true'] at c1; simp [holdsO, c1]
  simp only [Bool.not_eq_false'] at c1
  have hn := (airB_iff.1 c1).1
  refine ⟨by omega, fun c2 => ?_, fun c2 => ?_⟩
  · simp only [Bool.not_eq_true'] at c2; simp [holdsO, c1, c2]
  · simp only [Bool.not_eq_false'] at c2
    refine ⟨⟨c1, c2⟩, ?_⟩
    simp [holdsO, c1, c2]
structure Flw where
  water : Int
  came : Int
  out : Int
  dried : Int
  dew : Int
def flow (hold R w ch dr o b st : Int) : Flw :=
  ⟨min (w - (w * ch + 999) / 1000 + (o * R * ch / 1000 + b + st) - min dr (w - (w * ch + 999) / 1000 + (o * R * ch / 1000 + b + st))) hold,
   o * R * ch / 1000 + b + st, (w * ch + 999) / 1000, min dr (w - (w * ch + 999) / 1000 + (o * R * ch / 1000 + b + st)),
   w - (w * ch + 999) / 1000 + (o * R * ch / 1000 + b + st) - min dr (w - (w * ch + 999) / 1000 + (o * R * ch / 1000 + b + st)) -
     min (w - (w * ch + 999) / 1000 + (o * R * ch / 1000 + b + st) - min dr (w - (w * ch + 999) / 1000 + (o * R * ch / 1000 + b + st))) hold⟩
def flwA (f : Flw) : SV := .agg [.int .i64 f.water, .int .i64 f.came, .int .i64 f.out, .int .i64 f.dried, .int .i64 f.dew]
def flB (w R ch dr o b st : Int) : Prop := (0 ≤ w ∧ w ≤ 274877906944) ∧ (1 ≤ R ∧ R ≤ 1048576) ∧ (0 ≤ ch ∧ ch ≤ 1000) ∧ (0 ≤ dr ∧ dr ≤ 68719476736) ∧ (0 ≤ o ∧ o ≤ 100000) ∧ (0 ≤ b ∧ b ≤ 17179869184) ∧ (0 ≤ st ∧ st ≤ 68719476736)
theorem out_eq {w ch : Int} (hw : 0 ≤ w ∧ w ≤ 274877906944) (hc : 0 ≤ ch ∧ ch ≤ 1000) : IntKind.i64.wrap ((IntKind.i64.wrap (IntKind.i64.wrap (IntKind.i64.wrap (w * ch) + 1000) - 1)).tdiv 1000) = (w * ch + 999) / 1000 ∧ 0 ≤ (w * ch + 999) / 1000 ∧ (w * ch + 999) / 1000 ≤ w := by
  have m0 : 0 ≤ w * ch := Int.mul_nonneg (by omega) (by omega)
  have m1 : w * ch ≤ w * 1000 := Int.mul_le_mul_of_nonneg_left (by omega) (by omega)
  rw [wrap_id (x := w * ch) (by omega) (by omega), wrap_id (x := w * ch + 1000) (by omega) (by omega), show w * ch + 1000 - 1 = w * ch + 999 by omega, wrap_id (x := w * ch + 999) (by omega) (by omega),
    Int.tdiv_eq_ediv_of_nonneg (by omega), wrap_id (x := (w * ch + 999) / 1000) (by omega) (by omega)]
  omega
theorem came_eq {o R ch : Int} (ho : 0 ≤ o ∧ o ≤ 100000) (hR : 1 ≤ R ∧ R ≤ 1048576) (hc : 0 ≤ ch ∧ ch ≤ 1000) : IntKind.i64.wrap ((IntKind.i64.wrap (IntKind.i64.wrap (o * R) * ch)).tdiv 1000) = o * R * ch / 1000 ∧ 0 ≤ o * R * ch / 1000 ∧ o * R * ch / 1000 ≤ 104857600000 := by
  have m0 : 0 ≤ o * R := Int.mul_nonneg (by omega) (by omega)
  have m1 : o * R ≤ 100000 * 1048576 := Int.mul_le_mul (by omega) (by omega) (by omega) (by omega)
  have m2 : 0 ≤ o * R * ch := Int.mul_nonneg (by omega) (by omega)
  have m3 : o * R * ch ≤ o * R * 1000 := Int.mul_le_mul_of_nonneg_left (by omega) (by omega)
  rw [wrap_id (x := o * R) (by omega) (by omega), wrap_id (x := o * R * ch) (by omega) (by omega), Int.tdiv_eq_ediv_of_nonneg m2, wrap_id (x := o * R * ch / 1000) (by omega) (by omega)]
  omega
theorem flow_bd {hold w R ch dr o b st : Int} (h : flB w R ch dr o b st) (hh : 0 ≤ hold ∧ hold ≤ 104857600000) : (0 ≤ (flow hold R w ch dr o b st).water ∧ (flow hold R w ch dr o b st).water ≤ hold) ∧ (0 ≤ (flow hold R w ch dr o b st).came ∧ (flow hold R w ch dr o b st).came ≤ 300000000000) ∧
    (0 ≤ (flow hold R w ch dr o b st).out ∧ (flow hold R w ch dr o b st).out ≤ 300000000000) ∧ (0 ≤ (flow hold R w ch dr o b st).dried ∧ (flow hold R w ch dr o b st).dried ≤ 600000000000) ∧ (0 ≤ (flow hold R w ch dr o b st).dew ∧ (flow hold R w ch dr o b st).dew ≤ 600000000000) := by
  obtain ⟨hw, hR, hc, hd, ho, hbb, hs⟩ := h
  obtain ⟨_, o1, o2⟩ := out_eq hw hc
  obtain ⟨_, c1, c2⟩ := came_eq ho hR hc
  simp only [flow]
  omega
def doFBase : BaseF := fun args => match args with
  | [.agg [.int .i64 R, .row n sz_T f_T, .row m sz_H f_H, .int .i64 bl, .int .i64 bh], .int .i64 w, .agg [.int .i64 co, .int .i64 p, .int .i64 ch, .int .i64 olo, .int .i64 ohi, .int .i64 slo, .int .i64 shi, .int .i64 dy], .int .i64 o, .int .i64 b, .int .i64 st] => some ((sz_T = 1 ∧ IntR n 1 f_T) ∧ (sz_H = 1 ∧ IntR m 1 f_H) ∧ (airB R n m (ivf f_T) (ivf f_H) bl bh = true ∧ in3 co ((ivf f_T) 0 0) ((ivf f_T) (n - 1) 0) = true ∧ flB w R ch dy o b st), flwA (flow (holdV R n (ivf f_T) (ivf f_H) co) R w ch dy o b st))
  | _ => none
theorem doF_eq (R : Int) (n : Nat) (sz_T : Nat) (f_T : Nat → Nat → SV) (m : Nat) (sz_H : Nat) (f_H : Nat → Nat → SV) (bl : Int) (bh : Int) (w : Int) (co : Int) (p : Int) (ch : Int) (olo : Int) (ohi : Int) (slo : Int) (shi : Int) (dy : Int) (o : Int) (b : Int) (st : Int) : doFBase [.agg [.int .i64 R, .row n sz_T f_T, .row m sz_H f_H, .int .i64 bl, .int .i64 bh], .int .i64 w, .agg [.int .i64 co, .int .i64 p, .int .i64 ch, .int .i64 olo, .int .i64 ohi, .int .i64 slo, .int .i64 shi, .int .i64 dy], .int .i64 o, .int .i64 b, .int .i64 st] = some ((sz_T = 1 ∧ IntR n 1 f_T) ∧ (sz_H = 1 ∧ IntR m 1 f_H) ∧ (airB R n m (ivf f_T) (ivf f_H) bl bh = true ∧ in3 co ((ivf f_T) 0 0) ((ivf f_T) (n - 1) 0) = true ∧ flB w R ch dy o b st), flwA (flow (holdV R n (ivf f_T) (ivf f_H) co) R w ch dy o b st)) := rfl
theorem doF_base : Base Try.prog 23 doFBase := by
  intro args p v hq hp
  unfold doFBase at hq
  split at hq
  rotate_left
  · cases hq
  rename_i R n sz_T f_T m sz_H f_H bl bh w co p ch olo ohi slo shi dy o b st
  cases hq
  obtain ⟨⟨rfl, i_T⟩, ⟨rfl, i_H⟩, pre⟩ := hp
  refine base_of (C := cx [] [] [(35, rholdsBase)] [] none) (cx_ok trivial ⟨rholds_base, trivial⟩) rfl (g := 23) (fn := Try.f23)
    (args' := [.agg [.int .i64 R, .row n 1 (rowF .i64 (ivf f_T)), .row m 1 (rowF .i64 (ivf f_H)), .int .i64 bl, .int .i64 bh], .int .i64 w, .agg [.int .i64 co, .int .i64 p, .int .i64 ch, .int .i64 olo, .int .i64 ohi, .int .i64 slo, .int .i64 shi, .int .i64 dy], .int .i64 o, .int .i64 b, .int .i64 st]) (fn_23) rfl 1000 (by
    simp only [BdL, Bd, and_self, and_true, true_and]
    exact ⟨(fun i j hi hj => by rw [i_T i j hi hj]; trivial), (fun i j hi hj => by rw [i_H i j hi hj]; trivial)⟩) ⟨SameD.agg ⟨SameD.rfl' _, SameD.int i_T, SameD.int i_H, SameD.rfl' _, SameD.rfl' _, trivial⟩, SameD.rfl' _, SameD.rfl' _, SameD.rfl' _, SameD.rfl' _, SameD.rfl' _, trivial⟩ ?_
  generalize ivf f_T = T at *
  generalize ivf f_H = H at *
  simp only [rowF_eq]
  simp only [rholds_eq, flwA, Try.f23, go_sem, ↓reduceIte, Nat.reduceAdd, Nat.reduceSub, Nat.reduceMul, Nat.reduceEqDiff, Nat.reduceLT, Nat.reduceLeDiff, Int.reduceToNat, Int.reduceLE, Int.reduceLT, Int.reduceEq, Int.reduceNeg, reduceCtorEq]
  obtain ⟨p1, p2, p3⟩ := pre
  obtain ⟨v, hv, v1, v2, v3, v4, v5, v6⟩ := holdV_bd p1 p2
  obtain ⟨hw, hR, hc, hd, ho, hbb, hs⟩ := p3
  obtain ⟨o0, o1, o2⟩ := out_eq hw hc
  obtain ⟨c0, c1, c2⟩ := came_eq ho hR hc
  refine ⟨by omega, by omega, ⟨p1, p2⟩, ?_⟩
  simp only [flow, o0, c0]
  generalize (w * ch + 999) / 1000 = x at *
  generalize o * R * ch / 1000 = y at *
  generalize holdV R n T H co = hd at *
  simp only [wrap_id (x := y + b) (by omega) (by omega), wrap_id (x := y + b + st) (by omega) (by omega), wrap_id (x := w - x) (by omega) (by omega), wrap_id (x := w - x + (y + b + st)) (by omega) (by omega),
    wrap_id (x := w - x + (y + b + st) - min dy (w - x + (y + b + st))) (by omega) (by omega),
    wrap_id (x := w - x + (y + b + st) - min dy (w - x + (y + b + st)) - min (w - x + (y + b + st) - min dy (w - x + (y + b + st))) hd) (by omega) (by omega)]
def spB (R : Int) (n : Nat) (T : Nat → Nat → Int) (bl bh w co p ch olo ohi slo shi dy : Int) : Prop := (0 ≤ w ∧ w ≤ 274877906944) ∧ in3 co (T 0 0) (T (n - 1) 0) = true ∧ (0 ≤ p ∧ p ≤ 16384) ∧ (0 ≤ ch ∧ ch ≤ 1000) ∧ (0 ≤ olo ∧ olo ≤ ohi ∧ ohi ≤ 100000) ∧ (0 ≤ slo ∧ slo ≤ shi ∧ shi ≤ 68719476736) ∧ (0 ≤ dy ∧ dy ≤ 68719476736)
def lowF (R : Int) (n : Nat) (T H : Nat → Nat → Int) (bl w co p ch olo slo dy : Int) : Flw := flow (holdV R n T H co) R w ch dy olo (p * bl) slo
/-- A step of the least or of the greatest course is in bounds. -/
theorem sp_fl {R : Int} {n m : Nat} {T H : Nat → Nat → Int} {bl bh w co p ch olo ohi slo shi dy : Int} (h : airB R n m T H bl bh = true) (hs : spB R n T bl bh w co p ch olo ohi slo shi dy) :
    (IntKind.i64.wrap (p * bl) = p * bl ∧ IntKind.i64.wrap (p * bh) = p * bh) ∧ flB w R ch dy olo (p * bl) slo ∧ flB w R ch dy ohi (p * bh) shi := by
  obtain ⟨h1, h2, h3, h4, h5, h6, h7⟩ := hs
  have hA := (airB_iff.1 h).1
  have m0 : 0 ≤ p * bl := Int.mul_nonneg (by omega) (by omega)
  have m1 : p * bl ≤ 16384 * 1048576 := Int.mul_le_mul (by omega) (by omega) (by omega) (by omega)
  have m2 : 0 ≤ p * bh := Int.mul_nonneg (by omega) (by omega)
  have m3 : p * bh ≤ 16384 * 1048576 := Int.mul_le_mul (by omega) (by omega) (by omega) (by omega)
  refine ⟨⟨wrap_id (by omega) (by omega), wrap_id (by omega) (by omega)⟩, ?_, ?_⟩
  · exact ⟨h1, hA.1, h4, h7, by omega, by omega, by omega⟩
  · exact ⟨h1, hA.1, h4, h7, by omega, by omega, by omega⟩
def leastSBase : BaseF := fun args => match args with
  | [.agg [.int .i64 R, .row n sz_T f_T, .row m sz_H f_H, .int .i64 bl, .int .i64 bh], .int .i64 w, .agg [.int .i64 co, .int .i64 p, .int .i64 ch, .int .i64 olo, .int .i64 ohi, .int .i64 slo, .int .i64 shi, .int .i64 dy]] => some ((sz_T = 1 ∧ IntR n 1 f_T) ∧ (sz_H = 1 ∧ IntR m 1 f_H) ∧ (airB R n m (ivf f_T) (ivf f_H) bl bh = true ∧ spB R n (ivf f_T) bl bh w co p ch olo ohi slo shi dy), flwA (lowF R n (ivf f_T) (ivf f_H) bl w co p ch olo slo dy))
  | _ => none
theorem leastS_eq (R : Int) (n : Nat) (sz_T : Nat) (f_T : Nat → Nat → SV) (m : Nat) (sz_H : Nat) (f_H : Nat → Nat → SV) (bl : Int) (bh : Int) (w : Int) (co : Int) (p : Int) (ch : Int) (olo : Int) (ohi : Int) (slo : Int) (shi : Int) (dy : Int) : leastSBase [.agg [.int .i64 R, .row n sz_T f_T, .row m sz_H f_H, .int .i64 bl, .int .i64 bh], .int .i64 w, .agg [.int .i64 co, .int .i64 p, .int .i64 ch, .int .i64 olo, .int .i64 ohi, .int .i64 slo, .int .i64 shi, .int .i64 dy]] = some ((sz_T = 1 ∧ IntR n 1 f_T) ∧ (sz_H = 1 ∧ IntR m 1 f_H) ∧ (airB R n m (ivf f_T) (ivf f_H) bl bh = true ∧ spB R n (ivf f_T) bl bh w co p ch olo ohi slo shi dy), flwA (lowF R n (ivf f_T) (ivf f_H) bl w co p ch olo slo dy)) := rfl
theorem leastS_base : Base Try.prog 44 leastSBase := by
  intro args p v hq hp
  unfold leastSBase at hq
  split at hq
  rotate_left
  · cases hq
  rename_i R n sz_T f_T m sz_H f_H bl bh w co p ch olo ohi slo shi dy
  cases hq
  obtain ⟨⟨rfl, i_T⟩, ⟨rfl, i_H⟩, pre⟩ := hp
  refine base_of (C := cx [] [] [(23, doFBase)] [] none) (cx_ok trivial ⟨doF_base, trivial⟩) rfl (g := 44) (fn := Try.f44)
    (args' := [.agg [.int .i64 R, .row n 1 (rowF .i64 (ivf f_T)), .row m 1 (rowF .i64 (ivf f_H)), .int .i64 bl, .int .i64 bh], .int .i64 w, .agg [.int .i64 co, .int .i64 p, .int .i64 ch, .int .i64 olo, .int .i64 ohi, .int .i64 slo, .int .i64 shi, .int .i64 dy]]) (fn_44) rfl 1000 (by
    simp only [BdL, Bd, and_self, and_true, true_and]
    exact ⟨(fun i j hi hj => by rw [i_T i j hi hj]; trivial), (fun i j hi hj => by rw [i_H i j hi hj]; trivial)⟩) ⟨SameD.agg ⟨SameD.rfl' _, SameD.int i_T, SameD.int i_H, SameD.rfl' _, SameD.rfl' _, trivial⟩, SameD.rfl' _, SameD.rfl' _, trivial⟩ ?_
  generalize ivf f_T = T at *
  generalize ivf f_H = H at *
  simp only [rowF_eq]
  simp only [doF_eq, flwA, Try.f44, go_sem, ↓reduceIte, Nat.reduceAdd, Nat.reduceSub, Nat.reduceMul, Nat.reduceEqDiff, Nat.reduceLT, Nat.reduceLeDiff, Int.reduceToNat, Int.reduceLE, Int.reduceLT, Int.reduceEq, Int.reduceNeg, reduceCtorEq]
  obtain ⟨⟨w1, w2⟩, f1, f2⟩ := sp_fl pre.1 pre.2
  simp only [w1, w2]
  refine ⟨⟨pre.1, pre.2.2.1, ?_⟩, rfl⟩
  first | exact f1 | exact f2
def greatSBase : BaseF := fun args => match args with
  | [.agg [.int .i64 R, .row n sz_T f_T, .row m sz_H f_H, .int .i64 bl, .int .i64 bh], .int .i64 w, .agg [.int .i64 co, .int .i64 p, .int .i64 ch, .int .i64 olo, .int .i64 ohi, .int .i64 slo, .int .i64 shi, .int .i64 dy]] => some ((sz_T = 1 ∧ IntR n 1 f_T) ∧ (sz_H = 1 ∧ IntR m 1 f_H) ∧ (airB R n m (ivf f_T) (ivf f_H) bl bh = true ∧ spB R n (ivf f_T) bl bh w co p ch olo ohi slo shi dy), flwA (lowF R n (ivf f_T) (ivf f_H) bh w co p ch ohi shi dy))
  | _ => none
theorem greatS_eq (R : Int) (n : Nat) (sz_T : Nat) (f_T : Nat → Nat → SV) (m : Nat) (sz_H : Nat) (f_H : Nat → Nat → SV) (bl : Int) (bh : Int) (w : Int) (co : Int) (p : Int) (ch : Int) (olo : Int) (ohi : Int) (slo : Int) (shi : Int) (dy : Int) : greatSBase [.agg [.int .i64 R, .row n sz_T f_T, .row m sz_H f_H, .int .i64 bl, .int .i64 bh], .int .i64 w, .agg [.int .i64 co, .int .i64 p, .int .i64 ch, .int .i64 olo, .int .i64 ohi, .int .i64 slo, .int .i64 shi, .int .i64 dy]] = some ((sz_T = 1 ∧ IntR n 1 f_T) ∧ (sz_H = 1 ∧ IntR m 1 f_H) ∧ (airB R n m (ivf f_T) (ivf f_H) bl bh = true ∧ spB R n (ivf f_T) bl bh w co p ch olo ohi slo shi dy), flwA (lowF R n (ivf f_T) (ivf f_H) bh w co p ch ohi shi dy)) := rfl
theorem greatS_base : Base Try.prog 45 greatSBase := by
  intro args p v hq hp
  unfold greatSBase at hq
  split at hq
  rotate_left
  · cases hq
  rename_i R n sz_T f_T m sz_H f_H bl bh w co p ch olo ohi slo shi dy
  cases hq
  obtain ⟨⟨rfl, i_T⟩, ⟨rfl, i_H⟩, pre⟩ := hp
  refine base_of (C := cx [] [] [(23, doFBase)] [] none) (cx_ok trivial ⟨doF_base, trivial⟩) rfl (g := 45) (fn := Try.f45)
    (args' := [.agg [.int .i64 R, .row n 1 (rowF .i64 (ivf f_T)), .row m 1 (rowF .i64 (ivf f_H)), .int .i64 bl, .int .i64 bh], .int .i64 w, .agg [.int .i64 co, .int .i64 p, .int .i64 ch, .int .i64 olo, .int .i64 ohi, .int .i64 slo, .int .i64 shi, .int .i64 dy]]) (fn_45) rfl 1000 (by
    simp only [BdL, Bd, and_self, and_true, true_and]
    exact ⟨(fun i j hi hj => by rw [i_T i j hi hj]; trivial), (fun i j hi hj => by rw [i_H i j hi hj]; trivial)⟩) ⟨SameD.agg ⟨SameD.rfl' _, SameD.int i_T, SameD.int i_H, SameD.rfl' _, SameD.rfl' _, trivial⟩, SameD.rfl' _, SameD.rfl' _, trivial⟩ ?_
  generalize ivf f_T = T at *
  generalize ivf f_H = H at *
  simp only [rowF_eq]
  simp only [doF_eq, flwA, Try.f45, go_sem, ↓reduceIte, Nat.reduceAdd, Nat.reduceSub, Nat.reduceMul, Nat.reduceEqDiff, Nat.reduceLT, Nat.reduceLeDiff, Int.reduceToNat, Int.reduceLE, Int.reduceLT, Int.reduceEq, Int.reduceNeg, reduceCtorEq]
  obtain ⟨⟨w1, w2⟩, f1, f2⟩ := sp_fl pre.1 pre.2
  simp only [w1, w2]
  refine ⟨⟨pre.1, pre.2.2.1, ?_⟩, rfl⟩
  first | exact f1 | exact f2
def crs (g : Nat) (w ca ou dr de : Int) : SV := .agg [.func g [], .int .i64 w, .int .i64 ca, .int .i64 ou, .int .i64 dr, .int .i64 de]
def smB (x : Int) : Prop := 0 ≤ x ∧ x ≤ 200000000000000
def stepBase : BaseF := fun args => match args with
  | [.agg [.func g [], .int .i64 w, .int .i64 ca, .int .i64 ou, .int .i64 dr, .int .i64 de], .rptr sz_1 c_1, .agg [.int .i64 co, .int .i64 p, .int .i64 ch, .int .i64 olo, .int .i64 ohi, .int .i64 slo, .int .i64 shi, .int .i64 dy]] => (match c_1 0, c_1 1, c_1 2, c_1 3, c_1 4 with | .int .i64 R, .row n sz_T f_T, .row m sz_H f_H, .int .i64 bl, .int .i64 bh => some ((sz_1 = 5) ∧ (sz_T = 1 ∧ IntR n 1 f_T) ∧ (sz_H = 1 ∧ IntR m 1 f_H) ∧ ((g = 62 ∨ g = 63) ∧ airB R n m (ivf f_T) (ivf f_H) bl bh = true ∧ spB R n (ivf f_T) bl bh w co p ch olo ohi slo shi dy ∧ smB ca ∧ smB ou ∧ smB dr ∧ smB de), (let f := lowF R n (ivf f_T) (ivf f_H) (if g = 62 then bl else bh) w co p ch (if g = 62 then olo else ohi) (if g = 62 then slo else shi) dy; crs g f.water (ca + f.came) (ou + f.out) (dr + f.dried) (de + f.dew))) | _, _, _, _, _ => none)
  | _ => none
theorem step_eq (g : Nat) (w : Int) (ca : Int) (ou : Int) (dr : Int) (de : Int) (sz_1 : Nat) (c_1 : Nat → SV) (co : Int) (p : Int) (ch : Int) (olo : Int) (ohi : Int) (slo : Int) (shi : Int) (dy : Int) : stepBase [.agg [.func g [], .int .i64 w, .int .i64 ca, .int .i64 ou, .int .i64 dr, .int .i64 de], .rptr sz_1 c_1, .agg [.int .i64 co, .int .i64 p, .int .i64 ch, .int .i64 olo, .int .i64 ohi, .int .i64 slo, .int .i64 shi, .int .i64 dy]] = (match c_1 0, c_1 1, c_1 2, c_1 3, c_1 4 with | .int .i64 R, .row n sz_T f_T, .row m sz_H f_H, .int .i64 bl, .int .i64 bh => some ((sz_1 = 5) ∧ (sz_T = 1 ∧ IntR n 1 f_T) ∧ (sz_H = 1 ∧ IntR m 1 f_H) ∧ ((g = 62 ∨ g = 63) ∧ airB R n m (ivf f_T) (ivf f_H) bl bh = true ∧ spB R n (ivf f_T) bl bh w co p ch olo ohi slo shi dy ∧ smB ca ∧ smB ou ∧ smB dr ∧ smB de), (let f := lowF R n (ivf f_T) (ivf f_H) (if g = 62 then bl else bh) w co p ch (if g = 62 then olo else ohi) (if g = 62 then slo else shi) dy; crs g f.water (ca + f.came) (ou + f.out) (dr + f.dried) (de + f.dew))) | _, _, _, _, _ => none) := rfl
theorem step_base : Base Try.prog 65 stepBase := by
  intro args p v hq hp
  unfold stepBase at hq
  split at hq
  rotate_left
  · cases hq
  rename_i g w ca ou dr de sz_1 c_1 co p ch olo ohi slo shi dy
  split at hq
  rotate_left
  · cases hq
  rename_i R n sz_T f_T m sz_H f_H bl bh h_1_0 h_1_1 h_1_2 h_1_3 h_1_4
  cases hq
  obtain ⟨rfl, ⟨rfl, i_T⟩, ⟨rfl, i_H⟩, pre⟩ := hp
  refine base_of (C := cx [] [] [(34, holdsBase), (62, leastEBase), (63, greatEBase)] [(65, 2, p65_2)] none) (cx_ok trivial ⟨holds_base, leastE_base, greatE_base, trivial⟩) rfl (g := 65) (fn := Try.f65)
    (args' := [.agg [.func g [], .int .i64 w, .int .i64 ca, .int .i64 ou, .int .i64 dr, .int .i64 de], .rptr 5 (fun j => nth [.int .i64 R, .row n 1 (rowF .i64 (ivf f_T)), .row m 1 (rowF .i64 (ivf f_H)), .int .i64 bl, .int .i64 bh] j), .agg [.int .i64 co, .int .i64 p, .int .i64 ch, .int .i64 olo, .int .i64 ohi, .int .i64 slo, .int .i64 shi, .int .i64 dy]]) (fn_65) rfl 1000 (by
    simp only [BdL, Bd, and_self, and_true, true_and]
    exact (fun j hj => by
      have hj : j = 0 ∨ j = 1 ∨ j = 2 ∨ j = 3 ∨ j = 4 := by omega
      rcases hj with rfl | rfl | rfl | rfl | rfl
      · rw [h_1_0]; simp only [BdL, Bd, and_self, and_true, true_and]
      · rw [h_1_1]; simp only [BdL, Bd, and_self, and_true, true_and]; exact (fun i j hi hj => by rw [i_T i j hi hj]; trivial)
      · rw [h_1_2]; simp only [BdL, Bd, and_self, and_true, true_and]; exact (fun i j hi hj => by rw [i_H i j hi hj]; trivial)
      · rw [h_1_3]; simp only [BdL, Bd, and_self, and_true, true_and]
      · rw [h_1_4]; simp only [BdL, Bd, and_self, and_true, true_and])) ⟨SameD.agg ⟨SameD.rfl' _, SameD.rfl' _, SameD.rfl' _, SameD.rfl' _, SameD.rfl' _, SameD.rfl' _, trivial⟩, SameD.rptr (fun j hj => by
      have hj : j = 0 ∨ j = 1 ∨ j = 2 ∨ j = 3 ∨ j = 4 := by omega
      rcases hj with rfl | rfl | rfl | rfl | rfl
      · rw [h_1_0]; exact SameD.rfl' _
      · rw [h_1_1]; exact SameD.int i_T
      · rw [h_1_2]; exact SameD.int i_H
      · rw [h_1_3]; exact SameD.rfl' _
      · rw [h_1_4]; exact SameD.rfl' _), SameD.rfl' _, trivial⟩ ?_
  generalize ivf f_T = T at *
  generalize ivf f_H = H at *
  simp only [rowF_eq]
  obtain ⟨hg, p1, p2, s1, s2, s3, s4⟩ := pre
  rcases hg with rfl | rfl
  all_goals simp only [holds_eq, leastE_eq, greatE_eq, p65_2, crs, Try.f65, go_sem, ↓reduceIte, Nat.reduceAdd, Nat.reduceSub, Nat.reduceMul, Nat.reduceEqDiff, Nat.reduceLT, Nat.reduceLeDiff, Int.reduceToNat, Int.reduceLE, Int.reduceLT, Int.reduceEq, Int.reduceNeg, reduceCtorEq]
  · obtain ⟨v, hv, v1, v2, v3, v4, v5, v6⟩ := holdV_bd p1 p2.2.1
    obtain ⟨⟨w1, w2⟩, f1, f2⟩ := sp_fl p1 p2
    obtain ⟨hw, hR, hc, hd, ho, hbb, hs⟩ := id f1
    obtain ⟨o0, o1, o2⟩ := out_eq hw hc
    obtain ⟨c0, c1, c2⟩ := came_eq ho hR hc
    refine ⟨by omega, ⟨by kernel_rfl, by kernel_rfl⟩, by omega, ⟨p1, p2.2.1⟩, trivial, ?_⟩
    simp only [lowF, flow, o0, c0, w1]
    unfold smB at s1 s2 s3 s4
    clear o0 c0 w1 w2 f1 f2 p1 p2 hv v1 v2 v3 v4
    generalize (w * ch + 999) / 1000 = x at *
    generalize olo * R * ch / 1000 = y at *
    generalize p * bl = b at *
    generalize holdV R n T H co = hh at *
    simp only [wrap_id (x := y + b) (by omega) (by omega), wrap_id (x := y + b + slo) (by omega) (by omega), wrap_id (x := w - x) (by omega) (by omega), wrap_id (x := w - x + (y + b + slo)) (by omega) (by omega)]
    have hl : 0 ≤ w - x + (y + b + slo) ∧ w - x + (y + b + slo) ≤ 600000000000 := by omega
    generalize hL : w - x + (y + b + slo) = L at *
    simp only [wrap_id (x := ca + (y + b + slo)) (by omega) (by omega), wrap_id (x := ou + x) (by omega) (by omega), Int.min_comm L dy]
    simp only [wrap_id (x := L - min dy L) (by omega) (by omega), wrap_id (x := dr + min dy L) (by omega) (by omega)]
    simp only [wrap_id (x := de + (L - min dy L)) (by omega) (by omega)]
    simp only [Int.add_sub_assoc]
    simp only [wrap_id (x := de + (L - min dy L - min (L - min dy L) hh)) (by omega) (by omega)]
  · obtain ⟨v, hv, v1, v2, v3, v4, v5, v6⟩ := holdV_bd p1 p2.2.1
    obtain ⟨⟨w1, w2⟩, f1, f2⟩ := sp_fl p1 p2
    obtain ⟨hw, hR, hc, hd, ho, hbb, hs⟩ := id f2
    obtain ⟨o0, o1, o2⟩ := out_eq hw hc
    obtain ⟨c0, c1, c2⟩ := came_eq ho hR hc
    refine ⟨by omega, ⟨by kernel_rfl, by kernel_rfl⟩, by omega, ⟨p1, p2.2.1⟩, trivial, ?_⟩
    simp only [lowF, flow, o0, c0, w2]
    unfold smB at s1 s2 s3 s4
    clear o0 c0 w1 w2 f1 f2 p1 p2 hv v1 v2 v3 v4
    generalize (w * ch + 999) / 1000 = x at *
    generalize ohi * R * ch / 1000 = y at *
    generalize p * bh = b at *
    generalize holdV R n T H co = hh at *
    simp only [wrap_id (x := y + b) (by omega) (by omega), wrap_id (x := y + b + shi) (by omega) (by omega), wrap_id (x := w - x) (by omega) (by omega), wrap_id (x := w - x + (y + b + shi)) (by omega) (by omega)]
    have hl : 0 ≤ w - x + (y + b + shi) ∧ w - x + (y + b + shi) ≤ 600000000000 := by omega
    generalize hL : w - x + (y + b + shi) = L at *
    simp only [wrap_id (x := ca + (y + b + shi)) (by omega) (by omega), wrap_id (x := ou + x) (by omega) (by omega), Int.min_comm L dy]
    simp only [wrap_id (x := L - min dy L) (by omega) (by omega), wrap_id (x := dr + min dy L) (by omega) (by omega)]
    simp only [wrap_id (x := de + (L - min dy L)) (by omega) (by omega)]
    simp only [Int.add_sub_assoc]
    simp only [wrap_id (x := de + (L - min dy L - min (L - min dy L) hh)) (by omega) (by omega)]
end Go.Eng
end

/- air: runs, the plain words. -/
section
namespace Go.Eng
structure Cr where
  w : Int
  ca : Int
  ou : Int
  dr : Int
  de : Int
section
variable (R : Int) (n : Nat) (T H : Nat → Nat → Int) (bl bh : Int)
def stL (s : Nat → Int) (c : Cr) : Cr := ⟨(lowF R n T H bl c.w (s 0) (s 1) (s 2) (s 3) (s 5) (s 7)).water, c.ca + (lowF R n T H bl c.w (s 0) (s 1) (s 2) (s 3) (s 5) (s 7)).came, c.ou + (lowF R n T H bl c.w (s 0) (s 1) (s 2) (s 3) (s 5) (s 7)).out,
  c.dr + (lowF R n T H bl c.w (s 0) (s 1) (s 2) (s 3) (s 5) (s 7)).dried, c.de + (lowF R n T H bl c.w (s 0) (s 1) (s 2) (s 3) (s 5) (s 7)).dew⟩
def stH (s : Nat → Int) (c : Cr) : Cr := ⟨(lowF R n T H bh c.w (s 0) (s 1) (s 2) (s 4) (s 6) (s 7)).water, c.ca + (lowF R n T H bh c.w (s 0) (s 1) (s 2) (s 4) (s 6) (s 7)).came, c.ou + (lowF R n T H bh c.w (s 0) (s 1) (s 2) (s 4) (s 6) (s 7)).out,
  c.dr + (lowF R n T H bh c.w (s 0) (s 1) (s 2) (s 4) (s 6) (s 7)).dried, c.de + (lowF R n T H bh c.w (s 0) (s 1) (s 2) (s 4) (s 6) (s 7)).dew⟩
def atL (l : Nat → Nat → Int) (w : Int) : Nat → Cr
  | 0 => ⟨w, 0, 0, 0, 0⟩
  | i + 1 => stL R n T H bl (l i) (atL l w i)
def atH (l : Nat → Nat → Int) (w : Int) : Nat → Cr
  | 0 => ⟨w, 0, 0, 0, 0⟩
  | i + 1 => stH R n T H bh (l i) (atH l w i)
end
def crB (k : Int) (c : Cr) : Prop := (0 ≤ c.w ∧ c.w ≤ 274877906944) ∧ (0 ≤ c.ca ∧ c.ca ≤ 600000000000 * k) ∧ (0 ≤ c.ou ∧ c.ou ≤ 600000000000 * k) ∧ (0 ≤ c.dr ∧ c.dr ≤ 600000000000 * k) ∧ (0 ≤ c.de ∧ c.de ≤ 600000000000 * k)
theorem okS_sp {R : Int} {n : Nat} {T : Nat → Nat → Int} {bl bh w : Int} {s : Nat → Int} (h : okS (T 0 0) (T (n - 1) 0) s = true) (hw : 0 ≤ w ∧ w ≤ 274877906944) : spB R n T bl bh w (s 0) (s 1) (s 2) (s 3) (s 4) (s 5) (s 6) (s 7) := by
  simp only [okS, Bool.and_eq_true, sp3_iff] at h
  obtain ⟨h1, h2, h3, h4, h5, h6⟩ := h
  exact ⟨hw, h1, in3_iff.1 h2, in3_iff.1 h3, h4, h5, in3_iff.1 h6⟩
theorem valid_iff {R : Int} {n m : Nat} {T H : Nat → Nat → Int} {bl bh wl wh : Int} {k : Nat} {l : Nat → Nat → Int} : validB R n m T H bl bh wl wh k l = true ↔ airB R n m T H bl bh = true ∧ (0 ≤ wl ∧ wl ≤ wh ∧ wh ≤ 274877906944) ∧ k ≤ 200 ∧ ∀ i, i < k → okS (T 0 0) (T (n - 1) 0) (l i) = true := by
  simp only [validB, stepsB, Bool.and_eq_true, sp3_iff, decide_eq_true_eq, allU_iff]
section
variable {R : Int} {n m : Nat} {T H : Nat → Nat → Int} {bl bh : Int}
theorem stL_bd (h : airB R n m T H bl bh = true) {s : Nat → Int} (hs : okS (T 0 0) (T (n - 1) 0) s = true) {c : Cr} {k : Int} (hc : crB k c) : crB (k + 1) (stL R n T H bl s c) := by
  obtain ⟨c1, c2, c3, c4, c5⟩ := hc
  have hsp := okS_sp (R := R) (bl := bl) (bh := bh) hs c1
  obtain ⟨v, hv, v1, v2, v3, v4, v5, v6⟩ := holdV_bd h hsp.2.1
  have hf := flow_bd (hold := holdV R n T H (s 0)) (sp_fl h hsp).2.1 (by omega)
  obtain ⟨f1, f2, f3, f4, f5⟩ := hf
  exact ⟨⟨f1.1, by show (lowF R n T H bl c.w (s 0) (s 1) (s 2) (s 3) (s 5) (s 7)).water ≤ _; have := f1.2; unfold lowF; omega⟩, ⟨by show 0 ≤ c.ca + (lowF R n T H bl c.w (s 0) (s 1) (s 2) (s 3) (s 5) (s 7)).came; unfold lowF; omega, by show c.ca + (lowF R n T H bl c.w (s 0) (s 1) (s 2) (s 3) (s 5) (s 7)).came ≤ _; unfold lowF; omega⟩,
    ⟨by show 0 ≤ c.ou + (lowF R n T H bl c.w (s 0) (s 1) (s 2) (s 3) (s 5) (s 7)).out; unfold lowF; omega, by show c.ou + (lowF R n T H bl c.w (s 0) (s 1) (s 2) (s 3) (s 5) (s 7)).out ≤ _; unfold lowF; omega⟩,
    ⟨by show 0 ≤ c.dr + (lowF R n T H bl c.w (s 0) (s 1) (s 2) (s 3) (s 5) (s 7)).dried; unfold lowF; omega, by show c.dr + (lowF R n T H bl c.w (s 0) (s 1) (s 2) (s 3) (s 5) (s 7)).dried ≤ _; unfold lowF; omega⟩,
    ⟨by show 0 ≤ c.de + (lowF R n T H bl c.w (s 0) (s 1) (s 2) (s 3) (s 5) (s 7)).dew; unfold lowF; omega, by show c.de + (lowF R n T H bl c.w (s 0) (s 1) (s 2) (s 3) (s 5) (s 7)).dew ≤ _; unfold lowF; omega⟩⟩
theorem stH_bd (h : airB R n m T H bl bh = true) {s : Nat → Int} (hs : okS (T 0 0) (T (n - 1) 0) s = true) {c : Cr} {k : Int} (hc : crB k c) : crB (k + 1) (stH R n T H bh s c) := by
  obtain ⟨c1, c2, c3, c4, c5⟩ := hc
  have hsp := okS_sp (R := R) (bl := bl) (bh := bh) hs c1
  obtain ⟨v, hv, v1, v2, v3, v4, v5, v6⟩ := holdV_bd h hsp.2.1
  have hf := flow_bd (hold := holdV R n T H (s 0)) (sp_fl h hsp).2.2 (by omega)
  obtain ⟨f1, f2, f3, f4, f5⟩ := hf
  exact ⟨⟨f1.1, by show (lowF R n T H bh c.w (s 0) (s 1) (s 2) (s 4) (s 6) (s 7)).water ≤ _; have := f1.2; unfold lowF; omega⟩, ⟨by show 0 ≤ c.ca + (lowF R n T H bh c.w (s 0) (s 1) (s 2) (s 4) (s 6) (s 7)).came; unfold lowF; omega, by show c.ca + (lowF R n T H bh c.w (s 0) (s 1) (s 2) (s 4) (s 6) (s 7)).came ≤ _; unfold lowF; omega⟩,
    ⟨by show 0 ≤ c.ou + (lowF R n T H bh c.w (s 0) (s 1) (s 2) (s 4) (s 6) (s 7)).out; unfold lowF; omega, by show c.ou + (lowF R n T H bh c.w (s 0) (s 1) (s 2) (s 4) (s 6) (s 7)).out ≤ _; unfold lowF; omega⟩,
    ⟨by show 0 ≤ c.dr + (lowF R n T H bh c.w (s 0) (s 1) (s 2) (s 4) (s 6) (s 7)).dried; unfold lowF; omega, by show c.dr + (lowF R n T H bh c.w (s 0) (s 1) (s 2) (s 4) (s 6) (s 7)).dried ≤ _; unfold lowF; omega⟩,
    ⟨by show 0 ≤ c.de + (lowF R n T H bh c.w (s 0) (s 1) (s 2) (s 4) (s 6) (s 7)).dew; unfold lowF; omega, by show c.de + (lowF R n T H bh c.w (s 0) (s 1) (s 2) (s 4) (s 6) (s 7)).dew ≤ _; unfold lowF; omega⟩⟩
theorem atL_bd (h : airB R n m T H bl bh = true) {l : Nat → Nat → Int} {k : Nat} (hl : ∀ i, i < k → okS (T 0 0) (T (n - 1) 0) (l i) = true) {w : Int} (hw : 0 ≤ w ∧ w ≤ 274877906944) : ∀ i, i ≤ k → crB i (atL R n T H bl l w i)
  | 0, _ => ⟨hw, by simp [atL], by simp [atL], by simp [atL], by simp [atL]⟩
  | i + 1, hi => stL_bd h (hl i (by omega)) (atL_bd h hl hw i (by omega))
theorem atH_bd (h : airB R n m T H bl bh = true) {l : Nat → Nat → Int} {k : Nat} (hl : ∀ i, i < k → okS (T 0 0) (T (n - 1) 0) (l i) = true) {w : Int} (hw : 0 ≤ w ∧ w ≤ 274877906944) : ∀ i, i ≤ k → crB i (atH R n T H bh l w i)
  | 0, _ => ⟨hw, by simp [atH], by simp [atH], by simp [atH], by simp [atH]⟩
  | i + 1, hi => stH_bd h (hl i (by omega)) (atH_bd h hl hw i (by omega))
end
/-- What is told of the water: the ends, the sums. -/
structure ROut where
  x : Cr
  y : Cr
  e : Int
def rTup (o : ROut) : SV := .tup [.agg [.int .i64 o.x.w, .int .i64 o.y.w], .agg [.int .i64 o.x.ca, .int .i64 o.y.ca, .int .i64 o.x.ou, .int .i64 o.y.ou, .int .i64 o.x.dr, .int .i64 o.y.dr, .int .i64 o.x.de, .int .i64 o.y.de], .int .i64 o.e]
def airRun (R : Int) (n m : Nat) (T H : Nat → Nat → Int) (bl bh wl wh : Int) (k : Nat) (l : Nat → Nat → Int) : ROut :=
  if validB R n m T H bl bh wl wh k l = true then ⟨atL R n T H bl l wl k, atH R n T H bh l wh k, 0⟩ else ⟨⟨0, 0, 0, 0, 0⟩, ⟨0, 0, 0, 0, 0⟩, 1⟩
end Go.Eng
end
