/-
  A part of the symbolic machine, of its soundness, and of what functions compute. No condition.
-/
import Derived.Test.YtiimhkdjechkpaaE4
set_option linter.unusedSimpArgs false
set_option linter.unusedVariables false
/- Ways through the regions whose order is drawn. -/
section
namespace Go.Eng
def p5_30 : Plan := .quiet 0 (.quiet 1 (.quiet 2 (.quiet 3 (.quiet 4 (.quiet 5 (.quiet 6 (.quiet 7 (.quiet 8 (.done)))))))))
def p5_31 : Plan := .quiet 0 (.quiet 1 (.quiet 2 (.quiet 3 (.quiet 4 (.quiet 5 (.quiet 6 (.quiet 7 (.quiet 8 (.done)))))))))
def p7_24 : Plan := .quiet 0 (.quiet 1 (.quiet 2 (.quiet 3 (.quiet 4 (.quiet 5 (.quiet 6 (.quiet 7 (.quiet 8 (.quiet 9 (.quiet 10 (.quiet 11 (.quiet 12 (.done)))))))))))))
def p8_17 : Plan := .quiet 0 (.quiet 1 (.quiet 2 (.quiet 3 (.quiet 4 (.quiet 5 (.quiet 6 (.quiet 7 (.quiet 8 (.quiet 9 (.done))))))))))
def p9_21 : Plan := .quiet 0 (.quiet 1 (.quiet 2 (.quiet 3 (.quiet 4 (.quiet 5 (.done))))))
def p9_26 : Plan := .quiet 0 (.quiet 1 (.quiet 2 (.quiet 3 (.quiet 4 (.quiet 5 (.quiet 6 (.quiet 7 (.quiet 8 (.quiet 9 (.quiet 10 (.quiet 11 (.quiet 12 (.quiet 13 (.quiet 14 (.quiet 15 (.quiet 16 (.quiet 17 (.quiet 18 (.quiet 19 (.quiet 20 (.quiet 21 (.quiet 22 (.quiet 23 (.quiet 24 (.quiet 25 (.quiet 26 (.quiet 27 (.quiet 28 (.quiet 29 (.quiet 30 (.done)))))))))))))))))))))))))))))))
def p12_19 : Plan := .quiet 0 (.quiet 1 (.quiet 2 (.quiet 3 (.quiet 4 (.quiet 5 (.done))))))
def p14_6 : Plan := .quiet 0 (.quiet 1 (.quiet 2 (.quiet 3 (.quiet 4 (.quiet 5 (.quiet 6 (.quiet 7 (.quiet 8 (.done)))))))))
def p16_20 : Plan := .quiet 0 (.quiet 1 (.loud 2 [1] (.loud 3 [] (.quiet 4 (.done)))))
def p17_21 : Plan := .quiet 0 (.quiet 1 (.quiet 2 (.quiet 3 (.quiet 4 (.quiet 5 (.quiet 6 (.quiet 7 (.quiet 8 (.quiet 9 (.quiet 10 (.quiet 11 (.quiet 12 (.quiet 13 (.quiet 14 (.quiet 15 (.quiet 16 (.loud 17 [] (.done))))))))))))))))))
def p18_10 : Plan := .quiet 0 (.quiet 1 (.quiet 2 (.quiet 3 (.quiet 4 (.quiet 5 (.quiet 6 (.quiet 7 (.quiet 8 (.quiet 9 (.quiet 10 (.quiet 11 (.quiet 12 (.loud 13 [] (.done))))))))))))))
def p18_11 : Plan := .quiet 0 (.quiet 1 (.quiet 2 (.quiet 3 (.quiet 4 (.quiet 5 (.quiet 6 (.quiet 7 (.quiet 8 (.quiet 9 (.quiet 10 (.quiet 11 (.quiet 12 (.quiet 13 (.quiet 14 (.loud 15 [] (.done))))))))))))))))
def p18_12 : Plan := .quiet 0 (.quiet 1 (.quiet 2 (.quiet 3 (.quiet 4 (.quiet 5 (.quiet 6 (.quiet 7 (.quiet 8 (.loud 9 [] (.done))))))))))
def p18_13 : Plan := .quiet 0 (.quiet 1 (.quiet 2 (.quiet 3 (.quiet 4 (.quiet 5 (.quiet 6 (.quiet 7 (.quiet 8 (.loud 9 [] (.done))))))))))
def p19_13 : Plan := .quiet 0 (.quiet 1 (.quiet 2 (.quiet 3 (.quiet 4 (.quiet 5 (.quiet 6 (.quiet 7 (.quiet 8 (.quiet 9 (.quiet 10 (.quiet 11 (.quiet 12 (.done)))))))))))))
def p19_15 : Plan := .quiet 0 (.quiet 1 (.quiet 2 (.quiet 3 (.quiet 4 (.quiet 5 (.quiet 6 (.quiet 7 (.quiet 8 (.quiet 9 (.quiet 10 (.quiet 11 (.quiet 12 (.quiet 13 (.quiet 14 (.done)))))))))))))))
def p19_17 : Plan := .quiet 0 (.quiet 1 (.quiet 2 (.quiet 3 (.quiet 4 (.quiet 5 (.quiet 6 (.quiet 7 (.quiet 8 (.quiet 9 (.quiet 10 (.quiet 11 (.loud 12 [] (.done)))))))))))))
def p19_18 : Plan := .quiet 0 (.quiet 1 (.quiet 2 (.quiet 3 (.quiet 4 (.quiet 5 (.quiet 6 (.quiet 7 (.quiet 8 (.quiet 9 (.quiet 10 (.quiet 11 (.loud 12 [] (.done)))))))))))))
def p20_5 : Plan := .quiet 0 (.quiet 1 (.quiet 2 (.quiet 3 (.quiet 4 (.quiet 5 (.both (.loud 6 [0, 1, 2, 3, 4, 5] (.loud 7 [0, 1, 2, 3, 4, 5] (.loud 8 [3, 4, 5] (.loud 9 [] (.done))))) (.loud 7 [0, 1, 2, 3, 4, 5] (.loud 6 [0, 1, 2, 3, 4, 5] (.loud 8 [3, 4, 5] (.loud 9 [] (.done)))))))))))
def p21_10 : Plan := .quiet 0 (.quiet 1 (.quiet 2 (.quiet 3 (.quiet 4 (.quiet 5 (.quiet 6 (.quiet 7 (.quiet 8 (.quiet 9 (.quiet 10 (.quiet 11 (.quiet 12 (.quiet 13 (.quiet 14 (.quiet 15 (.quiet 16 (.quiet 17 (.quiet 18 (.quiet 19 (.quiet 20 (.quiet 21 (.quiet 22 (.quiet 23 (.quiet 24 (.quiet 25 (.quiet 26 (.quiet 27 (.quiet 28 (.quiet 29 (.quiet 30 (.quiet 31 (.quiet 32 (.loud 33 [] (.done))))))))))))))))))))))))))))))))))
def p23_7 : Plan := .quiet 0 (.quiet 1 (.quiet 2 (.quiet 3 (.quiet 4 (.quiet 5 (.quiet 6 (.quiet 7 (.quiet 8 (.quiet 9 (.quiet 10 (.quiet 11 (.quiet 12 (.quiet 13 (.quiet 14 (.quiet 15 (.done))))))))))))))))
def p25_5 : Plan := .quiet 0 (.quiet 1 (.quiet 2 (.quiet 3 (.quiet 4 (.quiet 5 (.quiet 6 (.quiet 7 (.quiet 8 (.quiet 9 (.quiet 10 (.quiet 11 (.quiet 12 (.done)))))))))))))
def p25_6 : Plan := .quiet 0 (.quiet 1 (.quiet 2 (.quiet 3 (.quiet 4 (.quiet 5 (.quiet 6 (.quiet 7 (.quiet 8 (.quiet 9 (.quiet 10 (.quiet 11 (.quiet 12 (.quiet 13 (.quiet 14 (.quiet 15 (.quiet 16 (.quiet 17 (.quiet 18 (.done)))))))))))))))))))
def p26_5 : Plan := .quiet 0 (.quiet 1 (.quiet 2 (.quiet 3 (.quiet 4 (.quiet 5 (.quiet 6 (.quiet 7 (.quiet 8 (.quiet 9 (.quiet 10 (.quiet 11 (.quiet 12 (.done)))))))))))))
def p29_4 : Plan := .quiet 0 (.quiet 1 (.quiet 2 (.quiet 3 (.quiet 4 (.quiet 5 (.quiet 6 (.quiet 7 (.quiet 8 (.quiet 9 (.quiet 10 (.quiet 11 (.quiet 12 (.quiet 13 (.quiet 14 (.quiet 15 (.quiet 16 (.quiet 17 (.quiet 18 (.quiet 19 (.quiet 20 (.quiet 21 (.quiet 22 (.quiet 23 (.quiet 24 (.quiet 25 (.quiet 26 (.quiet 27 (.quiet 28 (.quiet 29 (.quiet 30 (.quiet 31 (.quiet 32 (.quiet 33 (.quiet 34 (.quiet 35 (.quiet 36 (.quiet 37 (.quiet 38 (.quiet 39 (.quiet 40 (.quiet 41 (.quiet 42 (.done)))))))))))))))))))))))))))))))))))))))))))
def p30_1 : Plan := .quiet 0 (.quiet 1 (.quiet 2 (.quiet 3 (.quiet 4 (.quiet 5 (.quiet 6 (.quiet 7 (.quiet 8 (.quiet 9 (.quiet 10 (.quiet 11 (.quiet 12 (.done)))))))))))))
def p37_11 : Plan := .quiet 0 (.quiet 1 (.quiet 2 (.quiet 3 (.quiet 4 (.quiet 5 (.quiet 6 (.quiet 7 (.quiet 8 (.quiet 9 (.quiet 10 (.quiet 11 (.quiet 12 (.quiet 13 (.quiet 14 (.quiet 15 (.quiet 16 (.loud 17 [4, 5, 6, 7, 8, 9] (.quiet 18 (.loud 19 [] (.quiet 20 (.loud 21 [] (.done))))))))))))))))))))))
def p48_5 : Plan := .quiet 0 (.quiet 1 (.loud 2 [0, 1] (.loud 3 [] (.done))))
def p51_6 : Plan := .quiet 0 (.quiet 1 (.quiet 2 (.quiet 3 (.quiet 4 (.quiet 5 (.quiet 6 (.quiet 7 (.quiet 8 (.quiet 9 (.quiet 10 (.quiet 11 (.done))))))))))))
def p54_1 : Plan := .quiet 0 (.quiet 1 (.quiet 2 (.quiet 3 (.quiet 4 (.quiet 5 (.quiet 6 (.quiet 7 (.quiet 8 (.quiet 9 (.quiet 10 (.quiet 11 (.quiet 12 (.quiet 13 (.loud 14 [] (.done)))))))))))))))
def p55_1 : Plan := .quiet 0 (.quiet 1 (.quiet 2 (.quiet 3 (.quiet 4 (.quiet 5 (.quiet 6 (.quiet 7 (.quiet 8 (.quiet 9 (.quiet 10 (.quiet 11 (.quiet 12 (.quiet 13 (.loud 14 [] (.done)))))))))))))))
def p37_10 : Plan := .quiet 0 (.quiet 1 (.quiet 2 (.quiet 3 (.quiet 4 (.both (.loud 5 [] (.loud 6 [] (.loud 7 [] .done))) (.loud 6 [0, 1, 2, 4] (.loud 5 [] (.loud 7 [] .done))))))))
end Go.Eng
end

/- money: small functions. -/
section
namespace Go.Eng
open Go Go.RowKit Go.Proofs
set_option maxRecDepth 100000
set_option maxHeartbeats 4000000
attribute [local irreducible] OwnT DefS
def in3 (n lo hi : Int) : Bool := decide (lo ≤ n) && decide (n ≤ hi)
theorem in3_iff {n lo hi : Int} : in3 n lo hi = true ↔ lo ≤ n ∧ n ≤ hi := by simp [in3]
theorem wrap_id {x : Int} (h1 : -9223372036854775808 ≤ x) (h2 : x ≤ 9223372036854775807) : IntKind.i64.wrap x = x := by
  simp [IntKind.wrap, IntKind.signed, IntKind.bits]
  omega
/-- A span is within limits. -/
def spB (lo hi : Int) : Bool := in3 lo 0 1099511627776 && (in3 hi 0 1099511627776 && decide (lo ≤ hi))
theorem spB_iff {lo hi : Int} : spB lo hi = true ↔ 0 ≤ lo ∧ lo ≤ hi ∧ hi ≤ 1099511627776 := by
  simp [spB, in3_iff]; omega
def tkB (t : Nat → Int) : Bool := in3 (t 0) 0 12 && (in3 (t 1) 0 12 && in3 (t 2) 0 1048576)
theorem tkB_iff {t : Nat → Int} : tkB t = true ↔ (0 ≤ t 0 ∧ t 0 ≤ 12) ∧ (0 ≤ t 1 ∧ t 1 ≤ 12) ∧ 0 ≤ t 2 ∧ t 2 ≤ 1048576 := by simp [tkB, in3_iff]
def inBase : BaseF := fun args => match args with
  | [.int .i64 n, .int .i64 lo, .int .i64 hi] => some (True, .bool (in3 n lo hi))
  | _ => none
theorem in_eq (n : Int) (lo : Int) (hi : Int) : inBase [.int .i64 n, .int .i64 lo, .int .i64 hi] = some (True, .bool (in3 n lo hi)) := rfl
theorem in_base : Base Try.prog 39 inBase := by
  intro args p v hq hp
  unfold inBase at hq
  split at hq
  rotate_left
  · cases hq
  rename_i n lo hi
  cases hq
  refine base_of (C := cx [] [] [] [] none) (cx_ok trivial trivial) rfl (g := 39) (fn := Try.f39)
    (args' := [.int .i64 n, .int .i64 lo, .int .i64 hi]) (fn_39) rfl 1000 (by simp only [BdL, Bd, and_self, and_true, true_and]) ⟨SameD.rfl' _, SameD.rfl' _, SameD.rfl' _, trivial⟩ ?_
  simp only [Try.f39, go_sem, ↓reduceIte, Nat.reduceAdd, Nat.reduceSub, Nat.reduceMul, Nat.reduceEqDiff, Nat.reduceLT, Nat.reduceLeDiff, Int.reduceToNat, Int.reduceLE, Int.reduceLT, Int.reduceEq, Int.reduceNeg, reduceCtorEq]
  (repeat' refine And.intro (fun _ => ?_) (fun _ => ?_)) <;> simp_all [in3] <;> omega
def withinBase : BaseF := fun args => match args with
  | [.int .i64 n, .int .i64 lo, .int .i64 hi] => some (True, .bool (in3 n lo hi))
  | _ => none
theorem within_eq (n : Int) (lo : Int) (hi : Int) : withinBase [.int .i64 n, .int .i64 lo, .int .i64 hi] = some (True, .bool (in3 n lo hi)) := rfl
theorem within_base : Base Try.prog 42 withinBase := by
  intro args p v hq hp
  unfold withinBase at hq
  split at hq
  rotate_left
  · cases hq
  rename_i n lo hi
  cases hq
  refine base_of (C := cx [] [] [] [] none) (cx_ok trivial trivial) rfl (g := 42) (fn := Try.f42)
    (args' := [.int .i64 n, .int .i64 lo, .int .i64 hi]) (fn_42) rfl 1000 (by simp only [BdL, Bd, and_self, and_true, true_and]) ⟨SameD.rfl' _, SameD.rfl' _, SameD.rfl' _, trivial⟩ ?_
  simp only [Try.f42, go_sem, ↓reduceIte, Nat.reduceAdd, Nat.reduceSub, Nat.reduceMul, Nat.reduceEqDiff, Nat.reduceLT, Nat.reduceLeDiff, Int.reduceToNat, Int.reduceLE, Int.reduceLT, Int.reduceEq, Int.reduceNeg, reduceCtorEq]
  (repeat' refine And.intro (fun _ => ?_) (fun _ => ?_)) <;> simp_all [in3] <;> omega
def isCrowdBase : BaseF := fun args => match args with
  | [.int .i64 n] => some (True, .bool (in3 n 0 12))
  | _ => none
theorem isCrowd_eq (n : Int) : isCrowdBase [.int .i64 n] = some (True, .bool (in3 n 0 12)) := rfl
theorem isCrowd_base : Base Try.prog 35 isCrowdBase := by
  intro args p v hq hp
  unfold isCrowdBase at hq
  split at hq
  rotate_left
  · cases hq
  rename_i n
  cases hq
  refine base_of (C := cx [] [] [(42, withinBase)] [] none) (cx_ok trivial ⟨within_base, trivial⟩) rfl (g := 35) (fn := Try.f35)
    (args' := [.int .i64 n]) (fn_35) rfl 1000 (by simp only [BdL, Bd, and_self, and_true, true_and]) ⟨SameD.rfl' _, trivial⟩ ?_
  simp only [within_eq, Try.f35, go_sem, ↓reduceIte, Nat.reduceAdd, Nat.reduceSub, Nat.reduceMul, Nat.reduceEqDiff, Nat.reduceLT, Nat.reduceLeDiff, Int.reduceToNat, Int.reduceLE, Int.reduceLT, Int.reduceEq, Int.reduceNeg, reduceCtorEq]
def isAmountBase : BaseF := fun args => match args with
  | [.int .i64 n] => some (True, .bool (in3 n 0 1099511627776))
  | _ => none
theorem isAmount_eq (n : Int) : isAmountBase [.int .i64 n] = some (True, .bool (in3 n 0 1099511627776)) := rfl
theorem isAmount_base : Base Try.prog 47 isAmountBase := by
  intro args p v hq hp
  unfold isAmountBase at hq
  split at hq
  rotate_left
  · cases hq
  rename_i n
  cases hq
  refine base_of (C := cx [] [] [(42, withinBase)] [] none) (cx_ok trivial ⟨within_base, trivial⟩) rfl (g := 47) (fn := Try.f47)
    (args' := [.int .i64 n]) (fn_47) rfl 1000 (by simp only [BdL, Bd, and_self, and_true, true_and]) ⟨SameD.rfl' _, trivial⟩ ?_
  simp only [within_eq, Try.f47, go_sem, ↓reduceIte, Nat.reduceAdd, Nat.reduceSub, Nat.reduceMul, Nat.reduceEqDiff, Nat.reduceLT, Nat.reduceLeDiff, Int.reduceToNat, Int.reduceLE, Int.reduceLT, Int.reduceEq, Int.reduceNeg, reduceCtorEq]
def isTicketBase : BaseF := fun args => match args with
  | [.agg [.int .i64 a, .int .i64 c, .int .i64 p]] => some (True, .bool (in3 a 0 12 && (in3 c 0 12 && in3 p 0 1048576)))
  | _ => none
theorem isTicket_eq (a : Int) (c : Int) (p : Int) : isTicketBase [.agg [.int .i64 a, .int .i64 c, .int .i64 p]] = some (True, .bool (in3 a 0 12 && (in3 c 0 12 && in3 p 0 1048576))) := rfl
theorem isTicket_base : Base Try.prog 34 isTicketBase := by
  intro args p v hq hp
  unfold isTicketBase at hq
  split at hq
  rotate_left
  · cases hq
  rename_i a c p
  cases hq
  refine base_of (C := cx [] [] [(42, withinBase), (35, isCrowdBase)] [] none) (cx_ok trivial ⟨within_base, isCrowd_base, trivial⟩) rfl (g := 34) (fn := Try.f34)
    (args' := [.agg [.int .i64 a, .int .i64 c, .int .i64 p]]) (fn_34) rfl 1000 (by simp only [BdL, Bd, and_self, and_true, true_and]) ⟨SameD.rfl' _, trivial⟩ ?_
  simp only [within_eq, isCrowd_eq, Try.f34, go_sem, ↓reduceIte, Nat.reduceAdd, Nat.reduceSub, Nat.reduceMul, Nat.reduceEqDiff, Nat.reduceLT, Nat.reduceLeDiff, Int.reduceToNat, Int.reduceLE, Int.reduceLT, Int.reduceEq, Int.reduceNeg, reduceCtorEq]
  refine ⟨fun c1 => ⟨fun c2 => by simp [c1, c2], fun c2 => by simp [c1, c2]⟩, fun c1 => by simp [c1]⟩
def isSpanBase : BaseF := fun args => match args with
  | [.agg [.int .i64 lo, .int .i64 hi]] => some (True, .bool (spB lo hi))
  | _ => none
theorem isSpan_eq (lo : Int) (hi : Int) : isSpanBase [.agg [.int .i64 lo, .int .i64 hi]] = some (True, .bool (spB lo hi)) := rfl
theorem isSpan_base : Base Try.prog 52 isSpanBase := by
  intro args p v hq hp
  unfold isSpanBase at hq
  split at hq
  rotate_left
  · cases hq
  rename_i lo hi
  cases hq
  refine base_of (C := cx [] [] [(47, isAmountBase)] [] none) (cx_ok trivial ⟨isAmount_base, trivial⟩) rfl (g := 52) (fn := Try.f52)
    (args' := [.agg [.int .i64 lo, .int .i64 hi]]) (fn_52) rfl 1000 (by simp only [BdL, Bd, and_self, and_true, true_and]) ⟨SameD.rfl' _, trivial⟩ ?_
  simp only [isAmount_eq, Try.f52, go_sem, ↓reduceIte, Nat.reduceAdd, Nat.reduceSub, Nat.reduceMul, Nat.reduceEqDiff, Nat.reduceLT, Nat.reduceLeDiff, Int.reduceToNat, Int.reduceLE, Int.reduceLT, Int.reduceEq, Int.reduceNeg, reduceCtorEq]
  refine ⟨fun c1 => ⟨fun c2 => by simp [spB, c1, c2], fun c2 => by simp [spB, c2]⟩, fun c1 => by simp [spB, c1]⟩
def spanBase : BaseF := fun args => match args with
  | [.agg [.int .i64 lo, .int .i64 hi]] => some (True, .bool (spB lo hi))
  | _ => none
theorem span_eq (lo : Int) (hi : Int) : spanBase [.agg [.int .i64 lo, .int .i64 hi]] = some (True, .bool (spB lo hi)) := rfl
theorem span_base : Base Try.prog 56 spanBase := by
  intro args p v hq hp
  unfold spanBase at hq
  split at hq
  rotate_left
  · cases hq
  rename_i lo hi
  cases hq
  refine base_of (C := cx [] [] [] [] none) (cx_ok trivial trivial) rfl (g := 56) (fn := Try.f56)
    (args' := [.agg [.int .i64 lo, .int .i64 hi]]) (fn_56) rfl 1000 (by simp only [BdL, Bd, and_self, and_true, true_and]) ⟨SameD.rfl' _, trivial⟩ ?_
  simp only [Try.f56, go_sem, ↓reduceIte, Nat.reduceAdd, Nat.reduceSub, Nat.reduceMul, Nat.reduceEqDiff, Nat.reduceLT, Nat.reduceLeDiff, Int.reduceToNat, Int.reduceLE, Int.reduceLT, Int.reduceEq, Int.reduceNeg, reduceCtorEq]
  simp only [spl, decide_eq_true_eq, decide_eq_false_iff_not]
  refine ⟨fun c1 => ⟨fun c2 => ?_, fun c2 => ?_⟩, fun c1 => ?_⟩ <;> congr 1 <;> rw [Bool.eq_iff_iff, spB_iff] <;> simp <;> omega
/-- A day of a budget. -/
def dyB (d il ih ol oh : Int) : Bool := in3 d 0 16384 && (spB il ih && spB ol oh)
def isDayBase : BaseF := fun args => match args with
  | [.agg [.int .i64 d, .int .i64 il, .int .i64 ih, .int .i64 ol, .int .i64 oh]] => some (True, .bool (dyB d il ih ol oh))
  | _ => none
theorem isDay_eq (d : Int) (il : Int) (ih : Int) (ol : Int) (oh : Int) : isDayBase [.agg [.int .i64 d, .int .i64 il, .int .i64 ih, .int .i64 ol, .int .i64 oh]] = some (True, .bool (dyB d il ih ol oh)) := rfl
theorem isDay_base : Base Try.prog 65 isDayBase := by
  intro args p v hq hp
  unfold isDayBase at hq
  split at hq
  rotate_left
  · cases hq
  rename_i d il ih ol oh
  cases hq
  refine base_of (C := cx [] [] [(42, withinBase), (52, isSpanBase)] [] none) (cx_ok trivial ⟨within_base, isSpan_base, trivial⟩) rfl (g := 65) (fn := Try.f65)
    (args' := [.agg [.int .i64 d, .int .i64 il, .int .i64 ih, .int .i64 ol, .int .i64 oh]]) (fn_65) rfl 1000 (by simp only [BdL, Bd, and_self, and_true, true_and]) ⟨SameD.rfl' _, trivial⟩ ?_
  simp only [within_eq, isSpan_eq, Try.f65, go_sem, ↓reduceIte, Nat.reduceAdd, Nat.reduceSub, Nat.reduceMul, Nat.reduceEqDiff, Nat.reduceLT, Nat.reduceLeDiff, Int.reduceToNat, Int.reduceLE, Int.reduceLT, Int.reduceEq, Int.reduceNeg, reduceCtorEq]
  refine ⟨fun c1 => ⟨fun c2 => by simp [dyB, c1, c2], fun c2 => by simp [dyB, c2]⟩, fun c1 => by simp [dyB, c1]⟩
def allU (p : Nat → Bool) : Nat → Bool
  | 0 => true
  | n + 1 => allU p n && p n
theorem allU_iff {p : Nat → Bool} : ∀ {n : Nat}, allU p n = true ↔ ∀ i, i < n → p i = true
  | 0 => ⟨fun _ i h => absurd h (by omega), fun _ => rfl⟩
  | n + 1 => by
    simp only [allU, Bool.and_eq_true, allU_iff (n := n)]
    constructor
    · rintro ⟨h1, h2⟩ i hi
      rcases Nat.lt_or_ge i n with h | h
      · exact h1 i h
      · obtain rfl : i = n := by omega
        exact h2
    · intro h
      exact ⟨fun i hi => h i (by omega), h n (by omega)⟩
theorem allU_false {p : Nat → Bool} {n i : Nat} (hi : i < n) (h : p i = false) : allU p n = false := by
  cases hc : allU p n with
  | false => rfl
  | true => have := allU_iff.1 hc i hi; rw [h] at this; cases this
theorem allU_true {p : Nat → Bool} {n : Nat} (h : ∀ j, j < n → p j = true) : allU p n = true := allU_iff.2 h
theorem below {p : Nat → Bool} {i : Nat} (h : ∀ j, j < i → p j = true) (hi : p i = true) : ∀ j, j < i + 1 → p j = true := fun j hj => by
  rcases Nat.lt_or_ge j i with h2 | h2
  · exact h j h2
  · obtain rfl : j = i := by omega
    exact hi
def tkBl (l : Nat → Nat → Int) (i : Nat) : Bool := tkB (l i)
def allTkBase : BaseF := fun args => match args with
  | [.row n sz_l f_l, .int .i64 most, .func g []] => some ((sz_l = 3 ∧ IntR n 3 f_l) ∧ (g = 34 ∧ n ≤ 1000000), .bool (decide ((n : Int) ≤ most) && allU (tkBl (ivf f_l)) n))
  | _ => none
theorem allTk_eq (n : Nat) (sz_l : Nat) (f_l : Nat → Nat → SV) (most : Int) (g : Nat) : allTkBase [.row n sz_l f_l, .int .i64 most, .func g []] = some ((sz_l = 3 ∧ IntR n 3 f_l) ∧ (g = 34 ∧ n ≤ 1000000), .bool (decide ((n : Int) ≤ most) && allU (tkBl (ivf f_l)) n)) := rfl
theorem allTk_base : Base Try.prog 33 allTkBase := by
  intro args p v hq hp
  unfold allTkBase at hq
  split at hq
  rotate_left
  · cases hq
  rename_i n sz_l f_l most g
  cases hq
  obtain ⟨⟨rfl, i_l⟩, pre⟩ := hp
  refine base_of (C := cx [] [] [(34, isTicketBase)] [] none) (cx_ok trivial ⟨isTicket_base, trivial⟩) rfl (g := 33) (fn := Try.f33)
    (args' := [.row n 3 (rowF .i64 (ivf f_l)), .int .i64 most, .func g []]) (fn_33) rfl 1000 (by
    simp only [BdL, Bd, and_self, and_true, true_and]
    exact (fun i j hi hj => by rw [i_l i j hi hj]; trivial)) ⟨SameD.int i_l, SameD.rfl' _, SameD.rfl' _, trivial⟩ ?_
  generalize ivf f_l = l at *
  simp only [rowF_eq]
  simp only [isTicket_eq, Try.f57, Try.f58, Try.f68, Try.f33, go_sem, ↓reduceIte, Nat.reduceAdd, Nat.reduceSub, Nat.reduceMul, Nat.reduceEqDiff, Nat.reduceLT, Nat.reduceLeDiff, Int.reduceToNat, Int.reduceLE, Int.reduceLT, Int.reduceEq, Int.reduceNeg, reduceCtorEq]
  obtain ⟨rfl, hn⟩ := pre
  refine ⟨fun c1 => ?_, fun c1 => by simp [c1]⟩
  simp only [c1, Bool.true_and]
  refine loop_ofH { i : Nat // i ≤ n ∧ ∀ j, j < i → (tkBl l) j = true } (fun i => [(8, .int .i64 (i.1 : Int)), (7, .int .i64 (n : Int)), (1, .func 58 [.ptr 0 0]), (0, .row n 3 fun i j => .int .i64 (l i j))]) (fun h _ => h) (fun i => n - i.1) (fun _ => ⟨rfl, rfl⟩) ⟨0, by omega, by omega⟩ (by (apply sub_of <;> simp only [go_sem, ↓reduceIte, Nat.reduceAdd, Nat.reduceSub, Nat.reduceMul, Nat.reduceEqDiff, Nat.reduceLT, Nat.reduceLeDiff, Int.reduceToNat, Int.reduceLE, Int.reduceLT, Int.reduceEq, Int.reduceNeg, reduceCtorEq] <;> (try simp [catF]) <;> (try exact fun j _ => Bd_nth (by simp [BdL, Bd]) j) <;> (try exact bd_setL (by simp [bdAs, BdL, Bd])) <;> (try exact nestF_bd _ _ _ _ _ _ _ _ _))) ?_
  rintro ⟨i, hi, h3⟩
  simp only [isTicket_eq, Try.f57, Try.f58, Try.f68, Try.f33, go_sem, ↓reduceIte, Nat.reduceAdd, Nat.reduceSub, Nat.reduceMul, Nat.reduceEqDiff, Nat.reduceLT, Nat.reduceLeDiff, Int.reduceToNat, Int.reduceLE, Int.reduceLT, Int.reduceEq, Int.reduceNeg, reduceCtorEq]
  have hw3 : IntKind.i64.wrap ((i : Int) + 1) = ((i + 1 : Nat) : Int) := by rw [wrap_id (by omega) (by omega)]; omega
  have h0 : (0 : Int) ≤ (i : Int) := by omega
  refine ⟨fun e1 => ?_, fun e1 => ?_⟩
  · simp only [decide_eq_true_eq] at e1
    have ik : i < n := by omega
    refine ⟨⟨by omega, by omega⟩, fun e3 => ?_, fun e3 => ?_⟩
    · rw [allU_false (p := tkBl l) ik (by simpa only [tkBl, tkB, Bool.not_eq_true'] using e3)]; simp [h0]
    · refine ⟨⟨i + 1, by omega, below h3 (by simpa only [tkBl, tkB, Bool.not_eq_false'] using e3)⟩, by simp only []; omega, ?_⟩
      apply sub_of <;> simp only [hw3, go_sem, ↓reduceIte, Nat.reduceAdd, Nat.reduceSub, Nat.reduceMul, Nat.reduceEqDiff, Nat.reduceLT, Nat.reduceLeDiff, Int.reduceToNat, Int.reduceLE, Int.reduceLT, Int.reduceEq, Int.reduceNeg, reduceCtorEq] <;> (try simp) <;> (try exact fun j _ => Bd_nth (by simp [BdL, Bd]) j) <;> (try exact bd_setL (by simp [bdAs, BdL, Bd])) <;> (try exact nestF_bd _ _ _ _ _ _ _ _ _)
  · simp only [decide_eq_false_iff_not] at e1
    obtain rfl : i = n := by omega
    rw [allU_true h3]
def allLimBase : BaseF := fun args => match args with
  | [.row n sz_l f_l, .int .i64 most, .func g []] => some ((sz_l = 1 ∧ IntR n 1 f_l) ∧ (g = 47 ∧ n ≤ 1000000), .bool (decide ((n : Int) ≤ most) && allU (fun i => in3 ((ivf f_l) i 0) 0 1099511627776) n))
  | _ => none
theorem allLim_eq (n : Nat) (sz_l : Nat) (f_l : Nat → Nat → SV) (most : Int) (g : Nat) : allLimBase [.row n sz_l f_l, .int .i64 most, .func g []] = some ((sz_l = 1 ∧ IntR n 1 f_l) ∧ (g = 47 ∧ n ≤ 1000000), .bool (decide ((n : Int) ≤ most) && allU (fun i => in3 ((ivf f_l) i 0) 0 1099511627776) n)) := rfl
theorem allLim_base : Base Try.prog 44 allLimBase := by
  intro args p v hq hp
  unfold allLimBase at hq
  split at hq
  rotate_left
  · cases hq
  rename_i n sz_l f_l most g
  cases hq
  obtain ⟨⟨rfl, i_l⟩, pre⟩ := hp
  refine base_of (C := cx [] [] [(47, isAmountBase)] [] none) (cx_ok trivial ⟨isAmount_base, trivial⟩) rfl (g := 44) (fn := Try.f44)
    (args' := [.row n 1 (rowF .i64 (ivf f_l)), .int .i64 most, .func g []]) (fn_44) rfl 1000 (by
    simp only [BdL, Bd, and_self, and_true, true_and]
    exact (fun i j hi hj => by rw [i_l i j hi hj]; trivial)) ⟨SameD.int i_l, SameD.rfl' _, SameD.rfl' _, trivial⟩ ?_
  generalize ivf f_l = l at *
  simp only [rowF_eq]
  simp only [isAmount_eq, Try.f59, Try.f60, Try.f69, Try.f44, go_sem, ↓reduceIte, Nat.reduceAdd, Nat.reduceSub, Nat.reduceMul, Nat.reduceEqDiff, Nat.reduceLT, Nat.reduceLeDiff, Int.reduceToNat, Int.reduceLE, Int.reduceLT, Int.reduceEq, Int.reduceNeg, reduceCtorEq]
  obtain ⟨rfl, hn⟩ := pre
  refine ⟨fun c1 => ?_, fun c1 => by simp [c1]⟩
  simp only [c1, Bool.true_and]
  refine loop_ofH { i : Nat // i ≤ n ∧ ∀ j, j < i → (fun i => in3 (l i 0) 0 1099511627776) j = true } (fun i => [(8, .int .i64 (i.1 : Int)), (7, .int .i64 (n : Int)), (1, .func 60 [.ptr 0 0]), (0, .row n 1 fun i j => .int .i64 (l i j))]) (fun h _ => h) (fun i => n - i.1) (fun _ => ⟨rfl, rfl⟩) ⟨0, by omega, by omega⟩ (by (apply sub_of <;> simp only [go_sem, ↓reduceIte, Nat.reduceAdd, Nat.reduceSub, Nat.reduceMul, Nat.reduceEqDiff, Nat.reduceLT, Nat.reduceLeDiff, Int.reduceToNat, Int.reduceLE, Int.reduceLT, Int.reduceEq, Int.reduceNeg, reduceCtorEq] <;> (try simp [catF]) <;> (try exact fun j _ => Bd_nth (by simp [BdL, Bd]) j) <;> (try exact bd_setL (by simp [bdAs, BdL, Bd])) <;> (try exact nestF_bd _ _ _ _ _ _ _ _ _))) ?_
  rintro ⟨i, hi, h3⟩
  simp only [isAmount_eq, Try.f59, Try.f60, Try.f69, Try.f44, go_sem, ↓reduceIte, Nat.reduceAdd, Nat.reduceSub, Nat.reduceMul, Nat.reduceEqDiff, Nat.reduceLT, Nat.reduceLeDiff, Int.reduceToNat, Int.reduceLE, Int.reduceLT, Int.reduceEq, Int.reduceNeg, reduceCtorEq]
  have hw3 : IntKind.i64.wrap ((i : Int) + 1) = ((i + 1 : Nat) : Int) := by rw [wrap_id (by omega) (by omega)]; omega
  have h0 : (0 : Int) ≤ (i : Int) := by omega
  refine ⟨fun e1 => ?_, fun e1 => ?_⟩
  · simp only [decide_eq_true_eq] at e1
    have ik : i < n := by omega
    refine ⟨⟨by omega, by omega⟩, fun e3 => ?_, fun e3 => ?_⟩
    · rw [allU_false (p := fun i => in3 (l i 0) 0 1099511627776) ik (by simpa only [Bool.not_eq_true'] using e3)]; simp [h0]
    · refine ⟨⟨i + 1, by omega, below h3 (by simpa only [Bool.not_eq_false'] using e3)⟩, by simp only []; omega, ?_⟩
      apply sub_of <;> simp only [hw3, go_sem, ↓reduceIte, Nat.reduceAdd, Nat.reduceSub, Nat.reduceMul, Nat.reduceEqDiff, Nat.reduceLT, Nat.reduceLeDiff, Int.reduceToNat, Int.reduceLE, Int.reduceLT, Int.reduceEq, Int.reduceNeg, reduceCtorEq] <;> (try simp) <;> (try exact fun j _ => Bd_nth (by simp [BdL, Bd]) j) <;> (try exact bd_setL (by simp [bdAs, BdL, Bd])) <;> (try exact nestF_bd _ _ _ _ _ _ _ _ _)
  · simp only [decide_eq_false_iff_not] at e1
    obtain rfl : i = n := by omega
    rw [allU_true h3]
def dyBl (l : Nat → Nat → Int) (i : Nat) : Bool := dyB (l i 0) (l i 1) (l i 2) (l i 3) (l i 4)
def allDayBase : BaseF := fun args => match args with
  | [.row n sz_l f_l, .int .i64 most, .func g []] => some ((sz_l = 5 ∧ IntR n 5 f_l) ∧ (g = 65 ∧ n ≤ 1000000), .bool (decide ((n : Int) ≤ most) && allU (dyBl (ivf f_l)) n))
  | _ => none
theorem allDay_eq (n : Nat) (sz_l : Nat) (f_l : Nat → Nat → SV) (most : Int) (g : Nat) : allDayBase [.row n sz_l f_l, .int .i64 most, .func g []] = some ((sz_l = 5 ∧ IntR n 5 f_l) ∧ (g = 65 ∧ n ≤ 1000000), .bool (decide ((n : Int) ≤ most) && allU (dyBl (ivf f_l)) n)) := rfl
theorem allDay_base : Base Try.prog 67 allDayBase := by
  intro args p v hq hp
  unfold allDayBase at hq
  split at hq
  rotate_left
  · cases hq
  rename_i n sz_l f_l most g
  cases hq
  obtain ⟨⟨rfl, i_l⟩, pre⟩ := hp
  refine base_of (C := cx [] [] [(65, isDayBase)] [] none) (cx_ok trivial ⟨isDay_base, trivial⟩) rfl (g := 67) (fn := Try.f67)
    (args' := [.row n 5 (rowF .i64 (ivf f_l)), .int .i64 most, .func g []]) (fn_67) rfl 1000 (by
    simp only [BdL, Bd, and_self, and_true, true_and]
    exact (fun i j hi hj => by rw [i_l i j hi hj]; trivial)) ⟨SameD.int i_l, SameD.rfl' _, SameD.rfl' _, trivial⟩ ?_
  generalize ivf f_l = l at *
  simp only [rowF_eq]
  simp only [isDay_eq, Try.f71, Try.f72, Try.f73, Try.f67, go_sem, ↓reduceIte, Nat.reduceAdd, Nat.reduceSub, Nat.reduceMul, Nat.reduceEqDiff, Nat.reduceLT, Nat.reduceLeDiff, Int.reduceToNat, Int.reduceLE, Int.reduceLT, Int.reduceEq, Int.reduceNeg, reduceCtorEq]
  obtain ⟨rfl, hn⟩ := pre
  refine ⟨fun c1 => ?_, fun c1 => by simp [c1]⟩
  simp only [c1, Bool.true_and]
  refine loop_ofH { i : Nat // i ≤ n ∧ ∀ j, j < i → (dyBl l) j = true } (fun i => [(8, .int .i64 (i.1 : Int)), (7, .int .i64 (n : Int)), (1, .func 72 [.ptr 0 0]), (0, .row n 5 fun i j => .int .i64 (l i j))]) (fun h _ => h) (fun i => n - i.1) (fun _ => ⟨rfl, rfl⟩) ⟨0, by omega, by omega⟩ (by (apply sub_of <;> simp only [go_sem, ↓reduceIte, Nat.reduceAdd, Nat.reduceSub, Nat.reduceMul, Nat.reduceEqDiff, Nat.reduceLT, Nat.reduceLeDiff, Int.reduceToNat, Int.reduceLE, Int.reduceLT, Int.reduceEq, Int.reduceNeg, reduceCtorEq] <;> (try simp [catF]) <;> (try exact fun j _ => Bd_nth (by simp [BdL, Bd]) j) <;> (try exact bd_setL (by simp [bdAs, BdL, Bd])) <;> (try exact nestF_bd _ _ _ _ _ _ _ _ _))) ?_
  rintro ⟨i, hi, h3⟩
  simp only [isDay_eq, Try.f71, Try.f72, Try.f73, Try.f67, go_sem, ↓reduceIte, Nat.reduceAdd, Nat.reduceSub, Nat.reduceMul, Nat.reduceEqDiff, Nat.reduceLT, Nat.reduceLeDiff, Int.reduceToNat, Int.reduceLE, Int.reduceLT, Int.reduceEq, Int.reduceNeg, reduceCtorEq]
  have hw3 : IntKind.i64.wrap ((i : Int) + 1) = ((i + 1 : Nat) : Int) := by rw [wrap_id (by omega) (by omega)]; omega
  have h0 : (0 : Int) ≤ (i : Int) := by omega
  refine ⟨fun e1 => ?_, fun e1 => ?_⟩
  · simp only [decide_eq_true_eq] at e1
    have ik : i < n := by omega
    refine ⟨⟨by omega, by omega⟩, fun e3 => ?_, fun e3 => ?_⟩
    · rw [allU_false (p := dyBl l) ik (by simpa only [dyBl, Bool.not_eq_true'] using e3)]; simp [h0]
    · refine ⟨⟨i + 1, by omega, below h3 (by simpa only [dyBl, Bool.not_eq_false'] using e3)⟩, by simp only []; omega, ?_⟩
      apply sub_of <;> simp only [hw3, go_sem, ↓reduceIte, Nat.reduceAdd, Nat.reduceSub, Nat.reduceMul, Nat.reduceEqDiff, Nat.reduceLT, Nat.reduceLeDiff, Int.reduceToNat, Int.reduceLE, Int.reduceLT, Int.reduceEq, Int.reduceNeg, reduceCtorEq] <;> (try simp) <;> (try exact fun j _ => Bd_nth (by simp [BdL, Bd]) j) <;> (try exact bd_setL (by simp [bdAs, BdL, Bd])) <;> (try exact nestF_bd _ _ _ _ _ _ _ _ _)
  · simp only [decide_eq_false_iff_not] at e1
    obtain rfl : i = n := by omega
    rw [allU_true h3]
end Go.Eng
end

/- money: tickets, choices, prices. -/
section
namespace Go.Eng
open Go Go.RowKit Go.Proofs
set_option maxRecDepth 100000
set_option maxHeartbeats 4000000
attribute [local irreducible] OwnT DefS
/-- An answer: whether there is one, how many of a kind, the price, the number of all. -/
structure Ans where
  is : Bool
  own : Int
  price : Int
  num : Int
deriving DecidableEq
theorem mulB {x y : Int} {m k : Int} (h1 : 0 ≤ x ∧ x ≤ m) (h2 : 0 ≤ y ∧ y ≤ k) : 0 ≤ x * y ∧ x * y ≤ m * k :=
  ⟨Int.mul_nonneg h1.1 h2.1, Int.mul_le_mul h1.2 h2.2 h2.1 (by omega)⟩
def Ans.better (a b : Ans) : Bool := a.is && (!b.is || decide (a.price < b.price) || (decide (a.price = b.price) && decide (a.num < b.num)))
def betterBase : BaseF := fun args => match args with
  | [.agg [.bool ai, .int .i64 ao, .int .i64 ap, .int .i64 an], .agg [.bool bi, .int .i64 bo, .int .i64 bp, .int .i64 bn]] => some (True, .bool (Ans.better ⟨ai, ao, ap, an⟩ ⟨bi, bo, bp, bn⟩))
  | _ => none
theorem better_eq (ai : Bool) (ao : Int) (ap : Int) (an : Int) (bi : Bool) (bo : Int) (bp : Int) (bn : Int) : betterBase [.agg [.bool ai, .int .i64 ao, .int .i64 ap, .int .i64 an], .agg [.bool bi, .int .i64 bo, .int .i64 bp, .int .i64 bn]] = some (True, .bool (Ans.better ⟨ai, ao, ap, an⟩ ⟨bi, bo, bp, bn⟩)) := rfl
theorem better_base : Base Try.prog 38 betterBase := by
  intro args p v hq hp
  unfold betterBase at hq
  split at hq
  rotate_left
  · cases hq
  rename_i ai ao ap an bi bo bp bn
  cases hq
  refine base_of (C := cx [] [] [] [] none) (cx_ok trivial trivial) rfl (g := 38) (fn := Try.f38)
    (args' := [.agg [.bool ai, .int .i64 ao, .int .i64 ap, .int .i64 an], .agg [.bool bi, .int .i64 bo, .int .i64 bp, .int .i64 bn]]) (fn_38) rfl 1000 (by simp only [BdL, Bd, and_self, and_true, true_and]) ⟨SameD.agg ⟨SameD.rfl' _, SameD.rfl' _, SameD.rfl' _, SameD.rfl' _, trivial⟩, SameD.agg ⟨SameD.rfl' _, SameD.rfl' _, SameD.rfl' _, SameD.rfl' _, trivial⟩, trivial⟩ ?_
  simp only [Try.f38, go_sem, ↓reduceIte, Nat.reduceAdd, Nat.reduceSub, Nat.reduceMul, Nat.reduceEqDiff, Nat.reduceLT, Nat.reduceLeDiff, Int.reduceToNat, Int.reduceLE, Int.reduceLT, Int.reduceEq, Int.reduceNeg, reduceCtorEq]
  cases ai
  · exact ⟨fun h => (nomatch h), fun _ => by simp [Ans.better]⟩
  refine ⟨fun _ => ⟨fun c1 => by simp [Ans.better, show bi = false by simpa using c1], fun c1 => ?_⟩, fun h => (nomatch h)⟩
  obtain rfl : bi = true := by simpa using c1
  refine ⟨fun c2 => ?_, fun c2 => ⟨fun c3 => ?_, fun c3 => ?_⟩⟩
  · simp [Ans.better, show ap < bp by simpa using c2]
  · simp [Ans.better, show ap = bp by simpa using c3]
  · simp [Ans.better, show ¬ ap < bp by simpa using c2, show ¬ ap = bp by simpa using c3]
def behindBase : BaseF := fun args => match args with
  | [.agg [.int .i64 i, .int .i64 a, .int .i64 p], .int .i64 own, .rptr sz_1 c_1] => (match c_1 0 with | .row n sz_l f_l => some ((sz_1 = 1) ∧ (sz_l = 3 ∧ IntR n 3 f_l) ∧ (0 ≤ i ∧ i < n ∧ n ≤ 1000000 ∧ (0 ≤ a ∧ a ≤ 100) ∧ (0 ≤ p ∧ p ≤ 100) ∧ (0 ≤ own ∧ own ≤ 100) ∧ tkB ((ivf f_l) i.toNat) = true), .agg [.int .i64 (i + 1), .int .i64 (max 0 (a - own * (ivf f_l) i.toNat 0)), .int .i64 (max 0 (p - own * ((ivf f_l) i.toNat 0 + (ivf f_l) i.toNat 1)))]) | _ => none)
  | _ => none
theorem behind_eq (i : Int) (a : Int) (p : Int) (own : Int) (sz_1 : Nat) (c_1 : Nat → SV) : behindBase [.agg [.int .i64 i, .int .i64 a, .int .i64 p], .int .i64 own, .rptr sz_1 c_1] = (match c_1 0 with | .row n sz_l f_l => some ((sz_1 = 1) ∧ (sz_l = 3 ∧ IntR n 3 f_l) ∧ (0 ≤ i ∧ i < n ∧ n ≤ 1000000 ∧ (0 ≤ a ∧ a ≤ 100) ∧ (0 ≤ p ∧ p ≤ 100) ∧ (0 ≤ own ∧ own ≤ 100) ∧ tkB ((ivf f_l) i.toNat) = true), .agg [.int .i64 (i + 1), .int .i64 (max 0 (a - own * (ivf f_l) i.toNat 0)), .int .i64 (max 0 (p - own * ((ivf f_l) i.toNat 0 + (ivf f_l) i.toNat 1)))]) | _ => none) := rfl
theorem behind_base : Base Try.prog 36 behindBase := by
  intro args p v hq hp
  unfold behindBase at hq
  split at hq
  rotate_left
  · cases hq
  rename_i i a p own sz_1 c_1
  split at hq
  rotate_left
  · cases hq
  rename_i n sz_l f_l h_1_0
  cases hq
  obtain ⟨rfl, ⟨rfl, i_l⟩, pre⟩ := hp
  refine base_of (C := cx [] [] [] [] none) (cx_ok trivial trivial) rfl (g := 36) (fn := Try.f36)
    (args' := [.agg [.int .i64 i, .int .i64 a, .int .i64 p], .int .i64 own, .rptr 1 (fun j => nth [.row n 3 (rowF .i64 (ivf f_l))] j)]) (fn_36) rfl 1000 (by
    simp only [BdL, Bd, and_self, and_true, true_and]
    exact (fun j hj => by
      have hj : j = 0 := by omega
      rcases hj with rfl
      · rw [h_1_0]; simp only [BdL, Bd, and_self, and_true, true_and]; exact (fun i j hi hj => by rw [i_l i j hi hj]; trivial))) ⟨SameD.agg ⟨SameD.rfl' _, SameD.rfl' _, SameD.rfl' _, trivial⟩, SameD.rfl' _, SameD.rptr (fun j hj => by
      have hj : j = 0 := by omega
      rcases hj with rfl
      · rw [h_1_0]; exact SameD.int i_l), trivial⟩ ?_
  generalize ivf f_l = l at *
  simp only [rowF_eq]
  simp only [Try.f36, go_sem, ↓reduceIte, Nat.reduceAdd, Nat.reduceSub, Nat.reduceMul, Nat.reduceEqDiff, Nat.reduceLT, Nat.reduceLeDiff, Int.reduceToNat, Int.reduceLE, Int.reduceLT, Int.reduceEq, Int.reduceNeg, reduceCtorEq]
  obtain ⟨h1, h2, h3, ha, hp, ho, ht⟩ := pre
  obtain ⟨t1, t2, t3⟩ := tkB_iff.1 ht
  have q1 := mulB ho t1
  have q2 := mulB ho (show 0 ≤ l i.toNat 0 + l i.toNat 1 ∧ l i.toNat 0 + l i.toNat 1 ≤ 24 by omega)
  refine ⟨by omega, ⟨h1, by omega⟩, by omega, by omega, by omega, ?_⟩
  rw [wrap_id (x := i + 1) (by omega) (by omega), wrap_id (x := l i.toNat 0 + l i.toNat 1) (by omega) (by omega), wrap_id (x := own * l i.toNat 0) (by omega) (by omega), wrap_id (x := own * (l i.toNat 0 + l i.toNat 1)) (by omega) (by omega), wrap_id (x := a - own * l i.toNat 0) (by omega) (by omega), wrap_id (x := p - own * (l i.toNat 0 + l i.toNat 1)) (by omega) (by omega)]
def ticketsBase : BaseF := fun args => match args with
  | [.row n sz_l f_l] => some ((sz_l = 3 ∧ IntR n 3 f_l) ∧ (n ≤ 1000000), .bool (allU (tkBl (ivf f_l)) n && decide (n ≤ 6)))
  | _ => none
theorem tickets_eq (n : Nat) (sz_l : Nat) (f_l : Nat → Nat → SV) : ticketsBase [.row n sz_l f_l] = some ((sz_l = 3 ∧ IntR n 3 f_l) ∧ (n ≤ 1000000), .bool (allU (tkBl (ivf f_l)) n && decide (n ≤ 6))) := rfl
theorem tickets_base : Base Try.prog 24 ticketsBase := by
  intro args p v hq hp
  unfold ticketsBase at hq
  split at hq
  rotate_left
  · cases hq
  rename_i n sz_l f_l
  cases hq
  obtain ⟨⟨rfl, i_l⟩, pre⟩ := hp
  refine base_of (C := cx [] [] [(39, inBase)] [] none) (cx_ok trivial ⟨in_base, trivial⟩) rfl (g := 24) (fn := Try.f24)
    (args' := [.row n 3 (rowF .i64 (ivf f_l))]) (fn_24) rfl 1000 (by
    simp only [BdL, Bd, and_self, and_true, true_and]
    exact (fun i j hi hj => by rw [i_l i j hi hj]; trivial)) ⟨SameD.int i_l, trivial⟩ ?_
  generalize ivf f_l = l at *
  simp only [rowF_eq]
  simp only [in_eq, Try.f24, go_sem, ↓reduceIte, Nat.reduceAdd, Nat.reduceSub, Nat.reduceMul, Nat.reduceEqDiff, Nat.reduceLT, Nat.reduceLeDiff, Int.reduceToNat, Int.reduceLE, Int.reduceLT, Int.reduceEq, Int.reduceNeg, reduceCtorEq]
  refine loop_ofH { i : Nat // i ≤ n ∧ ∀ j, j < i → (tkBl l) j = true } (fun i => [(3, .int .i64 (i.1 : Int)), (0, .row n 3 fun i j => .int .i64 (l i j))]) (fun h _ => h) (fun i => n - i.1) (fun _ => ⟨rfl, rfl⟩) ⟨0, by omega, by omega⟩ (by (apply sub_of <;> simp only [go_sem, ↓reduceIte, Nat.reduceAdd, Nat.reduceSub, Nat.reduceMul, Nat.reduceEqDiff, Nat.reduceLT, Nat.reduceLeDiff, Int.reduceToNat, Int.reduceLE, Int.reduceLT, Int.reduceEq, Int.reduceNeg, reduceCtorEq] <;> (try simp [catF]) <;> (try exact fun j _ => Bd_nth (by simp [BdL, Bd]) j) <;> (try exact bd_setL (by simp [bdAs, BdL, Bd])) <;> (try exact nestF_bd _ _ _ _ _ _ _ _ _))) ?_
  rintro ⟨i, hi, h3⟩
  simp only [in_eq, Try.f24, go_sem, ↓reduceIte, Nat.reduceAdd, Nat.reduceSub, Nat.reduceMul, Nat.reduceEqDiff, Nat.reduceLT, Nat.reduceLeDiff, Int.reduceToNat, Int.reduceLE, Int.reduceLT, Int.reduceEq, Int.reduceNeg, reduceCtorEq]
  have hw3 : IntKind.i64.wrap ((i : Int) + 1) = ((i + 1 : Nat) : Int) := by rw [wrap_id (by omega) (by omega)]; omega
  have h0 : (0 : Int) ≤ (i : Int) := by omega
  refine ⟨fun e1 => ?_, fun e1 => ?_⟩
  · simp only [decide_eq_true_eq] at e1
    have ik : i < n := by omega
    have bad : tkBl l i = false → SV.bool false = .bool (allU (tkBl l) n && decide (n ≤ 6)) := fun h => by rw [allU_false ik h, Bool.false_and]
    refine ⟨⟨by omega, by omega⟩, fun e2 => bad (by simp [tkBl, tkB, show in3 (l i 0) 0 12 = false by simpa using e2]), fun e2 => ⟨⟨by omega, by omega⟩, fun e3 => bad (by simp [tkBl, tkB, show in3 (l i 1) 0 12 = false by simpa using e3]), fun e3 => ⟨⟨by omega, by omega⟩, fun e4 => bad (by simp [tkBl, tkB, show in3 (l i 2) 0 1048576 = false by simpa using e4]), fun e4 => ?_⟩⟩⟩
    simp only [Bool.not_eq_false'] at e2 e3 e4
    refine ⟨⟨i + 1, by omega, below h3 (by simp [tkBl, tkB, e2, e3, e4])⟩, by simp only []; omega, ?_⟩
    apply sub_of <;> simp only [hw3, go_sem, ↓reduceIte, Nat.reduceAdd, Nat.reduceSub, Nat.reduceMul, Nat.reduceEqDiff, Nat.reduceLT, Nat.reduceLeDiff, Int.reduceToNat, Int.reduceLE, Int.reduceLT, Int.reduceEq, Int.reduceNeg, reduceCtorEq] <;> (try simp) <;> (try exact fun j _ => Bd_nth (by simp [BdL, Bd]) j) <;> (try exact bd_setL (by simp [bdAs, BdL, Bd])) <;> (try exact nestF_bd _ _ _ _ _ _ _ _ _)
  · simp only [decide_eq_false_iff_not] at e1
    obtain rfl : i = n := by omega
    rw [allU_true h3]
    congr 1
    simp
    omega
def limitsBase : BaseF := fun args => match args with
  | [.row n sz_l f_l] => some ((sz_l = 1 ∧ IntR n 1 f_l) ∧ (n ≤ 1000000), .bool (allU (fun i => in3 ((ivf f_l) i 0) 0 1099511627776) n && decide (n ≤ 16)))
  | _ => none
theorem limits_eq (n : Nat) (sz_l : Nat) (f_l : Nat → Nat → SV) : limitsBase [.row n sz_l f_l] = some ((sz_l = 1 ∧ IntR n 1 f_l) ∧ (n ≤ 1000000), .bool (allU (fun i => in3 ((ivf f_l) i 0) 0 1099511627776) n && decide (n ≤ 16))) := rfl
theorem limits_base : Base Try.prog 28 limitsBase := by
  intro args p v hq hp
  unfold limitsBase at hq
  split at hq
  rotate_left
  · cases hq
  rename_i n sz_l f_l
  cases hq
  obtain ⟨⟨rfl, i_l⟩, pre⟩ := hp
  refine base_of (C := cx [] [] [(39, inBase)] [] none) (cx_ok trivial ⟨in_base, trivial⟩) rfl (g := 28) (fn := Try.f28)
    (args' := [.row n 1 (rowF .i64 (ivf f_l))]) (fn_28) rfl 1000 (by
    simp only [BdL, Bd, and_self, and_true, true_and]
    exact (fun i j hi hj => by rw [i_l i j hi hj]; trivial)) ⟨SameD.int i_l, trivial⟩ ?_
  generalize ivf f_l = l at *
  simp only [rowF_eq]
  simp only [in_eq, Try.f28, go_sem, ↓reduceIte, Nat.reduceAdd, Nat.reduceSub, Nat.reduceMul, Nat.reduceEqDiff, Nat.reduceLT, Nat.reduceLeDiff, Int.reduceToNat, Int.reduceLE, Int.reduceLT, Int.reduceEq, Int.reduceNeg, reduceCtorEq]
  refine loop_ofH { i : Nat // i ≤ n ∧ ∀ j, j < i → (fun i => in3 (l i 0) 0 1099511627776) j = true } (fun i => [(3, .int .i64 (i.1 : Int)), (0, .row n 1 fun i j => .int .i64 (l i j))]) (fun h _ => h) (fun i => n - i.1) (fun _ => ⟨rfl, rfl⟩) ⟨0, by omega, by omega⟩ (by (apply sub_of <;> simp only [go_sem, ↓reduceIte, Nat.reduceAdd, Nat.reduceSub, Nat.reduceMul, Nat.reduceEqDiff, Nat.reduceLT, Nat.reduceLeDiff, Int.reduceToNat, Int.reduceLE, Int.reduceLT, Int.reduceEq, Int.reduceNeg, reduceCtorEq] <;> (try simp [catF]) <;> (try exact fun j _ => Bd_nth (by simp [BdL, Bd]) j) <;> (try exact bd_setL (by simp [bdAs, BdL, Bd])) <;> (try exact nestF_bd _ _ _ _ _ _ _ _ _))) ?_
  rintro ⟨i, hi, h3⟩
  simp only [in_eq, Try.f28, go_sem, ↓reduceIte, Nat.reduceAdd, Nat.reduceSub, Nat.reduceMul, Nat.reduceEqDiff, Nat.reduceLT, Nat.reduceLeDiff, Int.reduceToNat, Int.reduceLE, Int.reduceLT, Int.reduceEq, Int.reduceNeg, reduceCtorEq]
  have hw3 : IntKind.i64.wrap ((i : Int) + 1) = ((i + 1 : Nat) : Int) := by rw [wrap_id (by omega) (by omega)]; omega
  have h0 : (0 : Int) ≤ (i : Int) := by omega
  refine ⟨fun e1 => ?_, fun e1 => ?_⟩
  · simp only [decide_eq_true_eq] at e1
    have ik : i < n := by omega
    refine ⟨⟨by omega, by omega⟩, fun e2 => ?_, fun e2 => ?_⟩
    · rw [allU_false (p := fun i => in3 (l i 0) 0 1099511627776) ik (by simpa using e2), Bool.false_and]
    simp only [Bool.not_eq_false'] at e2
    refine ⟨⟨i + 1, by omega, below h3 e2⟩, by simp only []; omega, ?_⟩
    apply sub_of <;> simp only [hw3, go_sem, ↓reduceIte, Nat.reduceAdd, Nat.reduceSub, Nat.reduceMul, Nat.reduceEqDiff, Nat.reduceLT, Nat.reduceLeDiff, Int.reduceToNat, Int.reduceLE, Int.reduceLT, Int.reduceEq, Int.reduceNeg, reduceCtorEq] <;> (try simp) <;> (try exact fun j _ => Bd_nth (by simp [BdL, Bd]) j) <;> (try exact bd_setL (by simp [bdAs, BdL, Bd])) <;> (try exact nestF_bd _ _ _ _ _ _ _ _ _)
  · simp only [decide_eq_false_iff_not] at e1
    obtain rfl : i = n := by omega
    rw [allU_true h3]
    congr 1
    simp
    omega
def intsBase : BaseF := fun args => match args with
  | [.row n sz_a f_a, .row m sz_b f_b] => some ((sz_a = 1 ∧ IntR n 1 f_a) ∧ (sz_b = 1 ∧ IntR m 1 f_b) ∧ (n ≤ 1000000), .bool (decide (n = m) && allU (fun i => decide ((ivf f_a) i 0 = (ivf f_b) i 0)) n))
  | _ => none
theorem ints_eq (n : Nat) (sz_a : Nat) (f_a : Nat → Nat → SV) (m : Nat) (sz_b : Nat) (f_b : Nat → Nat → SV) : intsBase [.row n sz_a f_a, .row m sz_b f_b] = some ((sz_a = 1 ∧ IntR n 1 f_a) ∧ (sz_b = 1 ∧ IntR m 1 f_b) ∧ (n ≤ 1000000), .bool (decide (n = m) && allU (fun i => decide ((ivf f_a) i 0 = (ivf f_b) i 0)) n)) := rfl
theorem ints_base : Base Try.prog 14 intsBase := by
  intro args p v hq hp
  unfold intsBase at hq
  split at hq
  rotate_left
  · cases hq
  rename_i n sz_a f_a m sz_b f_b
  cases hq
  obtain ⟨⟨rfl, i_a⟩, ⟨rfl, i_b⟩, pre⟩ := hp
  refine base_of (C := cx [] [] [] [(14, 6, p14_6)] none) (cx_ok trivial trivial) rfl (g := 14) (fn := Try.f14)
    (args' := [.row n 1 (rowF .i64 (ivf f_a)), .row m 1 (rowF .i64 (ivf f_b))]) (fn_14) rfl 1000 (by
    simp only [BdL, Bd, and_self, and_true, true_and]
    exact ⟨(fun i j hi hj => by rw [i_a i j hi hj]; trivial), (fun i j hi hj => by rw [i_b i j hi hj]; trivial)⟩) ⟨SameD.int i_a, SameD.int i_b, trivial⟩ ?_
  generalize ivf f_a = a at *
  generalize ivf f_b = b at *
  simp only [rowF_eq]
  simp only [p14_6, Try.f14, go_sem, ↓reduceIte, Nat.reduceAdd, Nat.reduceSub, Nat.reduceMul, Nat.reduceEqDiff, Nat.reduceLT, Nat.reduceLeDiff, Int.reduceToNat, Int.reduceLE, Int.reduceLT, Int.reduceEq, Int.reduceNeg, reduceCtorEq]
  refine ⟨fun c1 => ?_, fun c1 => ?_⟩
  · simp at c1; simp [show ¬ n = m by omega]
  obtain rfl : n = m := by simp at c1; omega
  refine loop_ofH { i : Nat // i ≤ n ∧ ∀ j, j < i → (fun i => decide (a i 0 = b i 0)) j = true } (fun i => [(5, .int .i64 (i.1 : Int)), (1, .row n 1 fun i j => .int .i64 (b i j)), (0, .row n 1 fun i j => .int .i64 (a i j))]) (fun h _ => h) (fun i => n - i.1) (fun _ => ⟨rfl, rfl⟩) ⟨0, by omega, by omega⟩ (by (apply sub_of <;> simp only [go_sem, ↓reduceIte, Nat.reduceAdd, Nat.reduceSub, Nat.reduceMul, Nat.reduceEqDiff, Nat.reduceLT, Nat.reduceLeDiff, Int.reduceToNat, Int.reduceLE, Int.reduceLT, Int.reduceEq, Int.reduceNeg, reduceCtorEq] <;> (try simp [catF]) <;> (try exact fun j _ => Bd_nth (by simp [BdL, Bd]) j) <;> (try exact bd_setL (by simp [bdAs, BdL, Bd])) <;> (try exact nestF_bd _ _ _ _ _ _ _ _ _))) ?_
  rintro ⟨i, hi, h3⟩
  simp only [p14_6, Try.f14, go_sem, ↓reduceIte, Nat.reduceAdd, Nat.reduceSub, Nat.reduceMul, Nat.reduceEqDiff, Nat.reduceLT, Nat.reduceLeDiff, Int.reduceToNat, Int.reduceLE, Int.reduceLT, Int.reduceEq, Int.reduceNeg, reduceCtorEq]
  have hw3 : IntKind.i64.wrap ((i : Int) + 1) = ((i + 1 : Nat) : Int) := by rw [wrap_id (by omega) (by omega)]; omega
  have h0 : (0 : Int) ≤ (i : Int) := by omega
  refine ⟨fun e1 => ?_, fun e1 => ?_⟩
  · simp only [decide_eq_true_eq] at e1
    have ik : i < n := by omega
    refine ⟨⟨by kernel_rfl, by kernel_rfl⟩, ⟨by omega, by omega⟩, ⟨by omega, by omega⟩, fun e2 => ?_, fun e2 => ?_⟩
    · rw [allU_false (p := fun i => decide (a i 0 = b i 0)) ik (by simpa using e2)]
    simp only [Bool.not_eq_false'] at e2
    refine ⟨⟨i + 1, by omega, below h3 e2⟩, by simp only []; omega, ?_⟩
    apply sub_of <;> simp only [hw3, go_sem, ↓reduceIte, Nat.reduceAdd, Nat.reduceSub, Nat.reduceMul, Nat.reduceEqDiff, Nat.reduceLT, Nat.reduceLeDiff, Int.reduceToNat, Int.reduceLE, Int.reduceLT, Int.reduceEq, Int.reduceNeg, reduceCtorEq] <;> (try simp) <;> (try exact fun j _ => Bd_nth (by simp [BdL, Bd]) j) <;> (try exact bd_setL (by simp [bdAs, BdL, Bd])) <;> (try exact nestF_bd _ _ _ _ _ _ _ _ _)
  · simp only [decide_eq_false_iff_not] at e1
    obtain rfl : i = n := by omega
    rw [allU_true h3]
/-- What a choice sums up to, by a number of each kind. -/
def sumK (g : Nat → Int) : Nat → Int
  | 0 => 0
  | n + 1 => sumK g n + g n
theorem sumK_congr {g g' : Nat → Int} : ∀ {n : Nat}, (∀ i, i < n → g i = g' i) → sumK g n = sumK g' n
  | 0, _ => rfl
  | n + 1, h => by simp only [sumK]; rw [sumK_congr (fun i hi => h i (by omega)), h n (by omega)]
theorem sumK_bd {g : Nat → Int} {B : Int} : ∀ {n : Nat}, (∀ i, i < n → 0 ≤ g i ∧ g i ≤ B) → 0 ≤ sumK g n ∧ sumK g n ≤ n * B
  | 0, _ => by simp [sumK]
  | n + 1, h => by
    have h1 := sumK_bd (n := n) (fun i hi => h i (by omega))
    have h2 := h n (by omega)
    simp only [sumK]
    have : ((n + 1 : Nat) : Int) * B = n * B + B := by rw [Int.natCast_add, Int.add_mul]; simp
    omega
def admB (n : Nat) (l c : Nat → Nat → Int) (a ch : Int) : Bool := decide (a ≤ sumK (fun i => c i 0 * l i 0) n) && decide (a + ch ≤ sumK (fun i => c i 0 * (l i 0 + l i 1)) n)
def admitsBase : BaseF := fun args => match args with
  | [.row n sz_l f_l, .row m sz_c f_c, .int .i64 a, .int .i64 ch] => some ((sz_l = 3 ∧ IntR n 3 f_l) ∧ (sz_c = 1 ∧ IntR m 1 f_c) ∧ (n ≤ m ∧ n ≤ 8 ∧ (0 ≤ a ∧ a ≤ 100) ∧ (0 ≤ ch ∧ ch ≤ 100) ∧ (∀ i, i < n → tkB ((ivf f_l) i) = true) ∧ (∀ i, i < n → 0 ≤ (ivf f_c) i 0 ∧ (ivf f_c) i 0 ≤ 100)), .bool (admB n (ivf f_l) (ivf f_c) a ch))
  | _ => none
theorem admits_eq (n : Nat) (sz_l : Nat) (f_l : Nat → Nat → SV) (m : Nat) (sz_c : Nat) (f_c : Nat → Nat → SV) (a : Int) (ch : Int) : admitsBase [.row n sz_l f_l, .row m sz_c f_c, .int .i64 a, .int .i64 ch] = some ((sz_l = 3 ∧ IntR n 3 f_l) ∧ (sz_c = 1 ∧ IntR m 1 f_c) ∧ (n ≤ m ∧ n ≤ 8 ∧ (0 ≤ a ∧ a ≤ 100) ∧ (0 ≤ ch ∧ ch ≤ 100) ∧ (∀ i, i < n → tkB ((ivf f_l) i) = true) ∧ (∀ i, i < n → 0 ≤ (ivf f_c) i 0 ∧ (ivf f_c) i 0 ≤ 100)), .bool (admB n (ivf f_l) (ivf f_c) a ch)) := rfl
theorem admits_base : Base Try.prog 25 admitsBase := by
  intro args p v hq hp
  unfold admitsBase at hq
  split at hq
  rotate_left
  · cases hq
  rename_i n sz_l f_l m sz_c f_c a ch
  cases hq
  obtain ⟨⟨rfl, i_l⟩, ⟨rfl, i_c⟩, pre⟩ := hp
  refine base_of (C := cx [] [] [] [(25, 5, p25_5), (25, 6, p25_6)] none) (cx_ok trivial trivial) rfl (g := 25) (fn := Try.f25)
    (args' := [.row n 3 (rowF .i64 (ivf f_l)), .row m 1 (rowF .i64 (ivf f_c)), .int .i64 a, .int .i64 ch]) (fn_25) rfl 1000 (by
    simp only [BdL, Bd, and_self, and_true, true_and]
    exact ⟨(fun i j hi hj => by rw [i_l i j hi hj]; trivial), (fun i j hi hj => by rw [i_c i j hi hj]; trivial)⟩) ⟨SameD.int i_l, SameD.int i_c, SameD.rfl' _, SameD.rfl' _, trivial⟩ ?_
  generalize ivf f_l = l at *
  generalize ivf f_c = c at *
  simp only [rowF_eq]
  simp only [p25_5, p25_6, Try.f25, go_sem, ↓reduceIte, Nat.reduceAdd, Nat.reduceSub, Nat.reduceMul, Nat.reduceEqDiff, Nat.reduceLT, Nat.reduceLeDiff, Int.reduceToNat, Int.reduceLE, Int.reduceLT, Int.reduceEq, Int.reduceNeg, reduceCtorEq]
  obtain ⟨hnm, hn, ha, hch, ht, hc⟩ := pre
  have hs1 : ∀ i, i ≤ n → 0 ≤ sumK (fun i => c i 0 * l i 0) i ∧ sumK (fun i => c i 0 * l i 0) i ≤ 8 * 1200 := fun i hi => by
    have := sumK_bd (g := fun i => c i 0 * l i 0) (B := 1200) (n := i) (fun j hj => by
      have := mulB (hc j (by omega)) (tkB_iff.1 (ht j (by omega))).1
      simpa using this)
    omega
  have hs2 : ∀ i, i ≤ n → 0 ≤ sumK (fun i => c i 0 * (l i 0 + l i 1)) i ∧ sumK (fun i => c i 0 * (l i 0 + l i 1)) i ≤ 8 * 2400 := fun i hi => by
    have := sumK_bd (g := fun i => c i 0 * (l i 0 + l i 1)) (B := 2400) (n := i) (fun j hj => by
      obtain ⟨t1, t2, t3⟩ := tkB_iff.1 (ht j (by omega))
      have := mulB (hc j (by omega)) (show 0 ≤ l j 0 + l j 1 ∧ l j 0 + l j 1 ≤ 24 by omega)
      simpa using this)
    omega
  refine loop_ofH { i : Nat // i ≤ n } (fun i => [(11, .int .i64 (i.1 : Int)), (10, .int .i64 (sumK (fun i => c i 0 * (l i 0 + l i 1)) i.1)), (9, .int .i64 (sumK (fun i => c i 0 * l i 0) i.1)), (3, .int .i64 ch), (2, .int .i64 a), (1, .row m 1 fun i j => .int .i64 (c i j)), (0, .row n 3 fun i j => .int .i64 (l i j))]) (fun h _ => h) (fun i => n - i.1) (fun _ => ⟨rfl, rfl⟩) ⟨0, by omega⟩ (by simp only [sumK]; (apply sub_of <;> simp only [go_sem, ↓reduceIte, Nat.reduceAdd, Nat.reduceSub, Nat.reduceMul, Nat.reduceEqDiff, Nat.reduceLT, Nat.reduceLeDiff, Int.reduceToNat, Int.reduceLE, Int.reduceLT, Int.reduceEq, Int.reduceNeg, reduceCtorEq] <;> (try simp [catF]) <;> (try exact fun j _ => Bd_nth (by simp [BdL, Bd]) j) <;> (try exact bd_setL (by simp [bdAs, BdL, Bd])) <;> (try exact nestF_bd _ _ _ _ _ _ _ _ _))) ?_
  rintro ⟨i, hi⟩
  simp only [p25_5, p25_6, Try.f25, go_sem, ↓reduceIte, Nat.reduceAdd, Nat.reduceSub, Nat.reduceMul, Nat.reduceEqDiff, Nat.reduceLT, Nat.reduceLeDiff, Int.reduceToNat, Int.reduceLE, Int.reduceLT, Int.reduceEq, Int.reduceNeg, reduceCtorEq]
  have hw3 : IntKind.i64.wrap ((i : Int) + 1) = ((i + 1 : Nat) : Int) := by rw [wrap_id (by omega) (by omega)]; omega
  have h0 : (0 : Int) ≤ (i : Int) := by omega
  refine ⟨fun e1 => ?_, fun e1 => ?_⟩
  · simp only [decide_eq_true_eq] at e1
    have ik : i < n := by omega
    obtain ⟨t1, t2, t3⟩ := tkB_iff.1 (ht i ik)
    have q1 := mulB (hc i ik) t1
    have q2 := mulB (hc i ik) (show 0 ≤ l i 0 + l i 1 ∧ l i 0 + l i 1 ≤ 24 by omega)
    have s1 := hs1 i hi
    have s2 := hs2 i hi
    have w1 : IntKind.i64.wrap (l i 0 + l i 1) = l i 0 + l i 1 := wrap_id (by omega) (by omega)
    have w2 : IntKind.i64.wrap (c i 0 * (l i 0 + l i 1)) = c i 0 * (l i 0 + l i 1) := wrap_id (by omega) (by omega)
    have w3 : IntKind.i64.wrap (c i 0 * l i 0) = c i 0 * l i 0 := wrap_id (by omega) (by omega)
    have w4 : IntKind.i64.wrap (sumK (fun i => c i 0 * (l i 0 + l i 1)) i + c i 0 * (l i 0 + l i 1)) = sumK (fun i => c i 0 * (l i 0 + l i 1)) i + c i 0 * (l i 0 + l i 1) := wrap_id (by omega) (by omega)
    have w5 : IntKind.i64.wrap (sumK (fun i => c i 0 * l i 0) i + c i 0 * l i 0) = sumK (fun i => c i 0 * l i 0) i + c i 0 * l i 0 := wrap_id (by omega) (by omega)
    refine ⟨⟨by kernel_rfl, by kernel_rfl⟩, ⟨by omega, by omega⟩, ⟨by omega, by omega⟩, ⟨by kernel_rfl, by kernel_rfl⟩, ⟨by omega, by omega⟩, ⟨by omega, by omega⟩, ⟨by omega, by omega⟩, ⟨i + 1, by omega⟩, by simp only []; omega, ?_⟩
    apply sub_of <;> simp only [hw3, w1, w2, w3, w4, w5, sumK, go_sem, ↓reduceIte, Nat.reduceAdd, Nat.reduceSub, Nat.reduceMul, Nat.reduceEqDiff, Nat.reduceLT, Nat.reduceLeDiff, Int.reduceToNat, Int.reduceLE, Int.reduceLT, Int.reduceEq, Int.reduceNeg, reduceCtorEq] <;> (try simp) <;> (try exact fun j _ => Bd_nth (by simp [BdL, Bd]) j) <;> (try exact bd_setL (by simp [bdAs, BdL, Bd])) <;> (try exact nestF_bd _ _ _ _ _ _ _ _ _)
  · simp only [decide_eq_false_iff_not] at e1
    obtain rfl : i = n := by omega
    have s1 := hs1 i hi
    have s2 := hs2 i hi
    have w1 : IntKind.i64.wrap (a + ch) = a + ch := wrap_id (by omega) (by omega)
    rw [w1]
    refine ⟨fun c1 => by simp only [admB, c1, Bool.true_and], fun c1 => by simp only [admB, c1, Bool.false_and]⟩
def priceBase : BaseF := fun args => match args with
  | [.row n sz_l f_l, .row m sz_c f_c] => some ((sz_l = 3 ∧ IntR n 3 f_l) ∧ (sz_c = 1 ∧ IntR m 1 f_c) ∧ (n ≤ m ∧ n ≤ 8 ∧ (∀ i, i < n → tkB ((ivf f_l) i) = true) ∧ (∀ i, i < n → 0 ≤ (ivf f_c) i 0 ∧ (ivf f_c) i 0 ≤ 100)), .tup [.int .i64 (sumK (fun i => (ivf f_c) i 0 * (ivf f_l) i 2) n), .int .i64 (sumK (fun i => (ivf f_c) i 0) n)])
  | _ => none
theorem price_eq (n : Nat) (sz_l : Nat) (f_l : Nat → Nat → SV) (m : Nat) (sz_c : Nat) (f_c : Nat → Nat → SV) : priceBase [.row n sz_l f_l, .row m sz_c f_c] = some ((sz_l = 3 ∧ IntR n 3 f_l) ∧ (sz_c = 1 ∧ IntR m 1 f_c) ∧ (n ≤ m ∧ n ≤ 8 ∧ (∀ i, i < n → tkB ((ivf f_l) i) = true) ∧ (∀ i, i < n → 0 ≤ (ivf f_c) i 0 ∧ (ivf f_c) i 0 ≤ 100)), .tup [.int .i64 (sumK (fun i => (ivf f_c) i 0 * (ivf f_l) i 2) n), .int .i64 (sumK (fun i => (ivf f_c) i 0) n)]) := rfl
theorem price_base : Base Try.prog 26 priceBase := by
  intro args p v hq hp
  unfold priceBase at hq
  split at hq
  rotate_left
  · cases hq
  rename_i n sz_l f_l m sz_c f_c
  cases hq
  obtain ⟨⟨rfl, i_l⟩, ⟨rfl, i_c⟩, pre⟩ := hp
  refine base_of (C := cx [] [] [] [(26, 5, p26_5)] none) (cx_ok trivial trivial) rfl (g := 26) (fn := Try.f26)
    (args' := [.row n 3 (rowF .i64 (ivf f_l)), .row m 1 (rowF .i64 (ivf f_c))]) (fn_26) rfl 1000 (by
    simp only [BdL, Bd, and_self, and_true, true_and]
    exact ⟨(fun i j hi hj => by rw [i_l i j hi hj]; trivial), (fun i j hi hj => by rw [i_c i j hi hj]; trivial)⟩) ⟨SameD.int i_l, SameD.int i_c, trivial⟩ ?_
  generalize ivf f_l = l at *
  generalize ivf f_c = c at *
  simp only [rowF_eq]
  simp only [p26_5, Try.f26, go_sem, ↓reduceIte, Nat.reduceAdd, Nat.reduceSub, Nat.reduceMul, Nat.reduceEqDiff, Nat.reduceLT, Nat.reduceLeDiff, Int.reduceToNat, Int.reduceLE, Int.reduceLT, Int.reduceEq, Int.reduceNeg, reduceCtorEq]
  obtain ⟨hnm, hn, ht, hc⟩ := pre
  have hs1 : ∀ i, i ≤ n → 0 ≤ sumK (fun i => c i 0 * l i 2) i ∧ sumK (fun i => c i 0 * l i 2) i ≤ 8 * 104857600 := fun i hi => by
    have := sumK_bd (g := fun i => c i 0 * l i 2) (B := 104857600) (n := i) (fun j hj => by
      have := mulB (hc j (by omega)) (tkB_iff.1 (ht j (by omega))).2.2
      simpa using this)
    omega
  have hs2 : ∀ i, i ≤ n → 0 ≤ sumK (fun i => c i 0) i ∧ sumK (fun i => c i 0) i ≤ 8 * 100 := fun i hi => by
    have := sumK_bd (g := fun i => c i 0) (B := 100) (n := i) (fun j hj => hc j (by omega))
    omega
  refine loop_ofH { i : Nat // i ≤ n } (fun i => [(8, .int .i64 (i.1 : Int)), (7, .int .i64 (sumK (fun i => c i 0) i.1)), (6, .int .i64 (sumK (fun i => c i 0 * l i 2) i.1)), (1, .row m 1 fun i j => .int .i64 (c i j)), (0, .row n 3 fun i j => .int .i64 (l i j))]) (fun h _ => h) (fun i => n - i.1) (fun _ => ⟨rfl, rfl⟩) ⟨0, by omega⟩ (by simp only [sumK]; (apply sub_of <;> simp only [go_sem, ↓reduceIte, Nat.reduceAdd, Nat.reduceSub, Nat.reduceMul, Nat.reduceEqDiff, Nat.reduceLT, Nat.reduceLeDiff, Int.reduceToNat, Int.reduceLE, Int.reduceLT, Int.reduceEq, Int.reduceNeg, reduceCtorEq] <;> (try simp [catF]) <;> (try exact fun j _ => Bd_nth (by simp [BdL, Bd]) j) <;> (try exact bd_setL (by simp [bdAs, BdL, Bd])) <;> (try exact nestF_bd _ _ _ _ _ _ _ _ _))) ?_
  rintro ⟨i, hi⟩
  simp only [p26_5, Try.f26, go_sem, ↓reduceIte, Nat.reduceAdd, Nat.reduceSub, Nat.reduceMul, Nat.reduceEqDiff, Nat.reduceLT, Nat.reduceLeDiff, Int.reduceToNat, Int.reduceLE, Int.reduceLT, Int.reduceEq, Int.reduceNeg, reduceCtorEq]
  have hw3 : IntKind.i64.wrap ((i : Int) + 1) = ((i + 1 : Nat) : Int) := by rw [wrap_id (by omega) (by omega)]; omega
  have h0 : (0 : Int) ≤ (i : Int) := by omega
  refine ⟨fun e1 => ?_, fun e1 => ?_⟩
  · simp only [decide_eq_true_eq] at e1
    have ik : i < n := by omega
    obtain ⟨t1, t2, t3⟩ := tkB_iff.1 (ht i ik)
    have q1 := mulB (hc i ik) t3
    have q2 := hc i ik
    have s1 := hs1 i hi
    have s2 := hs2 i hi
    have w3 : IntKind.i64.wrap (c i 0 * l i 2) = c i 0 * l i 2 := wrap_id (by omega) (by omega)
    have w4 : IntKind.i64.wrap (sumK (fun i => c i 0) i + c i 0) = sumK (fun i => c i 0) i + c i 0 := wrap_id (by omega) (by omega)
    have w5 : IntKind.i64.wrap (sumK (fun i => c i 0 * l i 2) i + c i 0 * l i 2) = sumK (fun i => c i 0 * l i 2) i + c i 0 * l i 2 := wrap_id (by omega) (by omega)
    refine ⟨⟨by kernel_rfl, by kernel_rfl⟩, ⟨by omega, by omega⟩, ⟨by omega, by omega⟩, ⟨by omega, by omega⟩, ⟨i + 1, by omega⟩, by simp only []; omega, ?_⟩
    apply sub_of <;> simp only [hw3, w3, w4, w5, sumK, go_sem, ↓reduceIte, Nat.reduceAdd, Nat.reduceSub, Nat.reduceMul, Nat.reduceEqDiff, Nat.reduceLT, Nat.reduceLeDiff, Int.reduceToNat, Int.reduceLE, Int.reduceLT, Int.reduceEq, Int.reduceNeg, reduceCtorEq] <;> (try simp) <;> (try exact fun j _ => Bd_nth (by simp [BdL, Bd]) j) <;> (try exact bd_setL (by simp [bdAs, BdL, Bd])) <;> (try exact nestF_bd _ _ _ _ _ _ _ _ _)
  · simp only [decide_eq_false_iff_not] at e1
    obtain rfl : i = n := by omega
    rfl
def slowP (adults children : Int) : Int := 1 + max 0 (min adults 12) + max 0 (min children 12)
def slowBase : BaseF := fun args => match args with
  | [.row n sz_l f_l, .int .i64 adults, .int .i64 children, .int .i64 most] => some ((sz_l = 3 ∧ IntR n 3 f_l) ∧ (1 ≤ most ∧ most ≤ 1000000), .bool (decide (8 < n) || (decide (n ≤ 6) && decide (most < (slowP adults children) ^ n))))
  | _ => none
theorem slow_eq (n : Nat) (sz_l : Nat) (f_l : Nat → Nat → SV) (adults : Int) (children : Int) (most : Int) : slowBase [.row n sz_l f_l, .int .i64 adults, .int .i64 children, .int .i64 most] = some ((sz_l = 3 ∧ IntR n 3 f_l) ∧ (1 ≤ most ∧ most ≤ 1000000), .bool (decide (8 < n) || (decide (n ≤ 6) && decide (most < (slowP adults children) ^ n)))) := rfl
theorem slow_base : Base Try.prog 10 slowBase := by
  intro args p v hq hp
  unfold slowBase at hq
  split at hq
  rotate_left
  · cases hq
  rename_i n sz_l f_l adults children most
  cases hq
  obtain ⟨⟨rfl, i_l⟩, pre⟩ := hp
  refine base_of (C := cx [] [] [] [] none) (cx_ok trivial trivial) rfl (g := 10) (fn := Try.f10)
    (args' := [.row n 3 (rowF .i64 (ivf f_l)), .int .i64 adults, .int .i64 children, .int .i64 most]) (fn_10) rfl 1000 (by
    simp only [BdL, Bd, and_self, and_true, true_and]
    exact (fun i j hi hj => by rw [i_l i j hi hj]; trivial)) ⟨SameD.int i_l, SameD.rfl' _, SameD.rfl' _, SameD.rfl' _, trivial⟩ ?_
  generalize ivf f_l = l at *
  simp only [rowF_eq]
  simp only [Try.f10, go_sem, ↓reduceIte, Nat.reduceAdd, Nat.reduceSub, Nat.reduceMul, Nat.reduceEqDiff, Nat.reduceLT, Nat.reduceLeDiff, Int.reduceToNat, Int.reduceLE, Int.reduceLT, Int.reduceEq, Int.reduceNeg, reduceCtorEq]
  obtain ⟨hm1, hm2⟩ := pre
  refine ⟨fun c1 => by simp [show 8 < n by simp at c1; omega], fun c1 => ?_⟩
  have hn : n ≤ 8 := by simp at c1; omega
  have hp : 1 ≤ slowP adults children ∧ slowP adults children ≤ 25 := by unfold slowP; omega
  have hpw : ∀ i, i ≤ 8 → 1 ≤ slowP adults children ^ i ∧ slowP adults children ^ i ≤ 25 ^ i := fun i hi => by
    induction i with
    | zero => simp
    | succ i ih =>
      have := ih (by omega)
      have q := mulB (x := slowP adults children ^ i) (y := slowP adults children) (m := 25 ^ i) (k := 25) (by omega) (by omega)
      rw [Int.pow_succ, Int.pow_succ]
      refine ⟨?_, q.2⟩
      have := Int.mul_le_mul this.1 hp.1 (by omega) (by omega)
      omega
  have hmono : ∀ i j, i ≤ j → j ≤ 8 → slowP adults children ^ i ≤ slowP adults children ^ j := fun i j hij hj => by
    obtain ⟨k, rfl⟩ : ∃ k, j = i + k := ⟨j - i, by omega⟩
    rw [Int.pow_add]
    have h1 := hpw k (by omega)
    have h2 := hpw i (by omega)
    have := Int.mul_le_mul (Int.le_refl (slowP adults children ^ i)) h1.1 (by omega) (by omega)
    omega
  refine loop_ofH { i : Nat // i ≤ n ∧ (n ≤ 6 → slowP adults children ^ i ≤ most) } (fun i => [(10, .int .i64 (i.1 : Int)), (9, .int .i64 (slowP adults children ^ i.1)), (3, .int .i64 most), (2, .int .i64 children), (1, .int .i64 adults), (0, .row n 3 fun i j => .int .i64 (l i j))]) (fun h _ => h) (fun i => n - i.1) (fun _ => ⟨rfl, rfl⟩) ⟨0, by omega, by simpa using fun _ => hm1⟩ (by simp only [Int.pow_zero]; (apply sub_of <;> simp only [go_sem, ↓reduceIte, Nat.reduceAdd, Nat.reduceSub, Nat.reduceMul, Nat.reduceEqDiff, Nat.reduceLT, Nat.reduceLeDiff, Int.reduceToNat, Int.reduceLE, Int.reduceLT, Int.reduceEq, Int.reduceNeg, reduceCtorEq] <;> (try simp [catF]) <;> (try exact fun j _ => Bd_nth (by simp [BdL, Bd]) j) <;> (try exact bd_setL (by simp [bdAs, BdL, Bd])) <;> (try exact nestF_bd _ _ _ _ _ _ _ _ _))) ?_
  rintro ⟨i, hi, h3⟩
  simp only [Try.f10, go_sem, ↓reduceIte, Nat.reduceAdd, Nat.reduceSub, Nat.reduceMul, Nat.reduceEqDiff, Nat.reduceLT, Nat.reduceLeDiff, Int.reduceToNat, Int.reduceLE, Int.reduceLT, Int.reduceEq, Int.reduceNeg, reduceCtorEq]
  have hw3 : IntKind.i64.wrap ((i : Int) + 1) = ((i + 1 : Nat) : Int) := by rw [wrap_id (by omega) (by omega)]; omega
  have h0 : (0 : Int) ≤ (i : Int) := by omega
  have w1 : IntKind.i64.wrap (IntKind.i64.wrap (1 + max 0 (min adults 12)) + max 0 (min children 12)) = slowP adults children := by
    rw [wrap_id (x := 1 + max 0 (min adults 12)) (by omega) (by omega), wrap_id (by omega) (by omega)]
    rfl
  simp only [w1]
  refine ⟨fun e1 => ?_, fun e1 => ?_⟩
  · simp only [decide_eq_true_eq] at e1
    have ik : i < n := by omega
    have q := hpw (i + 1) (by omega)
    have q2 : (25 : Int) ^ (i + 1) ≤ 152587890625 := (show ∀ i, i ≤ 8 → (25 : Int) ^ i ≤ 152587890625 by decide) (i + 1) (by omega)
    have w2 : IntKind.i64.wrap (slowP adults children ^ i * slowP adults children) = slowP adults children ^ (i + 1) := by
      rw [← Int.pow_succ]
      generalize slowP adults children ^ (i + 1) = z at q ⊢
      generalize (25 : Int) ^ (i + 1) = y at q q2
      exact wrap_id (by omega) (by omega)
    simp only [w2]
    refine ⟨fun e2 => ⟨fun e3 => ?_, fun e3 => ?_⟩, fun e2 => ?_⟩
    · simp only [decide_eq_true_eq] at e2 e3
      have := hmono (i + 1) n (by omega) hn
      simp only [show (n ≤ 6) by omega, show most < slowP adults children ^ n by omega, decide_true, Bool.and_true, Bool.or_true]
    · simp only [decide_eq_false_iff_not] at e3
      refine ⟨⟨i + 1, by omega, fun h => absurd h (by omega)⟩, by simp only []; omega, ?_⟩
      apply sub_of <;> simp only [hw3, w2, go_sem, ↓reduceIte, Nat.reduceAdd, Nat.reduceSub, Nat.reduceMul, Nat.reduceEqDiff, Nat.reduceLT, Nat.reduceLeDiff, Int.reduceToNat, Int.reduceLE, Int.reduceLT, Int.reduceEq, Int.reduceNeg, reduceCtorEq] <;> (try simp) <;> (try exact fun j _ => Bd_nth (by simp [BdL, Bd]) j) <;> (try exact bd_setL (by simp [bdAs, BdL, Bd])) <;> (try exact nestF_bd _ _ _ _ _ _ _ _ _)
    · simp only [decide_eq_false_iff_not] at e2
      refine ⟨⟨i + 1, by omega, fun _ => by omega⟩, by simp only []; omega, ?_⟩
      apply sub_of <;> simp only [hw3, w2, go_sem, ↓reduceIte, Nat.reduceAdd, Nat.reduceSub, Nat.reduceMul, Nat.reduceEqDiff, Nat.reduceLT, Nat.reduceLeDiff, Int.reduceToNat, Int.reduceLE, Int.reduceLT, Int.reduceEq, Int.reduceNeg, reduceCtorEq] <;> (try simp) <;> (try exact fun j _ => Bd_nth (by simp [BdL, Bd]) j) <;> (try exact bd_setL (by simp [bdAs, BdL, Bd])) <;> (try exact nestF_bd _ _ _ _ _ _ _ _ _)
  · simp only [decide_eq_false_iff_not] at e1
    obtain rfl : i = n := by omega
    congr 1
    have h8 : ¬ 8 < i := by omega
    simp only [h8, decide_false, Bool.false_or]
    by_cases h6 : i ≤ 6
    · have := h3 h6
      simp [show ¬ most < slowP adults children ^ i by omega]
    · simp [h6]
end Go.Eng
end

/- money: the best tickets, with what is known of before. -/
section
namespace Go.Eng
open Go Go.RowKit Go.Proofs
set_option maxRecDepth 100000
set_option maxHeartbeats 4000000
attribute [local irreducible] OwnT DefS
def candA (t own : Int) (r : Ans) : Ans := ⟨r.is, own, r.price + own * t, r.num + own⟩
def pickA (f : Int → Ans) : Nat → Ans
  | 0 => ⟨false, 0, 0, 0⟩
  | k + 1 => if (f k).better (pickA f k) then f k else pickA f k
/-- The best tickets of the last k kinds. -/
def best (l : Nat → Nat → Int) (n : Nat) : Nat → Int → Int → Ans
  | 0, a, p => ⟨decide (a = 0) && decide (p = 0), 0, 0, 0⟩
  | k + 1, a, p => pickA (fun own => candA (l (n - (k + 1)) 2) own (best l n k (max 0 (a - own * l (n - (k + 1)) 0)) (max 0 (p - own * (l (n - (k + 1)) 0 + l (n - (k + 1)) 1))))) (max a p + 1).toNat
theorem pickA_all {f : Int → Ans} {P : Ans → Prop} (h0 : P ⟨false, 0, 0, 0⟩) : ∀ (k : Nat), (∀ i : Nat, i < k → P (f i)) → P (pickA f k)
  | 0, _ => h0
  | k + 1, h => by
    simp only [pickA]
    split
    · exact h k (by omega)
    · exact pickA_all h0 k (fun i hi => h i (by omega))
def AnsOk (k : Nat) (A : Ans) : Prop := (0 ≤ A.own ∧ A.own ≤ 24) ∧ (0 ≤ A.price ∧ A.price ≤ k * 25165824) ∧ (0 ≤ A.num ∧ A.num ≤ k * 24)
theorem best_ok {l : Nat → Nat → Int} {n : Nat} (hl : ∀ i, i < n → tkB (l i) = true) : ∀ (k : Nat) (a p : Int), k ≤ n → (0 ≤ a ∧ a ≤ 24) → (0 ≤ p ∧ p ≤ 24) → AnsOk k (best l n k a p)
  | 0, a, p, _, _, _ => by simp [best, AnsOk]
  | k + 1, a, p, hk, ha, hp => by
    obtain ⟨t1, t2, t3⟩ := tkB_iff.1 (hl (n - (k + 1)) (by omega))
    simp only [best]
    refine pickA_all (P := AnsOk (k + 1)) (by simp [AnsOk]; omega) _ (fun i hi => ?_)
    have q1 := mulB (x := (i : Int)) (y := l (n - (k + 1)) 0) (m := 24) (k := 12) (by omega) t1
    have q2 := mulB (x := (i : Int)) (y := l (n - (k + 1)) 0 + l (n - (k + 1)) 1) (m := 24) (k := 24) (by omega) (by omega)
    have q3 := mulB (x := (i : Int)) (y := l (n - (k + 1)) 2) (m := 24) (k := 1048576) (by omega) t3
    obtain ⟨_, b2, b3⟩ := best_ok hl k (max 0 (a - i * l (n - (k + 1)) 0)) (max 0 (p - i * (l (n - (k + 1)) 0 + l (n - (k + 1)) 1))) (by omega) (by omega) (by omega)
    simp only [AnsOk, candA]
    omega
def ansL (A : Ans) : List Int := [b2i A.is, A.own, A.price, A.num]
def ansS (A : Ans) : SV := .agg [.bool A.is, .int .i64 A.own, .int .i64 A.price, .int .i64 A.num]
/-- What is known is right. -/
def Known (l : Nat → Nat → Int) (n : Nat) (es : List (List Int × List Int)) : Prop :=
  ∀ (i : Nat) (a p : Int) (v : List Int), i ≤ n → findM es [(i : Int), a, p] = some v → v = ansL (best l n (n - i) a p)
theorem findM_put : ∀ (es : List (List Int × List Int)) (k v k' : List Int), findM (putM es k v) k' = if k = k' then some v else findM es k'
  | [], k, v, k' => by simp [putM, findM]
  | (k0, v0) :: es, k, v, k' => by
    simp only [putM]
    split
    · rename_i h; subst h
      simp only [findM]
      split <;> rfl
    · rename_i h
      simp only [findM, findM_put es k v k']
      by_cases h1 : k0 = k'
      · subst h1
        rw [if_pos rfl, if_neg (fun e => h e.symm), if_pos rfl]
      · rw [if_neg h1, if_neg h1]
theorem known_put {l : Nat → Nat → Int} {n : Nat} {es : List (List Int × List Int)} (h : Known l n es) {i : Nat} {a p : Int} {v : List Int} (hv : v = ansL (best l n (n - i) a p)) : Known l n (putM es [(i : Int), a, p] v) := by
  intro i' a' p' v' hi hf
  rw [findM_put] at hf
  split at hf
  · rename_i e
    simp only [List.cons.injEq, and_true] at e
    obtain ⟨e1, rfl, rfl⟩ := e
    obtain rfl : i = i' := by omega
    cases hf
    exact hv
  · exact h i' a' p' v' hi hf
/-- Memory: the tickets, what is known, and the functions. -/
def mpS (es : List (List Int × List Int)) : MapS := ⟨76, 80, true, [.i, .i, .i], true, [.b, .i, .i, .i], es⟩
def bestH (l : Nat → Nat → Int) (n : Nat) (es : List (List Int × List Int)) : List Blk :=
  [.live 22 [.row n 3 fun i j => .int .i64 (l i j)], .mp (mpS es), .live 74 [.mapp 1], .live 77 [.func 36 [.ptr 0 0]], .live 78 [.func 37 [.ptr 0 0, .ptr 2 0, .ptr 4 0, .ptr 3 0]]]
def catB : List Blk → List Blk → List Blk
  | [], k => k
  | x :: l, k => x :: catB l k
theorem best_trim {l : Nat → Nat → Int} {n : Nat} {args : List SV} {es : List (List Int × List Int)} {A : Ans}
    (h : CallsS Try.prog 37 args ⟨bestH l n es, []⟩ (fun o h' => ∃ es' ext, Known l n es' ∧ o = .ret (ansS A) ∧ h' = ⟨catB (bestH l n es') ext, []⟩)) :
    CallsS Try.prog 37 args ⟨bestH l n es, []⟩ (fun o h' => ∃ es', Known l n es' ∧ o = .ret (ansS A) ∧ h' = ⟨bestH l n es', []⟩) := by
  refine calls_trim h ?_
  rintro o h' ⟨es', ext, h1, rfl, rfl⟩
  refine ⟨ansS A, ansS A, ⟨bestH l n es', []⟩, ⟨rfl, es', h1, rfl, rfl⟩, ⟨?_, ?_, ?_, ?_, ?_, ?_⟩, ⟨?_, ?_⟩, ⟨?_, ?_⟩⟩ <;> simp only [ansS, bestH, catB, go_sem, ↓reduceIte, Nat.reduceAdd, Nat.reduceSub, Nat.reduceMul, Nat.reduceEqDiff, Nat.reduceLT, Nat.reduceLeDiff, Int.reduceToNat, Int.reduceLE, Int.reduceLT, Int.reduceEq, Int.reduceNeg, reduceCtorEq] <;> simp
theorem lenB_cat : ∀ (k l : List Blk), lenB (catB k l) = lenB k + lenB l
  | [], l => by simp [catB, lenB]
  | x :: k, l => by simp only [catB, lenB, lenB_cat k l]; omega
theorem best_frame {l : Nat → Nat → Int} {n : Nat} {i a p : Int} {es : List (List Int × List Int)} {A : Ans} (rest : List Blk) (V : List Vc)
    (h : CallsS Try.prog 37 [.agg [.int .i64 i, .int .i64 a, .int .i64 p], .ptr 0 0, .ptr 2 0, .ptr 4 0, .ptr 3 0] ⟨bestH l n es, []⟩ (fun o h' => ∃ es', Known l n es' ∧ o = .ret (ansS A) ∧ h' = ⟨bestH l n es', []⟩)) :
    CallsS Try.prog 37 [.agg [.int .i64 i, .int .i64 a, .int .i64 p], .ptr 0 0, .ptr 2 0, .ptr 4 0, .ptr 3 0] ⟨catB (bestH l n es) rest, V⟩ (fun o h' => ∃ es', Known l n es' ∧ o = .ret (ansS A) ∧ h' = ⟨catB (bestH l n es') rest, V⟩) := by
  have := calls_ren (h := ⟨catB (bestH l n es) rest, V⟩) [0, 1, 2, 3, 4] [] h (by decide) (by decide) (by simp [BdL, Bd]) (by simp [bestH, bdB, BdL, Bd]) (by simp only [go_sem, ↓reduceIte, Nat.reduceAdd, Nat.reduceSub, Nat.reduceMul, Nat.reduceEqDiff, Nat.reduceLT, Nat.reduceLeDiff, Int.reduceToNat, Int.reduceLE, Int.reduceLT, Int.reduceEq, Int.reduceNeg, reduceCtorEq])
    (by simp only [bestH, catB, go_sem, ↓reduceIte, Nat.reduceAdd, Nat.reduceSub, Nat.reduceMul, Nat.reduceEqDiff, Nat.reduceLT, Nat.reduceLeDiff, Int.reduceToNat, Int.reduceLE, Int.reduceLT, Int.reduceEq, Int.reduceNeg, reduceCtorEq]) (by simp only [go_sem, ↓reduceIte, Nat.reduceAdd, Nat.reduceSub, Nat.reduceMul, Nat.reduceEqDiff, Nat.reduceLT, Nat.reduceLeDiff, Int.reduceToNat, Int.reduceLE, Int.reduceLT, Int.reduceEq, Int.reduceNeg, reduceCtorEq]) (by intro k hk; simp only [lenB_cat, bestH, go_sem, ↓reduceIte, Nat.reduceAdd, Nat.reduceSub, Nat.reduceMul, Nat.reduceEqDiff, Nat.reduceLT, Nat.reduceLeDiff, Int.reduceToNat, Int.reduceLE, Int.reduceLT, Int.reduceEq, Int.reduceNeg, reduceCtorEq]; simp at hk; omega) (by simp)
    (by rintro o h' ⟨es', h1, rfl, rfl⟩; simp [ansS, bestH, bdO, bdB, bdV, BdL, Bd, lenB, lenV])
  refine calls_mono ?_ this
  rintro o h' ⟨o0, h0', ⟨es', h1, rfl, rfl⟩, rfl, rfl⟩
  refine ⟨es', h1, ?_, ?_⟩
  · simp only [ansS, go_sem, ↓reduceIte, Nat.reduceAdd, Nat.reduceSub, Nat.reduceMul, Nat.reduceEqDiff, Nat.reduceLT, Nat.reduceLeDiff, Int.reduceToNat, Int.reduceLE, Int.reduceLT, Int.reduceEq, Int.reduceNeg, reduceCtorEq]
  · simp only [bestH, catB, go_sem, ↓reduceIte, Nat.reduceAdd, Nat.reduceSub, Nat.reduceMul, Nat.reduceEqDiff, Nat.reduceLT, Nat.reduceLeDiff, Int.reduceToNat, Int.reduceLE, Int.reduceLT, Int.reduceEq, Int.reduceNeg, reduceCtorEq]
theorem best_calls {l : Nat → Nat → Int} {n : Nat} (hl : ∀ i, i < n → tkB (l i) = true) (hn : n ≤ 1000) : ∀ (k i : Nat) (a p : Int) (es : List (List Int × List Int)), i + k = n → (0 ≤ a ∧ a ≤ 24) → (0 ≤ p ∧ p ≤ 24) → Known l n es →
    CallsS Try.prog 37 [.agg [.int .i64 (i : Int), .int .i64 a, .int .i64 p], .ptr 0 0, .ptr 2 0, .ptr 4 0, .ptr 3 0] ⟨bestH l n es, []⟩ (fun o h' => ∃ es', Known l n es' ∧ o = .ret (ansS (best l n k a p)) ∧ h' = ⟨bestH l n es', []⟩) := by
  intro k
  induction k with
  | zero =>
    intro i a p es hi ha hp hes
    obtain rfl : i = n := by omega
    refine best_trim (calls_of_run (C := cx [37] [] [(38, betterBase), (36, behindBase)] [(37, 10, p37_10), (37, 11, p37_11)] none) (cx_ok trivial ⟨better_base, behind_base, trivial⟩) rfl fn_37 rfl 1000 ?_)
    simp only [Try.f37, bestH, mpS, p37_10, p37_11, better_eq, behind_eq, go_sem, ↓reduceIte, Nat.reduceAdd, Nat.reduceSub, Nat.reduceMul, Nat.reduceEqDiff, Nat.reduceLT, Nat.reduceLeDiff, Int.reduceToNat, Int.reduceLE, Int.reduceLT, Int.reduceEq, Int.reduceNeg, reduceCtorEq]
    refine ⟨by omega, by omega, fun c1 => ⟨by omega, es, _, hes, ?_, rfl⟩, fun c1 => ⟨es, _, hes, ?_, rfl⟩⟩
    · simp only [best, ansS, c1, Bool.true_and]
    · simp only [best, ansS, c1, Bool.false_and]
  | succ k ih =>
    intro i a p es hi ha hp hes
    refine best_trim (calls_of_run (C := cx [37] [] [(38, betterBase), (36, behindBase)] [(37, 10, p37_10), (37, 11, p37_11)] none) (cx_ok trivial ⟨better_base, behind_base, trivial⟩) rfl fn_37 rfl 1000 ?_)
    simp only [Try.f37, bestH, mpS, p37_10, p37_11, better_eq, behind_eq, go_sem, ↓reduceIte, Nat.reduceAdd, Nat.reduceSub, Nat.reduceMul, Nat.reduceEqDiff, Nat.reduceLT, Nat.reduceLeDiff, Int.reduceToNat, Int.reduceLE, Int.reduceLT, Int.reduceEq, Int.reduceNeg, reduceCtorEq]
    refine ⟨by omega, fun c1 => by simp at c1; omega, fun c1 => ?_⟩
    have hlk : hasM es [(i : Int), a, p] = true → lookM es [(i : Int), a, p] = ansL (best l n (k + 1) a p) := fun h => by
      unfold hasM at h
      unfold lookM
      cases hf : findM es [(i : Int), a, p] with
      | none => rw [hf] at h; cases h
      | some v =>
        have := hes i a p v (by omega) hf
        rw [show n - i = k + 1 by omega] at this
        simpa using this
    refine ⟨fun c2 => ⟨es, _, hes, ?_, rfl⟩, fun c2 => ⟨by omega, by omega, ?_⟩⟩
    · rw [hlk c2]
      simp only [ansL, ansS, gt]
      cases (best l n (k + 1) a p).is <;> simp [b2i]
    have hM : IntKind.i64.wrap (max a p + 1) = ((max a p + 1).toNat : Int) := by rw [wrap_id (by omega) (by omega)]; omega
    have hM2 : (max a p + 1).toNat ≤ 25 := by omega
    rw [hM]
    have hbest : best l n (k + 1) a p = pickA (fun own => candA (l i 2) own (best l n k (max 0 (a - own * l i 0)) (max 0 (p - own * (l i 0 + l i 1))))) (max a p + 1).toNat := by
      simp only [best, show n - (k + 1) = i by omega]
    have hbest' := hbest
    rw [hbest]
    generalize hF : (fun own => candA (l i 2) own (best l n k (max 0 (a - own * l i 0)) (max 0 (p - own * (l i 0 + l i 1))))) = F
    generalize hMM : (max a p + 1).toNat = M at hM2 ⊢
    refine loop_of { x : Nat × List (List Int × List Int) // x.1 ≤ M ∧ Known l n x.2 } (fun x => [(40, .int .i64 (x.1.1 : Int)), (39, .int .i64 (M : Int)), (9, .ptr 8 0), (6, .ptr 6 0), (5, .ptr 5 0), (4, .ptr 3 0), (3, .ptr 4 0), (2, .ptr 2 0), (1, .ptr 0 0)])
      (fun x => ⟨[.live 22 [.row n 3 fun i j => .int .i64 (l i j)], .mp (mpS x.1.2), .live 74 [.mapp 1], .live 77 [.func 36 [.ptr 0 0]], .live 78 [.func 37 [.ptr 0 0, .ptr 2 0, .ptr 4 0, .ptr 3 0]], .live 76 [.int .i64 (i : Int), .int .i64 a, .int .i64 p], .live 80 [.bool false, .int .i64 0, .int .i64 0, .int .i64 0], .live 80 [.any, .any, .any, .any], .live 80 [.bool (pickA F x.1.1).is, .int .i64 (pickA F x.1.1).own, .int .i64 (pickA F x.1.1).price, .int .i64 (pickA F x.1.1).num]], []⟩) (fun x => M - x.1.1) (fun _ => ⟨rfl, rfl⟩) ⟨(0, es), by omega, hes⟩ (by simp only [pickA, mpS]; (apply sub_of <;> simp only [go_sem, ↓reduceIte, Nat.reduceAdd, Nat.reduceSub, Nat.reduceMul, Nat.reduceEqDiff, Nat.reduceLT, Nat.reduceLeDiff, Int.reduceToNat, Int.reduceLE, Int.reduceLT, Int.reduceEq, Int.reduceNeg, reduceCtorEq] <;> (try simp [catF]) <;> (try exact fun j _ => Bd_nth (by simp [BdL, Bd]) j) <;> (try exact bd_setL (by simp [bdAs, BdL, Bd])) <;> (try exact nestF_bd _ _ _ _ _ _ _ _ _))) ?_
    rintro ⟨⟨q, es⟩, hq, hes⟩
    simp only [Try.f37, mpS, p37_10, p37_11, better_eq, behind_eq, go_sem, ↓reduceIte, Nat.reduceAdd, Nat.reduceSub, Nat.reduceMul, Nat.reduceEqDiff, Nat.reduceLT, Nat.reduceLeDiff, Int.reduceToNat, Int.reduceLE, Int.reduceLT, Int.reduceEq, Int.reduceNeg, reduceCtorEq]
    refine ⟨fun e1 => ?_, fun e1 => ?_⟩
    · simp only [decide_eq_true_eq] at e1
      have hqM : q < M := by omega
      have ht := hl i (by omega)
      obtain ⟨t1, t2, t3⟩ := tkB_iff.1 ht
      have q1 := mulB (x := (q : Int)) (y := l i 0) (m := 24) (k := 12) (by omega) t1
      have q2 := mulB (x := (q : Int)) (y := l i 0 + l i 1) (m := 24) (k := 24) (by omega) (by omega)
      have q3 := mulB (x := (q : Int)) (y := l i 2) (m := 24) (k := 1048576) (by omega) t3
      have pre : 0 ≤ (i : Int) ∧ (i : Int) < (n : Int) ∧ n ≤ 1000000 ∧ (0 ≤ a ∧ a ≤ 100) ∧ (0 ≤ p ∧ p ≤ 100) ∧ (0 ≤ (q : Int) ∧ (q : Int) ≤ 100) ∧ tkB (l i) = true := ⟨by omega, by omega, by omega, by omega, by omega, by omega, ht⟩
      have hcall := ih (i + 1) (max 0 (a - q * l i 0)) (max 0 (p - q * (l i 0 + l i 1))) es (by omega) (by omega) (by omega) hes
      have hb := best_ok hl k (max 0 (a - q * l i 0)) (max 0 (p - q * (l i 0 + l i 1))) (by omega) (by omega) (by omega)
      have hFq : F q = candA (l i 2) q (best l n k (max 0 (a - q * l i 0)) (max 0 (p - q * (l i 0 + l i 1)))) := by rw [← hF]
      generalize best l n k (max 0 (a - q * l i 0)) (max 0 (p - q * (l i 0 + l i 1))) = A at hcall hb hFq
      obtain ⟨b1, b2, b3⟩ := hb
      have w1 : IntKind.i64.wrap (A.price + q * l i 2) = A.price + q * l i 2 := wrap_id (by omega) (by omega)
      have w2 : IntKind.i64.wrap (A.num + (q : Int)) = A.num + q := wrap_id (by omega) (by omega)
      have w3 : IntKind.i64.wrap ((q : Int) * l i 2) = q * l i 2 := wrap_id (by omega) (by omega)
      have hw3 : IntKind.i64.wrap ((q : Int) + 1) = ((q + 1 : Nat) : Int) := by rw [wrap_id (by omega) (by omega)]; omega
      have hi1 : ((i : Int) + 1) = ((i + 1 : Nat) : Int) := by omega
      rw [hi1]
      refine ⟨⟨by kernel_rfl, by kernel_rfl⟩, pre, ?_, pre, ?_⟩
      · refine calls_mono ?_ (best_frame ([.live 76 [.int .i64 (i : Int), .int .i64 a, .int .i64 p], .live 80 [.bool false, .int .i64 0, .int .i64 0, .int .i64 0], .live 80 [.any, .any, .any, .any], .live 80 [.bool (pickA F q).is, .int .i64 (pickA F q).own, .int .i64 (pickA F q).price, .int .i64 (pickA F q).num]]) [] hcall)
        rintro o h' ⟨es', hes', rfl, rfl⟩
        simp only [ansS, bestH, catB, mpS, p37_10, p37_11, better_eq, behind_eq, go_sem, ↓reduceIte, Nat.reduceAdd, Nat.reduceSub, Nat.reduceMul, Nat.reduceEqDiff, Nat.reduceLT, Nat.reduceLeDiff, Int.reduceToNat, Int.reduceLE, Int.reduceLT, Int.reduceEq, Int.reduceNeg, reduceCtorEq]
        refine ⟨⟨by kernel_rfl, by kernel_rfl⟩, by omega, ⟨by omega, by omega⟩, ⟨by omega, by omega, by omega⟩, fun e2 => ?_, fun e2 => ?_⟩
        · rw [w3, w1, w2] at e2
          have hp1 : pickA F (q + 1) = ⟨A.is, q, A.price + q * l i 2, A.num + q⟩ := by
            simp only [pickA]
            rw [if_pos (by rw [hFq]; exact e2), hFq]
            rfl
          refine ⟨⟨(q + 1, es'), by omega, hes'⟩, by simp only []; omega, ?_⟩
          apply sub_of <;> simp only [hw3, w1, w2, w3, hp1, go_sem, ↓reduceIte, Nat.reduceAdd, Nat.reduceSub, Nat.reduceMul, Nat.reduceEqDiff, Nat.reduceLT, Nat.reduceLeDiff, Int.reduceToNat, Int.reduceLE, Int.reduceLT, Int.reduceEq, Int.reduceNeg, reduceCtorEq] <;> (try simp) <;> (try exact fun j _ => Bd_nth (by simp [BdL, Bd]) j) <;> (try exact bd_setL (by simp [bdAs, BdL, Bd])) <;> (try exact nestF_bd _ _ _ _ _ _ _ _ _)
        · rw [w3, w1, w2] at e2
          have hp1 : pickA F (q + 1) = pickA F q := by
            simp only [pickA]
            rw [if_neg (by rw [hFq]; intro h; rw [show (candA (l i 2) q A).better (pickA F q) = false from e2] at h; cases h)]
          refine ⟨⟨(q + 1, es'), by omega, hes'⟩, by simp only []; omega, ?_⟩
          apply sub_of <;> simp only [hw3, w1, w2, w3, hp1, go_sem, ↓reduceIte, Nat.reduceAdd, Nat.reduceSub, Nat.reduceMul, Nat.reduceEqDiff, Nat.reduceLT, Nat.reduceLeDiff, Int.reduceToNat, Int.reduceLE, Int.reduceLT, Int.reduceEq, Int.reduceNeg, reduceCtorEq] <;> (try simp) <;> (try exact fun j _ => Bd_nth (by simp [BdL, Bd]) j) <;> (try exact bd_setL (by simp [bdAs, BdL, Bd])) <;> (try exact nestF_bd _ _ _ _ _ _ _ _ _)
      · refine calls_mono ?_ (best_frame ([.live 76 [.int .i64 (i : Int), .int .i64 a, .int .i64 p], .live 80 [.bool false, .int .i64 0, .int .i64 0, .int .i64 0], .live 80 [.any, .any, .any, .any], .live 80 [.bool (pickA F q).is, .int .i64 (pickA F q).own, .int .i64 (pickA F q).price, .int .i64 (pickA F q).num], .live 80 [.bool false, .int .i64 0, .int .i64 0, .int .i64 0]]) [] hcall)
        rintro o h' ⟨es', hes', rfl, rfl⟩
        simp only [ansS, bestH, catB, mpS, p37_10, p37_11, better_eq, behind_eq, go_sem, ↓reduceIte, Nat.reduceAdd, Nat.reduceSub, Nat.reduceMul, Nat.reduceEqDiff, Nat.reduceLT, Nat.reduceLeDiff, Int.reduceToNat, Int.reduceLE, Int.reduceLT, Int.reduceEq, Int.reduceNeg, reduceCtorEq]
        refine ⟨⟨by kernel_rfl, by kernel_rfl⟩, by omega, ⟨by omega, by omega⟩, ⟨by omega, by omega, by omega⟩, fun e2 => ?_, fun e2 => ?_⟩
        · rw [w3, w1, w2] at e2
          have hp1 : pickA F (q + 1) = ⟨A.is, q, A.price + q * l i 2, A.num + q⟩ := by
            simp only [pickA]
            rw [if_pos (by rw [hFq]; exact e2), hFq]
            rfl
          refine ⟨⟨(q + 1, es'), by omega, hes'⟩, by simp only []; omega, ?_⟩
          apply sub_of <;> simp only [hw3, w1, w2, w3, hp1, go_sem, ↓reduceIte, Nat.reduceAdd, Nat.reduceSub, Nat.reduceMul, Nat.reduceEqDiff, Nat.reduceLT, Nat.reduceLeDiff, Int.reduceToNat, Int.reduceLE, Int.reduceLT, Int.reduceEq, Int.reduceNeg, reduceCtorEq] <;> (try simp) <;> (try exact fun j _ => Bd_nth (by simp [BdL, Bd]) j) <;> (try exact bd_setL (by simp [bdAs, BdL, Bd])) <;> (try exact nestF_bd _ _ _ _ _ _ _ _ _)
        · rw [w3, w1, w2] at e2
          have hp1 : pickA F (q + 1) = pickA F q := by
            simp only [pickA]
            rw [if_neg (by rw [hFq]; intro h; rw [show (candA (l i 2) q A).better (pickA F q) = false from e2] at h; cases h)]
          refine ⟨⟨(q + 1, es'), by omega, hes'⟩, by simp only []; omega, ?_⟩
          apply sub_of <;> simp only [hw3, w1, w2, w3, hp1, go_sem, ↓reduceIte, Nat.reduceAdd, Nat.reduceSub, Nat.reduceMul, Nat.reduceEqDiff, Nat.reduceLT, Nat.reduceLeDiff, Int.reduceToNat, Int.reduceLE, Int.reduceLT, Int.reduceEq, Int.reduceNeg, reduceCtorEq] <;> (try simp) <;> (try exact fun j _ => Bd_nth (by simp [BdL, Bd]) j) <;> (try exact bd_setL (by simp [bdAs, BdL, Bd])) <;> (try exact nestF_bd _ _ _ _ _ _ _ _ _)
    · simp only [decide_eq_false_iff_not] at e1
      obtain rfl : q = M := by omega
      refine ⟨putM es [(i : Int), a, p] (ansL (pickA F q)), _, known_put hes ?_, rfl, rfl⟩
      rw [show n - i = k + 1 by omega, hbest, hF, hMM]
end Go.Eng
end

/- money: the cheapest tickets. -/
section
namespace Go.Eng
open Go Go.RowKit Go.Proofs
set_option maxRecDepth 100000
set_option maxHeartbeats 4000000
attribute [local irreducible] OwnT DefS
/-- What is wanted behind the first i kinds, by the best choice. -/
def wkA (l : Nat → Nat → Int) (n : Nat) (a p : Int) : Nat → Int × Int
  | 0 => (a, p)
  | i + 1 => let w := wkA l n a p i
    let own := (best l n (n - i) w.1 w.2).own
    (max 0 (w.1 - own * l i 0), max 0 (w.2 - own * (l i 0 + l i 1)))
def chA (l : Nat → Nat → Int) (n : Nat) (a p : Int) (i : Nat) : Int := (best l n (n - i) (wkA l n a p i).1 (wkA l n a p i).2).own
theorem wkA_bd {l : Nat → Nat → Int} {n : Nat} (hl : ∀ i, i < n → tkB (l i) = true) {a p : Int} (ha : 0 ≤ a ∧ a ≤ 24) (hp : 0 ≤ p ∧ p ≤ 24) : ∀ i, i ≤ n → (0 ≤ (wkA l n a p i).1 ∧ (wkA l n a p i).1 ≤ 24) ∧ (0 ≤ (wkA l n a p i).2 ∧ (wkA l n a p i).2 ≤ 24)
  | 0, _ => ⟨ha, hp⟩
  | i + 1, hi => by
    obtain ⟨h1, h2⟩ := wkA_bd hl ha hp i (by omega)
    obtain ⟨t1, t2, t3⟩ := tkB_iff.1 (hl i (by omega))
    have hb := (best_ok hl (n - i) _ _ (by omega) h1 h2).1
    have q1 := mulB hb t1
    have q2 := mulB hb (show 0 ≤ l i 0 + l i 1 ∧ l i 0 + l i 1 ≤ 24 by omega)
    simp only [wkA]
    omega
/-- What Cheapest returns: how many numbers the choice has, the price, the error. -/
def chpV (n : Nat) (l : Nat → Nat → Int) (a ch : Int) : Bool := decide (n ≤ 6) && allU (tkBl l) n
def chpE (n : Nat) (l : Nat → Nat → Int) (a ch : Int) : Int :=
  if chpV n l a ch then if in3 a 0 12 && in3 ch 0 12 then if (best l n n a (a + ch)).is then 0 else 4 else 2 else 1
def chpN (n : Nat) (l : Nat → Nat → Int) (a ch : Int) : Nat := if chpE n l a ch = 0 then n else 0
def chpP (n : Nat) (l : Nat → Nat → Int) (a ch : Int) : Int := if chpE n l a ch = 0 then (best l n n a (a + ch)).price else 0
/-- One more number behind a row. -/
theorem cat1 {q : Nat} {F : Nat → Int} {C : Int} (h : F q = C) : ∀ i j : Nat, i < q + 1 → j < 1 → catF q (fun i _ => SV.int .i64 (F i)) (oneF [.int .i64 C]) i j = .int .i64 (F i) := fun i j hi hj => by
  obtain rfl : j = 0 := by omega
  unfold catF oneF
  split
  · rfl
  · obtain rfl : i = q := by omega
    rw [h]; rfl
def cheapestBase : BaseF := fun args => match args with
  | [.row n sz_l f_l, .int .i64 a, .int .i64 ch] => some ((sz_l = 3 ∧ IntR n 3 f_l) ∧ (n ≤ 1000000), .tup [.row (chpN n (ivf f_l) a ch) 1 (fun i _ => .int .i64 (chA (ivf f_l) n a (a + ch) i)), .int .i64 (chpP n (ivf f_l) a ch), .int .i64 (chpE n (ivf f_l) a ch)])
  | _ => none
theorem cheapest_eq (n : Nat) (sz_l : Nat) (f_l : Nat → Nat → SV) (a : Int) (ch : Int) : cheapestBase [.row n sz_l f_l, .int .i64 a, .int .i64 ch] = some ((sz_l = 3 ∧ IntR n 3 f_l) ∧ (n ≤ 1000000), .tup [.row (chpN n (ivf f_l) a ch) 1 (fun i _ => .int .i64 (chA (ivf f_l) n a (a + ch) i)), .int .i64 (chpP n (ivf f_l) a ch), .int .i64 (chpE n (ivf f_l) a ch)]) := rfl
theorem cheapest_base : Base Try.prog 12 cheapestBase := by
  intro args p v hq hp
  unfold cheapestBase at hq
  split at hq
  rotate_left
  · cases hq
  rename_i n sz_l f_l a ch
  cases hq
  obtain ⟨⟨rfl, i_l⟩, pre⟩ := hp
  refine baseF_of (C := cx [37] [] [(33, allTkBase), (35, isCrowdBase), (36, behindBase)] [(12, 19, p12_19)] none) (cx_ok trivial ⟨allTk_base, isCrowd_base, behind_base, trivial⟩) rfl (g := 12) (fn := Try.f12)
    (args' := [.row n 3 (rowF .i64 (ivf f_l)), .int .i64 a, .int .i64 ch]) (fn_12) rfl 1000 (by
    simp only [BdL, Bd, and_self, and_true, true_and]
    exact (fun i j hi hj => by rw [i_l i j hi hj]; trivial)) ⟨SameD.int i_l, SameD.rfl' _, SameD.rfl' _, trivial⟩ ?_
  generalize ivf f_l = l at *
  simp only [rowF_eq]
  simp only [allTk_eq, isCrowd_eq, behind_eq, p12_19, Try.f12, go_sem, ↓reduceIte, Nat.reduceAdd, Nat.reduceSub, Nat.reduceMul, Nat.reduceEqDiff, Nat.reduceLT, Nat.reduceLeDiff, Int.reduceToNat, Int.reduceLE, Int.reduceLT, Int.reduceEq, Int.reduceNeg, reduceCtorEq]
  have bad : ∀ e, chpE n l a ch = e → e ≠ 0 → ((0 = chpN n l a ch ∧ ∀ (i j : Nat), i < chpN n l a ch → j < 1 → False) ∧ SV.int .i64 0 = .int .i64 (chpP n l a ch) ∧ SV.int .i64 e = .int .i64 (chpE n l a ch)) := fun e he h0 => by
    have h1 : chpN n l a ch = 0 := by simp [chpN, he, h0]
    have h2 : chpP n l a ch = 0 := by simp [chpP, he, h0]
    rw [h1, h2, he]
    exact ⟨⟨rfl, fun i j hi => by omega⟩, rfl, rfl⟩
  have hcv : (decide ((n : Int) ≤ 6) && allU (tkBl l) n) = chpV n l a ch := by
    have : ((n : Int) ≤ 6) ↔ n ≤ 6 := by omega
    simp only [chpV, this]
  rw [hcv]
  refine ⟨pre, fun c1 => bad 1 ?_ (by decide), fun c1 => ⟨fun c2 => bad 2 ?_ (by decide), fun c2 => ⟨fun c3 => bad 2 ?_ (by decide), fun c3 => ?_⟩⟩⟩
  · simp [chpE, show chpV n l a ch = false by simpa using c1]
  · have : chpV n l a ch = true := by simpa using c1
    simp only [Bool.not_eq_true'] at c2
    simp [chpE, this, c2]
  · have : chpV n l a ch = true := by simpa using c1
    simp only [Bool.not_eq_true'] at c3
    simp [chpE, this, c3]
  have hv : chpV n l a ch = true := by simpa using c1
  simp only [Bool.not_eq_false'] at c2 c3
  have hE : chpE n l a ch = if (best l n n a (a + ch)).is then 0 else 4 := by simp [chpE, hv, c2, c3]
  have h6 : n ≤ 6 := by simp [chpV] at hv; omega
  have hl : ∀ i, i < n → tkB (l i) = true := by simp only [chpV, Bool.and_eq_true] at hv; exact allU_iff.1 hv.2
  have ha := in3_iff.1 c2
  have hc := in3_iff.1 c3
  have hw : IntKind.i64.wrap (a + ch) = a + ch := wrap_id (by omega) (by omega)
  rw [hw]
  unfold callS
  refine calls_mono ?_ (best_frame [.live 76 [.int .i64 0, .int .i64 a, .int .i64 (a + ch)]] [.live 0 3 1 0 fun _ _ => .any] (best_calls hl (by omega) n 0 a (a + ch) [] (by omega) (by omega) (by omega) (fun i a p v _ h => by simp [findM] at h)))
  rintro o h' ⟨es, hes, rfl, rfl⟩
  have hbd := best_ok hl n a (a + ch) (by omega) (by omega) (by omega)
  have hP : ∀ i, (best l n (n - i) (wkA l n a (a + ch) i).1 (wkA l n a (a + ch) i).2).own = chA l n a (a + ch) i := fun i => rfl
  generalize hB : best l n n a (a + ch) = B at hE hbd ⊢
  simp only [ansS, bestH, catB, mpS, allTk_eq, isCrowd_eq, behind_eq, p12_19, Try.f12, go_sem, ↓reduceIte, Nat.reduceAdd, Nat.reduceSub, Nat.reduceMul, Nat.reduceEqDiff, Nat.reduceLT, Nat.reduceLeDiff, Int.reduceToNat, Int.reduceLE, Int.reduceLT, Int.reduceEq, Int.reduceNeg, reduceCtorEq]
  refine ⟨fun c4 => bad 4 (by rw [hE]; simp [show B.is = false by simpa using c4]) (by decide), fun c4 => ?_⟩
  have hE0 : chpE n l a ch = 0 := by rw [hE]; simp [show B.is = true by simpa using c4]
  have hN : chpN n l a ch = n := by simp [chpN, hE0]
  have hwk := wkA_bd hl (a := a) (p := a + ch) (by omega) (by omega)
  have hw0 : wkA l n a (a + ch) 0 = (a, a + ch) := rfl
  refine loop_of { x : Nat × List (List Int × List Int) // x.1 ≤ n ∧ Known l n x.2 } (fun x => [(44, .int .i64 (x.1.1 : Int)), (43, .int .i64 (n : Int)), (13, .ptr 6 0), (12, .ptr 5 0), (11, .ptr 4 0), (10, .ptr 3 0), (6, .vec 0 x.1.1)])
    (fun x => ⟨[.live 22 [.row n 3 fun i j => .int .i64 (l i j)], .mp (mpS x.1.2), .live 74 [.mapp 1], .live 77 [.func 36 [.ptr 0 0]], .live 78 [.func 37 [.ptr 0 0, .ptr 2 0, .ptr 4 0, .ptr 3 0]], .live 76 [.int .i64 (x.1.1 : Int), .int .i64 (wkA l n a (a + ch) x.1.1).1, .int .i64 (wkA l n a (a + ch) x.1.1).2], .live 80 [.bool B.is, .int .i64 B.own, .int .i64 B.price, .int .i64 B.num]], [.live x.1.1 3 1 x.1.1 fun i _ => .int .i64 (chA l n a (a + ch) i)]⟩)
    (fun x => n - x.1.1) (fun _ => ⟨rfl, rfl⟩) ⟨(0, es), by omega, hes⟩ (by simp only [hw0, mpS]; (apply sub_of <;> simp only [go_sem, ↓reduceIte, Nat.reduceAdd, Nat.reduceSub, Nat.reduceMul, Nat.reduceEqDiff, Nat.reduceLT, Nat.reduceLeDiff, Int.reduceToNat, Int.reduceLE, Int.reduceLT, Int.reduceEq, Int.reduceNeg, reduceCtorEq] <;> (try simp [catF]) <;> (try exact fun j _ => Bd_nth (by simp [BdL, Bd]) j) <;> (try exact bd_setL (by simp [bdAs, BdL, Bd])) <;> (try exact nestF_bd _ _ _ _ _ _ _ _ _))) ?_
  rintro ⟨⟨q, es⟩, hq, hes⟩
  simp only [mpS, allTk_eq, isCrowd_eq, behind_eq, p12_19, Try.f12, go_sem, ↓reduceIte, Nat.reduceAdd, Nat.reduceSub, Nat.reduceMul, Nat.reduceEqDiff, Nat.reduceLT, Nat.reduceLeDiff, Int.reduceToNat, Int.reduceLE, Int.reduceLT, Int.reduceEq, Int.reduceNeg, reduceCtorEq]
  refine ⟨fun e1 => ?_, fun e1 => ?_⟩
  · simp only [decide_eq_true_eq] at e1
    have hqn : q < n := by omega
    obtain ⟨k1, k2⟩ := hwk q (by omega)
    have hP0 := hP q
    have hws : wkA l n a (a + ch) (q + 1) = (max 0 ((wkA l n a (a + ch) q).1 - chA l n a (a + ch) q * l q 0), max 0 ((wkA l n a (a + ch) q).2 - chA l n a (a + ch) q * (l q 0 + l q 1))) := rfl
    have hw3 : IntKind.i64.wrap ((q : Int) + 1) = ((q + 1 : Nat) : Int) := by rw [wrap_id (by omega) (by omega)]; omega
    have hi1 : ((q : Int) + 1) = ((q + 1 : Nat) : Int) := by omega
    unfold callS
    refine calls_mono ?_ (best_frame [.live 76 [.int .i64 (q : Int), .int .i64 (wkA l n a (a + ch) q).1, .int .i64 (wkA l n a (a + ch) q).2], .live 80 [.bool B.is, .int .i64 B.own, .int .i64 B.price, .int .i64 B.num]] [.live q 3 1 q fun i _ => .int .i64 (chA l n a (a + ch) i)] (best_calls hl (by omega) (n - q) q _ _ es (by omega) k1 k2 hes))
    rintro o h' ⟨es', hes', rfl, rfl⟩
    have hbq := (best_ok hl (n - q) _ _ (by omega) k1 k2).1
    rw [hP0] at hbq
    simp only [ansS, bestH, catB, mpS, allTk_eq, isCrowd_eq, behind_eq, p12_19, Try.f12, go_sem, ↓reduceIte, Nat.reduceAdd, Nat.reduceSub, Nat.reduceMul, Nat.reduceEqDiff, Nat.reduceLT, Nat.reduceLeDiff, Int.reduceToNat, Int.reduceLE, Int.reduceLT, Int.reduceEq, Int.reduceNeg, reduceCtorEq]
    rw [hP0]
    generalize hC : chA l n a (a + ch) q = C at hP0 hbq hws ⊢
    refine ⟨by omega, ⟨by omega, by omega, by omega, by omega, by omega, by omega, hl q hqn⟩, ⟨(q + 1, es'), by omega, hes'⟩, by simp only []; omega, ?_⟩
    apply sub_of <;> simp only [hw3, hws, go_sem, ↓reduceIte, Nat.reduceAdd, Nat.reduceSub, Nat.reduceMul, Nat.reduceEqDiff, Nat.reduceLT, Nat.reduceLeDiff, Int.reduceToNat, Int.reduceLE, Int.reduceLT, Int.reduceEq, Int.reduceNeg, reduceCtorEq] <;> (try simp) <;> (try exact fun j _ => Bd_nth (by simp [BdL, Bd]) j) <;> (try exact bd_setL (by simp [bdAs, BdL, Bd])) <;> (try exact nestF_bd _ _ _ _ _ _ _ _ _)
    exact fun i hi => cat1 hC i 0 hi (by omega)
  · simp only [decide_eq_false_iff_not] at e1
    obtain rfl : q = n := by omega
    refine ⟨⟨by kernel_rfl, by kernel_rfl⟩, ⟨hN.symm, fun _ _ _ _ => trivial⟩, by simp [chpP, hE0, hB], by rw [hE0]⟩
end Go.Eng
end
