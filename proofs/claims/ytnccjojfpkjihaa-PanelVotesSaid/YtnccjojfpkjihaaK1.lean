/-
  A part of the symbolic machine, of its soundness, and of what functions compute. No condition.
-/
import Derived.Test.YtnccjojfpkjihaaA1
set_option linter.unusedSimpArgs false
set_option linter.unusedVariables false
/- Plans. -/
section
namespace Go.Eng
def p6_9 : Plan := .quiet 0 (.quiet 1 (.quiet 2 (.quiet 3 (.quiet 4 (.quiet 5 (.quiet 6 (.quiet 7 (.quiet 8 (.quiet 9 (.done))))))))))
def p6_16 : Plan := .quiet 1 (.quiet 2 (.quiet 4 (.both (.loud 0 [1, 2, 4] (.both (.loud 3 [4] (.loud 5 [] (.loud 6 [] (.quiet 7 (.loud 8 [] (.done)))))) (.loud 5 [1, 2] (.loud 3 [] (.loud 6 [] (.quiet 7 (.loud 8 [] (.done)))))))) (.loud 5 [1, 2] (.loud 0 [1, 2] (.loud 3 [] (.loud 6 [] (.quiet 7 (.loud 8 [] (.done))))))))))
def p6_24 : Plan := .quiet 1 (.quiet 2 (.quiet 3 (.quiet 4 (.quiet 6 (.quiet 7 (.quiet 8 (.quiet 9 (.quiet 10 (.loud 0 [1, 2, 4, 6, 7, 10] (.loud 5 [6, 7, 10] (.loud 11 [] (.quiet 12 (.loud 13 [] (.done))))))))))))))
def p7_19 : Plan := .quiet 0 (.quiet 1 (.quiet 2 (.quiet 3 (.quiet 4 (.quiet 5 (.quiet 6 (.loud 7 [0, 1] (.loud 8 [] (.quiet 9 (.loud 10 [] (.done)))))))))))
def p7_20 : Plan := .quiet 0 (.quiet 1 (.quiet 2 (.quiet 3 (.quiet 4 (.quiet 5 (.quiet 6 (.loud 7 [0, 1] (.loud 8 [] (.quiet 9 (.loud 10 [] (.done)))))))))))
def p8_38 : Plan := .quiet 0 (.quiet 1 (.quiet 2 (.quiet 3 (.quiet 4 (.quiet 5 (.quiet 6 (.quiet 7 (.quiet 8 (.quiet 9 (.quiet 10 (.quiet 11 (.quiet 12 (.quiet 13 (.quiet 14 (.quiet 15 (.quiet 16 (.done)))))))))))))))))
def p18_6 : Plan := .quiet 0 (.quiet 1 (.quiet 2 (.quiet 3 (.quiet 4 (.quiet 5 (.quiet 6 (.quiet 7 (.quiet 8 (.quiet 9 (.done))))))))))
def p22_17 : Plan := .quiet 0 (.quiet 1 (.quiet 2 (.quiet 3 (.quiet 4 (.quiet 5 (.quiet 6 (.quiet 7 (.quiet 8 (.quiet 9 (.quiet 10 (.quiet 11 (.quiet 12 (.done)))))))))))))
def p23_18 : Plan := .quiet 0 (.quiet 1 (.quiet 2 (.quiet 3 (.quiet 4 (.quiet 5 (.quiet 6 (.quiet 7 (.done))))))))
def p23_20 : Plan := .quiet 0 (.quiet 1 (.quiet 2 (.quiet 3 (.quiet 4 (.quiet 5 (.quiet 6 (.quiet 7 (.quiet 8 (.quiet 9 (.quiet 10 (.quiet 11 (.quiet 12 (.done)))))))))))))
def p24_6 : Plan := .quiet 0 (.quiet 1 (.quiet 2 (.quiet 3 (.quiet 4 (.quiet 5 (.quiet 6 (.quiet 7 (.quiet 8 (.done)))))))))
def p26_12 : Plan := .quiet 0 (.quiet 1 (.quiet 2 (.quiet 3 (.quiet 4 (.quiet 5 (.quiet 6 (.quiet 7 (.loud 8 [0, 1, 4, 5, 6, 7] (.loud 9 [] (.done))))))))))
def p26_13 : Plan := .quiet 0 (.quiet 1 (.quiet 2 (.quiet 3 (.quiet 4 (.quiet 5 (.quiet 6 (.quiet 7 (.quiet 8 (.quiet 9 (.quiet 10 (.quiet 11 (.quiet 12 (.quiet 13 (.quiet 14 (.quiet 15 (.quiet 16 (.quiet 17 (.quiet 18 (.quiet 19 (.quiet 20 (.quiet 21 (.quiet 22 (.quiet 23 (.quiet 24 (.quiet 25 (.quiet 26 (.quiet 27 (.quiet 28 (.quiet 29 (.quiet 30 (.quiet 31 (.quiet 32 (.quiet 33 (.quiet 34 (.quiet 35 (.quiet 36 (.quiet 37 (.done))))))))))))))))))))))))))))))))))))))
def p26_18 : Plan := .quiet 0 (.quiet 1 (.quiet 2 (.quiet 3 (.quiet 4 (.quiet 5 (.quiet 6 (.quiet 7 (.quiet 8 (.quiet 9 (.quiet 10 (.quiet 11 (.done))))))))))))
def p26_23 : Plan := .quiet 0 (.quiet 1 (.quiet 2 (.quiet 3 (.quiet 4 (.quiet 5 (.quiet 6 (.quiet 7 (.quiet 8 (.quiet 9 (.quiet 10 (.quiet 11 (.done))))))))))))
def p27_7 : Plan := .quiet 0 (.quiet 1 (.quiet 2 (.quiet 3 (.quiet 4 (.quiet 5 (.quiet 6 (.quiet 7 (.quiet 8 (.quiet 9 (.quiet 10 (.quiet 11 (.quiet 12 (.quiet 13 (.quiet 14 (.done)))))))))))))))
def p27_8 : Plan := .quiet 0 (.quiet 1 (.quiet 2 (.quiet 3 (.quiet 4 (.quiet 5 (.quiet 6 (.quiet 7 (.quiet 8 (.quiet 9 (.quiet 10 (.quiet 11 (.quiet 12 (.quiet 13 (.quiet 14 (.quiet 15 (.done))))))))))))))))
def p29_6 : Plan := .quiet 0 (.quiet 1 (.quiet 2 (.quiet 3 (.quiet 4 (.quiet 5 (.quiet 6 (.quiet 7 (.quiet 8 (.quiet 9 (.done))))))))))
def p30_7 : Plan := .quiet 0 (.quiet 1 (.quiet 2 (.quiet 3 (.quiet 4 (.quiet 5 (.quiet 6 (.quiet 7 (.quiet 8 (.quiet 9 (.quiet 10 (.quiet 11 (.quiet 12 (.quiet 13 (.quiet 14 (.done)))))))))))))))
def p36_4 : Plan := .quiet 0 (.quiet 1 (.quiet 2 (.quiet 3 (.quiet 4 (.quiet 5 (.quiet 6 (.quiet 7 (.quiet 8 (.quiet 9 (.done))))))))))
def p36_11 : Plan := .quiet 0 (.quiet 1 (.quiet 2 (.quiet 3 (.quiet 4 (.loud 5 [0, 4] (.quiet 6 (.quiet 7 (.loud 8 [] (.done)))))))))
def p38_5 : Plan := .quiet 0 (.quiet 1 (.quiet 2 (.quiet 3 (.quiet 4 (.quiet 5 (.quiet 6 (.quiet 7 (.quiet 8 (.quiet 9 (.done))))))))))
def p38_27 : Plan := .quiet 0 (.quiet 1 (.quiet 2 (.quiet 3 (.quiet 4 (.quiet 5 (.quiet 6 (.quiet 7 (.quiet 8 (.quiet 9 (.quiet 10 (.quiet 11 (.quiet 12 (.quiet 13 (.quiet 14 (.quiet 15 (.quiet 16 (.quiet 17 (.done))))))))))))))))))
def p39_3 : Plan := .quiet 0 (.quiet 1 (.quiet 2 (.quiet 3 (.quiet 4 (.quiet 5 (.quiet 6 (.quiet 7 (.quiet 8 (.quiet 9 (.loud 10 [] (.done)))))))))))
def p40_3 : Plan := .quiet 0 (.quiet 1 (.quiet 2 (.quiet 3 (.quiet 4 (.quiet 5 (.quiet 6 (.quiet 7 (.quiet 8 (.quiet 9 (.quiet 10 (.quiet 11 (.done))))))))))))
def p40_7 : Plan := .quiet 1 (.quiet 3 (.quiet 4 (.quiet 5 (.quiet 6 (.both (.loud 0 [5, 6] (.both (.loud 2 [5, 6] (.loud 7 [] (.loud 8 [] (.quiet 9 (.done))))) (.loud 7 [] (.loud 2 [] (.loud 8 [] (.quiet 9 (.done))))))) (.loud 7 [] (.loud 0 [] (.loud 2 [] (.loud 8 [] (.quiet 9 (.done)))))))))))
def p46_7 : Plan := .quiet 0 (.quiet 1 (.quiet 2 (.quiet 3 (.quiet 4 (.quiet 5 (.quiet 6 (.quiet 7 (.quiet 8 (.quiet 9 (.quiet 10 (.quiet 11 (.quiet 12 (.done)))))))))))))
def p47_1 : Plan := .quiet 0 (.quiet 1 (.quiet 2 (.quiet 3 (.quiet 4 (.quiet 5 (.quiet 6 (.quiet 7 (.quiet 8 (.loud 9 [2, 3, 4, 5, 7, 8] (.quiet 10 (.loud 11 [] (.done))))))))))))
def p47_5 : Plan := .quiet 0 (.quiet 1 (.quiet 2 (.quiet 3 (.quiet 4 (.quiet 5 (.quiet 6 (.quiet 7 (.quiet 8 (.quiet 9 (.done))))))))))
def p47_12 : Plan := .quiet 0 (.quiet 1 (.quiet 2 (.quiet 3 (.quiet 4 (.quiet 5 (.quiet 6 (.quiet 7 (.quiet 8 (.quiet 9 (.quiet 10 (.done)))))))))))
def p47_20 : Plan := .quiet 0 (.quiet 1 (.quiet 2 (.quiet 3 (.quiet 4 (.quiet 5 (.quiet 6 (.quiet 7 (.quiet 8 (.quiet 9 (.quiet 10 (.quiet 11 (.quiet 12 (.quiet 13 (.quiet 14 (.quiet 15 (.quiet 16 (.quiet 17 (.quiet 18 (.done)))))))))))))))))))
def p47_25 : Plan := .quiet 0 (.quiet 1 (.quiet 2 (.quiet 3 (.quiet 4 (.quiet 5 (.quiet 6 (.quiet 7 (.quiet 8 (.quiet 9 (.quiet 10 (.quiet 11 (.quiet 12 (.quiet 13 (.quiet 14 (.quiet 15 (.quiet 16 (.quiet 17 (.done))))))))))))))))))
def p53_8 : Plan := .quiet 0 (.quiet 1 (.quiet 2 (.quiet 3 (.quiet 4 (.quiet 5 (.quiet 6 (.quiet 7 (.quiet 8 (.done)))))))))
def p60_14 : Plan := .quiet 0 (.quiet 1 (.quiet 2 (.quiet 3 (.quiet 4 (.quiet 5 (.quiet 6 (.quiet 7 (.quiet 8 (.quiet 9 (.quiet 10 (.quiet 11 (.quiet 12 (.quiet 13 (.quiet 14 (.done)))))))))))))))
def p60_21 : Plan := .quiet 0 (.quiet 1 (.quiet 2 (.quiet 3 (.quiet 4 (.quiet 5 (.quiet 6 (.quiet 7 (.loud 8 [] (.quiet 9 (.done))))))))))
def p61_11 : Plan := .quiet 0 (.quiet 1 (.quiet 2 (.quiet 3 (.quiet 4 (.quiet 5 (.quiet 6 (.quiet 7 (.quiet 8 (.quiet 9 (.quiet 10 (.done)))))))))))
def p61_20 : Plan := .quiet 0 (.quiet 1 (.quiet 2 (.quiet 3 (.quiet 4 (.quiet 5 (.quiet 6 (.loud 7 [] (.quiet 8 (.done)))))))))
def p68_2 : Plan := .quiet 0 (.quiet 1 (.quiet 2 (.quiet 3 (.quiet 4 (.done)))))
def p73_4 : Plan := .quiet 0 (.quiet 1 (.quiet 2 (.quiet 3 (.quiet 4 (.quiet 5 (.quiet 6 (.quiet 7 (.done))))))))
def p77_0 : Plan := .quiet 0 (.quiet 1 (.quiet 2 (.quiet 3 (.quiet 4 (.quiet 5 (.quiet 6 (.quiet 7 (.quiet 8 (.quiet 9 (.quiet 10 (.quiet 11 (.quiet 12 (.quiet 13 (.quiet 14 (.loud 15 [] (.quiet 16 (.quiet 17 (.loud 18 [] (.done)))))))))))))))))))
def p80_2 : Plan := .quiet 0 (.quiet 1 (.quiet 2 (.quiet 3 (.quiet 4 (.quiet 5 (.done))))))
def p86_1 : Plan := .quiet 0 (.quiet 1 (.quiet 2 (.quiet 3 (.quiet 4 (.quiet 5 (.done))))))
def p86_3 : Plan := .quiet 0 (.quiet 1 (.quiet 2 (.quiet 3 (.quiet 4 (.quiet 5 (.done))))))
def p86_5 : Plan := .quiet 0 (.quiet 1 (.quiet 2 (.quiet 3 (.quiet 4 (.quiet 5 (.quiet 6 (.quiet 7 (.quiet 8 (.loud 9 [] (.done))))))))))
end Go.Eng
end

/- panel: small functions. -/
section
namespace Go.Eng
open Go Go.RowKit Go.Proofs
set_option maxRecDepth 100000
set_option maxHeartbeats 4000000
attribute [local irreducible] OwnT DefS
def in3 (n lo hi : Int) : Bool := decide (lo ≤ n) && decide (n ≤ hi)
theorem in3_iff {n lo hi : Int} : in3 n lo hi = true ↔ lo ≤ n ∧ n ≤ hi := by simp [in3]
theorem wrap_id {x : Int} (h1 : -9223372036854775808 ≤ x) (h2 : x ≤ 9223372036854775807) : IntKind.i64.wrap x = x := by
  simp [IntKind.wrap, IntKind.signed, IntKind.bits]
  omega
theorem wrap_s {i n : Nat} (h : i < n) (hn : n ≤ 1000000) : IntKind.i64.wrap ((i : Int) + 1) = ((i + 1 : Nat) : Int) := by rw [wrap_id (by omega) (by omega)]; omega
def allU (p : Nat → Bool) : Nat → Bool
  | 0 => true
  | n + 1 => allU p n && p n
theorem allU_iff {p : Nat → Bool} : ∀ {n : Nat}, allU p n = true ↔ ∀ i, i < n → p i = true
  | 0 => ⟨fun _ i h => absurd h (by omega), fun _ => rfl⟩
  | n + 1 => by
    simp only [allU, Bool.and_eq_true, allU_iff (n := n)]
    constructor
    · rintro ⟨h1, h2⟩ i hi
      rcases Nat.lt_or_ge i n with h | h
      · exact h1 i h
      · obtain rfl : i = n := by omega
        exact h2
    · intro h
      exact ⟨fun i hi => h i (by omega), h n (by omega)⟩
theorem allU_false {p : Nat → Bool} {n i : Nat} (hi : i < n) (h : p i = false) : allU p n = false := by
  cases hc : allU p n with
  | false => rfl
  | true => have := allU_iff.1 hc i hi; rw [h] at this; cases this
theorem allU_true {p : Nat → Bool} {n : Nat} (h : ∀ j, j < n → p j = true) : allU p n = true := allU_iff.2 h
theorem below {p : Nat → Bool} {i : Nat} (h : ∀ j, j < i → p j = true) (hi : p i = true) : ∀ j, j < i + 1 → p j = true := fun j hj => by
  rcases Nat.lt_or_ge j i with h2 | h2
  · exact h j h2
  · obtain rfl : j = i := by omega
    exact hi
def withinBase : BaseF := fun args => match args with
  | [.int .i64 n, .int .i64 lo, .int .i64 hi] => some (True, .bool (in3 n lo hi))
  | _ => none
theorem within_eq (n : Int) (lo : Int) (hi : Int) : withinBase [.int .i64 n, .int .i64 lo, .int .i64 hi] = some (True, .bool (in3 n lo hi)) := rfl
theorem within_base : Base Try.prog 44 withinBase := by
  intro args p v hq hp
  unfold withinBase at hq
  split at hq
  rotate_left
  · cases hq
  rename_i n lo hi
  cases hq
  refine base_of (C := cx [] [] [] [] none) (cx_ok trivial trivial) rfl (g := 44) (fn := Try.f44)
    (args' := [.int .i64 n, .int .i64 lo, .int .i64 hi]) (fn_44) rfl 1000 (by simp only [BdL, Bd, and_self, and_true, true_and]) ⟨SameD.rfl' _, SameD.rfl' _, SameD.rfl' _, trivial⟩ ?_
  simp only [Try.f44, go_sem, ↓reduceIte, Nat.reduceAdd, Nat.reduceSub, Nat.reduceMul, Nat.reduceEqDiff, Nat.reduceLT, Nat.reduceLeDiff, Int.reduceToNat, Int.reduceLE, Int.reduceLT, Int.reduceEq, Int.reduceNeg, reduceCtorEq]
  (repeat' refine And.intro (fun _ => ?_) (fun _ => ?_)) <;> simp_all [in3] <;> omega
def inBase : BaseF := fun args => match args with
  | [.int .i64 n, .int .i64 lo, .int .i64 hi] => some (True, .bool (in3 n lo hi))
  | _ => none
theorem in_eq (n : Int) (lo : Int) (hi : Int) : inBase [.int .i64 n, .int .i64 lo, .int .i64 hi] = some (True, .bool (in3 n lo hi)) := rfl
theorem in_base : Base Try.prog 51 inBase := by
  intro args p v hq hp
  unfold inBase at hq
  split at hq
  rotate_left
  · cases hq
  rename_i n lo hi
  cases hq
  refine base_of (C := cx [] [] [] [] none) (cx_ok trivial trivial) rfl (g := 51) (fn := Try.f51)
    (args' := [.int .i64 n, .int .i64 lo, .int .i64 hi]) (fn_51) rfl 1000 (by simp only [BdL, Bd, and_self, and_true, true_and]) ⟨SameD.rfl' _, SameD.rfl' _, SameD.rfl' _, trivial⟩ ?_
  simp only [Try.f51, go_sem, ↓reduceIte, Nat.reduceAdd, Nat.reduceSub, Nat.reduceMul, Nat.reduceEqDiff, Nat.reduceLT, Nat.reduceLeDiff, Int.reduceToNat, Int.reduceLE, Int.reduceLT, Int.reduceEq, Int.reduceNeg, reduceCtorEq]
  (repeat' refine And.intro (fun _ => ?_) (fun _ => ?_)) <;> simp_all [in3] <;> omega
def isCallBase : BaseF := fun args => match args with
  | [.int .i64 n] => some (True, .bool (in3 n 0 100))
  | _ => none
theorem isCall_eq (n : Int) : isCallBase [.int .i64 n] = some (True, .bool (in3 n 0 100)) := rfl
theorem isCall_base : Base Try.prog 48 isCallBase := by
  intro args p v hq hp
  unfold isCallBase at hq
  split at hq
  rotate_left
  · cases hq
  rename_i n
  cases hq
  refine base_of (C := cx [] [] [(44, withinBase)] [] none) (cx_ok trivial ⟨within_base, trivial⟩) rfl (g := 48) (fn := Try.f48)
    (args' := [.int .i64 n]) (fn_48) rfl 1000 (by simp only [BdL, Bd, and_self, and_true, true_and]) ⟨SameD.rfl' _, trivial⟩ ?_
  simp only [within_eq, Try.f48, go_sem, ↓reduceIte, Nat.reduceAdd, Nat.reduceSub, Nat.reduceMul, Nat.reduceEqDiff, Nat.reduceLT, Nat.reduceLeDiff, Int.reduceToNat, Int.reduceLE, Int.reduceLT, Int.reduceEq, Int.reduceNeg, reduceCtorEq]
/-- What a number of a list is at most. -/
def limG : Nat → Int
  | 75 => 10000
  | 81 => 255
  | _ => 100
def hasIntBase : BaseF := fun args => match args with
  | [.row n sz_v f_v, .func g []] => some ((sz_v = 1 ∧ IntR n 1 f_v) ∧ ((g = 54 ∨ g = 74 ∨ g = 75 ∨ g = 81) ∧ n ≤ 1000000), .bool (!allU (fun i => in3 ((ivf f_v) i 0) 0 (limG g)) n))
  | _ => none
theorem hasInt_eq (n : Nat) (sz_v : Nat) (f_v : Nat → Nat → SV) (g : Nat) : hasIntBase [.row n sz_v f_v, .func g []] = some ((sz_v = 1 ∧ IntR n 1 f_v) ∧ ((g = 54 ∨ g = 74 ∨ g = 75 ∨ g = 81) ∧ n ≤ 1000000), .bool (!allU (fun i => in3 ((ivf f_v) i 0) 0 (limG g)) n)) := rfl
theorem hasInt_base : Base Try.prog 42 hasIntBase := by
  intro args p v hq hp
  unfold hasIntBase at hq
  split at hq
  rotate_left
  · cases hq
  rename_i n sz_v f_v g
  cases hq
  obtain ⟨⟨rfl, i_v⟩, pre⟩ := hp
  refine base_of (C := cx [] [] [(44, withinBase), (48, isCallBase)] [] none) (cx_ok trivial ⟨within_base, isCall_base, trivial⟩) rfl (g := 42) (fn := Try.f42)
    (args' := [.row n 1 (rowF .i64 (ivf f_v)), .func g []]) (fn_42) rfl 1000 (by
    simp only [BdL, Bd, and_self, and_true, true_and]
    exact (fun i j hi hj => by rw [i_v i j hi hj]; trivial)) ⟨SameD.int i_v, SameD.rfl' _, trivial⟩ ?_
  generalize ivf f_v = v at *
  simp only [rowF_eq]
  simp only [within_eq, isCall_eq, Try.f54, Try.f74, Try.f75, Try.f81, Try.f71, Try.f42, go_sem, ↓reduceIte, Nat.reduceAdd, Nat.reduceSub, Nat.reduceMul, Nat.reduceEqDiff, Nat.reduceLT, Nat.reduceLeDiff, Int.reduceToNat, Int.reduceLE, Int.reduceLT, Int.reduceEq, Int.reduceNeg, reduceCtorEq]
  obtain ⟨hg, hn⟩ := pre
  refine loop_ofH { i : Nat // i ≤ n ∧ ∀ j, j < i → (fun i => in3 (v i 0) 0 (limG g)) j = true } (fun i => [(8, .int .i64 (i.1 : Int)), (7, .int .i64 (n : Int)), (1, .func g []), (0, .row n 1 fun i j => .int .i64 (v i j))]) (fun h _ => h) (fun i => n - i.1) (fun _ => ⟨rfl, rfl⟩) ⟨0, by omega, by omega⟩ (by (apply sub_of <;> simp only [go_sem, ↓reduceIte, Nat.reduceAdd, Nat.reduceSub, Nat.reduceMul, Nat.reduceEqDiff, Nat.reduceLT, Nat.reduceLeDiff, Int.reduceToNat, Int.reduceLE, Int.reduceLT, Int.reduceEq, Int.reduceNeg, reduceCtorEq] <;> (try simp [catF]) <;> (try exact fun j _ => Bd_nth (by simp [BdL, Bd]) j) <;> (try exact bd_setL (by simp [bdAs, BdL, Bd])) <;> (try exact nestF_bd _ _ _ _ _ _ _ _ _))) ?_
  rintro ⟨i, hi, h3⟩
  have h0 : (0 : Int) ≤ (i : Int) := by omega
  rcases hg with rfl | rfl | rfl | rfl
  all_goals simp only [within_eq, isCall_eq, Try.f54, Try.f74, Try.f75, Try.f81, Try.f71, Try.f42, go_sem, ↓reduceIte, Nat.reduceAdd, Nat.reduceSub, Nat.reduceMul, Nat.reduceEqDiff, Nat.reduceLT, Nat.reduceLeDiff, Int.reduceToNat, Int.reduceLE, Int.reduceLT, Int.reduceEq, Int.reduceNeg, reduceCtorEq]
  all_goals (
    refine ⟨fun e1 => ?_, fun e1 => ?_⟩
    · simp only [decide_eq_true_eq] at e1
      have ik : i < n := by omega
      refine ⟨⟨by omega, by omega⟩, fun e2 => ?_, fun e2 => ?_⟩
      · simp only [limG]; rw [allU_false (p := fun i => in3 (v i 0) 0 _) ik (by simpa using e2)]; simp [h0]
      refine ⟨⟨i + 1, by omega, below h3 (by simpa [limG] using e2)⟩, by simp only []; omega, ?_⟩
      apply sub_of <;> simp only [wrap_s ik hn, go_sem, ↓reduceIte, Nat.reduceAdd, Nat.reduceSub, Nat.reduceMul, Nat.reduceEqDiff, Nat.reduceLT, Nat.reduceLeDiff, Int.reduceToNat, Int.reduceLE, Int.reduceLT, Int.reduceEq, Int.reduceNeg, reduceCtorEq] <;> (try simp) <;> (try exact fun j _ => Bd_nth (by simp [BdL, Bd]) j) <;> (try exact bd_setL (by simp [bdAs, BdL, Bd])) <;> (try exact nestF_bd _ _ _ _ _ _ _ _ _)
    · simp only [decide_eq_false_iff_not] at e1
      obtain rfl : i = n := by omega
      simp only [limG] at h3 ⊢; rw [allU_true h3]; rfl)
def areClubsBase : BaseF := fun args => match args with
  | [.row n sz_v f_v] => some ((sz_v = 1 ∧ IntR n 1 f_v) ∧ (n ≤ 1000000), .bool (allU (fun i => in3 ((ivf f_v) i 0) 0 255) n))
  | _ => none
theorem areClubs_eq (n : Nat) (sz_v : Nat) (f_v : Nat → Nat → SV) : areClubsBase [.row n sz_v f_v] = some ((sz_v = 1 ∧ IntR n 1 f_v) ∧ (n ≤ 1000000), .bool (allU (fun i => in3 ((ivf f_v) i 0) 0 255) n)) := rfl
theorem areClubs_base : Base Try.prog 64 areClubsBase := by
  intro args p v hq hp
  unfold areClubsBase at hq
  split at hq
  rotate_left
  · cases hq
  rename_i n sz_v f_v
  cases hq
  obtain ⟨⟨rfl, i_v⟩, pre⟩ := hp
  refine base_of (C := cx [] [] [(42, hasIntBase)] [] none) (cx_ok trivial ⟨hasInt_base, trivial⟩) rfl (g := 64) (fn := Try.f64)
    (args' := [.row n 1 (rowF .i64 (ivf f_v))]) (fn_64) rfl 1000 (by
    simp only [BdL, Bd, and_self, and_true, true_and]
    exact (fun i j hi hj => by rw [i_v i j hi hj]; trivial)) ⟨SameD.int i_v, trivial⟩ ?_
  generalize ivf f_v = v at *
  simp only [rowF_eq]
  simp only [hasInt_eq, Try.f64, go_sem, ↓reduceIte, Nat.reduceAdd, Nat.reduceSub, Nat.reduceMul, Nat.reduceEqDiff, Nat.reduceLT, Nat.reduceLeDiff, Int.reduceToNat, Int.reduceLE, Int.reduceLT, Int.reduceEq, Int.reduceNeg, reduceCtorEq]
  exact ⟨⟨by simp, pre⟩, by simp [limG]⟩
def areVotesBase : BaseF := fun args => match args with
  | [.row n sz_v f_v] => some ((sz_v = 1 ∧ IntR n 1 f_v) ∧ (n ≤ 1000000), .bool (in3 (n : Int) 1 9 && allU (fun i => in3 ((ivf f_v) i 0) 0 100) n))
  | _ => none
theorem areVotes_eq (n : Nat) (sz_v : Nat) (f_v : Nat → Nat → SV) : areVotesBase [.row n sz_v f_v] = some ((sz_v = 1 ∧ IntR n 1 f_v) ∧ (n ≤ 1000000), .bool (in3 (n : Int) 1 9 && allU (fun i => in3 ((ivf f_v) i 0) 0 100) n)) := rfl
theorem areVotes_base : Base Try.prog 49 areVotesBase := by
  intro args p v hq hp
  unfold areVotesBase at hq
  split at hq
  rotate_left
  · cases hq
  rename_i n sz_v f_v
  cases hq
  obtain ⟨⟨rfl, i_v⟩, pre⟩ := hp
  refine base_of (C := cx [] [] [(42, hasIntBase), (44, withinBase)] [] none) (cx_ok trivial ⟨hasInt_base, within_base, trivial⟩) rfl (g := 49) (fn := Try.f49)
    (args' := [.row n 1 (rowF .i64 (ivf f_v))]) (fn_49) rfl 1000 (by
    simp only [BdL, Bd, and_self, and_true, true_and]
    exact (fun i j hi hj => by rw [i_v i j hi hj]; trivial)) ⟨SameD.int i_v, trivial⟩ ?_
  generalize ivf f_v = v at *
  simp only [rowF_eq]
  simp only [hasInt_eq, within_eq, Try.f49, go_sem, ↓reduceIte, Nat.reduceAdd, Nat.reduceSub, Nat.reduceMul, Nat.reduceEqDiff, Nat.reduceLT, Nat.reduceLeDiff, Int.reduceToNat, Int.reduceLE, Int.reduceLT, Int.reduceEq, Int.reduceNeg, reduceCtorEq]
  exact ⟨fun a1 => ⟨⟨by simp, pre⟩, by simp [a1, limG]⟩, fun a1 => by simp [a1]⟩
def votesRBase : BaseF := fun args => match args with
  | [.row n sz_v f_v] => some ((sz_v = 1 ∧ IntR n 1 f_v) ∧ (n ≤ 1000000), .bool (in3 (n : Int) 1 9 && allU (fun i => in3 ((ivf f_v) i 0) 0 100) n))
  | _ => none
theorem votesR_eq (n : Nat) (sz_v : Nat) (f_v : Nat → Nat → SV) : votesRBase [.row n sz_v f_v] = some ((sz_v = 1 ∧ IntR n 1 f_v) ∧ (n ≤ 1000000), .bool (in3 (n : Int) 1 9 && allU (fun i => in3 ((ivf f_v) i 0) 0 100) n)) := rfl
theorem votesR_base : Base Try.prog 52 votesRBase := by
  intro args p v hq hp
  unfold votesRBase at hq
  split at hq
  rotate_left
  · cases hq
  rename_i n sz_v f_v
  cases hq
  obtain ⟨⟨rfl, i_v⟩, pre⟩ := hp
  refine base_of (C := cx [] [] [(51, inBase)] [] none) (cx_ok trivial ⟨in_base, trivial⟩) rfl (g := 52) (fn := Try.f52)
    (args' := [.row n 1 (rowF .i64 (ivf f_v))]) (fn_52) rfl 1000 (by
    simp only [BdL, Bd, and_self, and_true, true_and]
    exact (fun i j hi hj => by rw [i_v i j hi hj]; trivial)) ⟨SameD.int i_v, trivial⟩ ?_
  generalize ivf f_v = v at *
  simp only [rowF_eq]
  simp only [in_eq, Try.f52, go_sem, ↓reduceIte, Nat.reduceAdd, Nat.reduceSub, Nat.reduceMul, Nat.reduceEqDiff, Nat.reduceLT, Nat.reduceLeDiff, Int.reduceToNat, Int.reduceLE, Int.reduceLT, Int.reduceEq, Int.reduceNeg, reduceCtorEq]
  refine loop_ofH { i : Nat // i ≤ n ∧ ∀ j, j < i → (fun i => in3 (v i 0) 0 100) j = true } (fun i => [(3, .int .i64 (i.1 : Int)), (0, .row n 1 fun i j => .int .i64 (v i j))]) (fun h _ => h) (fun i => n - i.1) (fun _ => ⟨rfl, rfl⟩) ⟨0, by omega, by omega⟩ (by (apply sub_of <;> simp only [go_sem, ↓reduceIte, Nat.reduceAdd, Nat.reduceSub, Nat.reduceMul, Nat.reduceEqDiff, Nat.reduceLT, Nat.reduceLeDiff, Int.reduceToNat, Int.reduceLE, Int.reduceLT, Int.reduceEq, Int.reduceNeg, reduceCtorEq] <;> (try simp [catF]) <;> (try exact fun j _ => Bd_nth (by simp [BdL, Bd]) j) <;> (try exact bd_setL (by simp [bdAs, BdL, Bd])) <;> (try exact nestF_bd _ _ _ _ _ _ _ _ _))) ?_
  rintro ⟨i, hi, h3⟩
  simp only [in_eq, Try.f52, go_sem, ↓reduceIte, Nat.reduceAdd, Nat.reduceSub, Nat.reduceMul, Nat.reduceEqDiff, Nat.reduceLT, Nat.reduceLeDiff, Int.reduceToNat, Int.reduceLE, Int.reduceLT, Int.reduceEq, Int.reduceNeg, reduceCtorEq]
  refine ⟨fun e1 => ?_, fun e1 => ?_⟩
  · simp only [decide_eq_true_eq] at e1
    have ik : i < n := by omega
    refine ⟨⟨by omega, by omega⟩, fun e2 => ?_, fun e2 => ?_⟩
    · rw [allU_false (p := fun i => in3 (v i 0) 0 100) ik (by simpa using e2)]; simp
    refine ⟨⟨i + 1, by omega, below h3 (by simpa using e2)⟩, by simp only []; omega, ?_⟩
    apply sub_of <;> simp only [wrap_s ik pre, go_sem, ↓reduceIte, Nat.reduceAdd, Nat.reduceSub, Nat.reduceMul, Nat.reduceEqDiff, Nat.reduceLT, Nat.reduceLeDiff, Int.reduceToNat, Int.reduceLE, Int.reduceLT, Int.reduceEq, Int.reduceNeg, reduceCtorEq] <;> (try simp) <;> (try exact fun j _ => Bd_nth (by simp [BdL, Bd]) j) <;> (try exact bd_setL (by simp [bdAs, BdL, Bd])) <;> (try exact nestF_bd _ _ _ _ _ _ _ _ _)
  · simp only [decide_eq_false_iff_not] at e1
    obtain rfl : i = n := by omega
    rw [allU_true h3]; simp
def callsRBase : BaseF := fun args => match args with
  | [.row n sz_v f_v] => some ((sz_v = 1 ∧ IntR n 1 f_v) ∧ (n ≤ 1000000), .bool (decide (n ≤ 64) && allU (fun i => in3 ((ivf f_v) i 0) 0 100) n))
  | _ => none
theorem callsR_eq (n : Nat) (sz_v : Nat) (f_v : Nat → Nat → SV) : callsRBase [.row n sz_v f_v] = some ((sz_v = 1 ∧ IntR n 1 f_v) ∧ (n ≤ 1000000), .bool (decide (n ≤ 64) && allU (fun i => in3 ((ivf f_v) i 0) 0 100) n)) := rfl
theorem callsR_base : Base Try.prog 56 callsRBase := by
  intro args p v hq hp
  unfold callsRBase at hq
  split at hq
  rotate_left
  · cases hq
  rename_i n sz_v f_v
  cases hq
  obtain ⟨⟨rfl, i_v⟩, pre⟩ := hp
  refine base_of (C := cx [] [] [(51, inBase)] [] none) (cx_ok trivial ⟨in_base, trivial⟩) rfl (g := 56) (fn := Try.f56)
    (args' := [.row n 1 (rowF .i64 (ivf f_v))]) (fn_56) rfl 1000 (by
    simp only [BdL, Bd, and_self, and_true, true_and]
    exact (fun i j hi hj => by rw [i_v i j hi hj]; trivial)) ⟨SameD.int i_v, trivial⟩ ?_
  generalize ivf f_v = v at *
  simp only [rowF_eq]
  simp only [in_eq, Try.f56, go_sem, ↓reduceIte, Nat.reduceAdd, Nat.reduceSub, Nat.reduceMul, Nat.reduceEqDiff, Nat.reduceLT, Nat.reduceLeDiff, Int.reduceToNat, Int.reduceLE, Int.reduceLT, Int.reduceEq, Int.reduceNeg, reduceCtorEq]
  refine loop_ofH { i : Nat // i ≤ n ∧ ∀ j, j < i → (fun i => in3 (v i 0) 0 100) j = true } (fun i => [(3, .int .i64 (i.1 : Int)), (0, .row n 1 fun i j => .int .i64 (v i j))]) (fun h _ => h) (fun i => n - i.1) (fun _ => ⟨rfl, rfl⟩) ⟨0, by omega, by omega⟩ (by (apply sub_of <;> simp only [go_sem, ↓reduceIte, Nat.reduceAdd, Nat.reduceSub, Nat.reduceMul, Nat.reduceEqDiff, Nat.reduceLT, Nat.reduceLeDiff, Int.reduceToNat, Int.reduceLE, Int.reduceLT, Int.reduceEq, Int.reduceNeg, reduceCtorEq] <;> (try simp [catF]) <;> (try exact fun j _ => Bd_nth (by simp [BdL, Bd]) j) <;> (try exact bd_setL (by simp [bdAs, BdL, Bd])) <;> (try exact nestF_bd _ _ _ _ _ _ _ _ _))) ?_
  rintro ⟨i, hi, h3⟩
  simp only [in_eq, Try.f56, go_sem, ↓reduceIte, Nat.reduceAdd, Nat.reduceSub, Nat.reduceMul, Nat.reduceEqDiff, Nat.reduceLT, Nat.reduceLeDiff, Int.reduceToNat, Int.reduceLE, Int.reduceLT, Int.reduceEq, Int.reduceNeg, reduceCtorEq]
  refine ⟨fun e1 => ?_, fun e1 => ?_⟩
  · simp only [decide_eq_true_eq] at e1
    have ik : i < n := by omega
    refine ⟨⟨by omega, by omega⟩, fun e2 => ?_, fun e2 => ?_⟩
    · rw [allU_false (p := fun i => in3 (v i 0) 0 100) ik (by simpa using e2)]; simp
    refine ⟨⟨i + 1, by omega, below h3 (by simpa using e2)⟩, by simp only []; omega, ?_⟩
    apply sub_of <;> simp only [wrap_s ik pre, go_sem, ↓reduceIte, Nat.reduceAdd, Nat.reduceSub, Nat.reduceMul, Nat.reduceEqDiff, Nat.reduceLT, Nat.reduceLeDiff, Int.reduceToNat, Int.reduceLE, Int.reduceLT, Int.reduceEq, Int.reduceNeg, reduceCtorEq] <;> (try simp) <;> (try exact fun j _ => Bd_nth (by simp [BdL, Bd]) j) <;> (try exact bd_setL (by simp [bdAs, BdL, Bd])) <;> (try exact nestF_bd _ _ _ _ _ _ _ _ _)
  · simp only [decide_eq_false_iff_not] at e1
    obtain rfl : i = n := by omega
    rw [allU_true h3]; simp; omega
def clubRBase : BaseF := fun args => match args with
  | [.row n sz_v f_v] => some ((sz_v = 1 ∧ IntR n 1 f_v) ∧ (n ≤ 1000000), .bool (allU (fun i => in3 ((ivf f_v) i 0) 0 255) n))
  | _ => none
theorem clubR_eq (n : Nat) (sz_v : Nat) (f_v : Nat → Nat → SV) : clubRBase [.row n sz_v f_v] = some ((sz_v = 1 ∧ IntR n 1 f_v) ∧ (n ≤ 1000000), .bool (allU (fun i => in3 ((ivf f_v) i 0) 0 255) n)) := rfl
theorem clubR_base : Base Try.prog 57 clubRBase := by
  intro args p v hq hp
  unfold clubRBase at hq
  split at hq
  rotate_left
  · cases hq
  rename_i n sz_v f_v
  cases hq
  obtain ⟨⟨rfl, i_v⟩, pre⟩ := hp
  refine base_of (C := cx [] [] [(51, inBase)] [] none) (cx_ok trivial ⟨in_base, trivial⟩) rfl (g := 57) (fn := Try.f57)
    (args' := [.row n 1 (rowF .i64 (ivf f_v))]) (fn_57) rfl 1000 (by
    simp only [BdL, Bd, and_self, and_true, true_and]
    exact (fun i j hi hj => by rw [i_v i j hi hj]; trivial)) ⟨SameD.int i_v, trivial⟩ ?_
  generalize ivf f_v = v at *
  simp only [rowF_eq]
  simp only [in_eq, Try.f57, go_sem, ↓reduceIte, Nat.reduceAdd, Nat.reduceSub, Nat.reduceMul, Nat.reduceEqDiff, Nat.reduceLT, Nat.reduceLeDiff, Int.reduceToNat, Int.reduceLE, Int.reduceLT, Int.reduceEq, Int.reduceNeg, reduceCtorEq]
  refine loop_ofH { i : Nat // i ≤ n ∧ ∀ j, j < i → (fun i => in3 (v i 0) 0 255) j = true } (fun i => [(3, .int .i64 (i.1 : Int)), (0, .row n 1 fun i j => .int .i64 (v i j))]) (fun h _ => h) (fun i => n - i.1) (fun _ => ⟨rfl, rfl⟩) ⟨0, by omega, by omega⟩ (by (apply sub_of <;> simp only [go_sem, ↓reduceIte, Nat.reduceAdd, Nat.reduceSub, Nat.reduceMul, Nat.reduceEqDiff, Nat.reduceLT, Nat.reduceLeDiff, Int.reduceToNat, Int.reduceLE, Int.reduceLT, Int.reduceEq, Int.reduceNeg, reduceCtorEq] <;> (try simp [catF]) <;> (try exact fun j _ => Bd_nth (by simp [BdL, Bd]) j) <;> (try exact bd_setL (by simp [bdAs, BdL, Bd])) <;> (try exact nestF_bd _ _ _ _ _ _ _ _ _))) ?_
  rintro ⟨i, hi, h3⟩
  simp only [in_eq, Try.f57, go_sem, ↓reduceIte, Nat.reduceAdd, Nat.reduceSub, Nat.reduceMul, Nat.reduceEqDiff, Nat.reduceLT, Nat.reduceLeDiff, Int.reduceToNat, Int.reduceLE, Int.reduceLT, Int.reduceEq, Int.reduceNeg, reduceCtorEq]
  refine ⟨fun e1 => ?_, fun e1 => ?_⟩
  · simp only [decide_eq_true_eq] at e1
    have ik : i < n := by omega
    refine ⟨⟨by omega, by omega⟩, fun e2 => ?_, fun e2 => ?_⟩
    · rw [allU_false (p := fun i => in3 (v i 0) 0 255) ik (by simpa using e2)]
    refine ⟨⟨i + 1, by omega, below h3 (by simpa using e2)⟩, by simp only []; omega, ?_⟩
    apply sub_of <;> simp only [wrap_s ik pre, go_sem, ↓reduceIte, Nat.reduceAdd, Nat.reduceSub, Nat.reduceMul, Nat.reduceEqDiff, Nat.reduceLT, Nat.reduceLeDiff, Int.reduceToNat, Int.reduceLE, Int.reduceLT, Int.reduceEq, Int.reduceNeg, reduceCtorEq] <;> (try simp) <;> (try exact fun j _ => Bd_nth (by simp [BdL, Bd]) j) <;> (try exact bd_setL (by simp [bdAs, BdL, Bd])) <;> (try exact nestF_bd _ _ _ _ _ _ _ _ _)
  · simp only [decide_eq_false_iff_not] at e1
    obtain rfl : i = n := by omega
    rw [allU_true h3]
def intsBase : BaseF := fun args => match args with
  | [.row n sz_v f_v, .row m sz_u f_u] => some ((sz_v = 1 ∧ IntR n 1 f_v) ∧ (sz_u = 1 ∧ IntR m 1 f_u) ∧ (n ≤ 1000000 ∧ m ≤ 1000000), .bool (decide (n = m) && allU (fun i => decide ((ivf f_v) i 0 = (ivf f_u) i 0)) n))
  | _ => none
theorem ints_eq (n : Nat) (sz_v : Nat) (f_v : Nat → Nat → SV) (m : Nat) (sz_u : Nat) (f_u : Nat → Nat → SV) : intsBase [.row n sz_v f_v, .row m sz_u f_u] = some ((sz_v = 1 ∧ IntR n 1 f_v) ∧ (sz_u = 1 ∧ IntR m 1 f_u) ∧ (n ≤ 1000000 ∧ m ≤ 1000000), .bool (decide (n = m) && allU (fun i => decide ((ivf f_v) i 0 = (ivf f_u) i 0)) n)) := rfl
theorem ints_base : Base Try.prog 24 intsBase := by
  intro args p v hq hp
  unfold intsBase at hq
  split at hq
  rotate_left
  · cases hq
  rename_i n sz_v f_v m sz_u f_u
  cases hq
  obtain ⟨⟨rfl, i_v⟩, ⟨rfl, i_u⟩, pre⟩ := hp
  refine base_of (C := cx [] [] [] [(24, 6, p24_6)] none) (cx_ok trivial trivial) rfl (g := 24) (fn := Try.f24)
    (args' := [.row n 1 (rowF .i64 (ivf f_v)), .row m 1 (rowF .i64 (ivf f_u))]) (fn_24) rfl 1000 (by
    simp only [BdL, Bd, and_self, and_true, true_and]
    exact ⟨(fun i j hi hj => by rw [i_v i j hi hj]; trivial), (fun i j hi hj => by rw [i_u i j hi hj]; trivial)⟩) ⟨SameD.int i_v, SameD.int i_u, trivial⟩ ?_
  generalize ivf f_v = v at *
  generalize ivf f_u = u at *
  simp only [rowF_eq]
  simp only [p24_6, Try.f24, go_sem, ↓reduceIte, Nat.reduceAdd, Nat.reduceSub, Nat.reduceMul, Nat.reduceEqDiff, Nat.reduceLT, Nat.reduceLeDiff, Int.reduceToNat, Int.reduceLE, Int.reduceLT, Int.reduceEq, Int.reduceNeg, reduceCtorEq]
  obtain ⟨p1, p2⟩ := pre
  refine ⟨fun c1 => ?_, fun c1 => ?_⟩
  · simp only [Bool.not_eq_true', decide_eq_false_iff_not] at c1
    rw [decide_eq_false (by omega)]; rfl
  simp only [Bool.not_eq_false', decide_eq_true_eq] at c1
  obtain rfl : n = m := by omega
  refine loop_ofH { i : Nat // i ≤ n ∧ ∀ j, j < i → (fun i => decide (v i 0 = u i 0)) j = true } (fun i => [(5, .int .i64 (i.1 : Int)), (1, .row n 1 fun i j => .int .i64 (u i j)), (0, .row n 1 fun i j => .int .i64 (v i j))]) (fun h _ => h) (fun i => n - i.1) (fun _ => ⟨rfl, rfl⟩) ⟨0, by omega, by omega⟩ (by (apply sub_of <;> simp only [go_sem, ↓reduceIte, Nat.reduceAdd, Nat.reduceSub, Nat.reduceMul, Nat.reduceEqDiff, Nat.reduceLT, Nat.reduceLeDiff, Int.reduceToNat, Int.reduceLE, Int.reduceLT, Int.reduceEq, Int.reduceNeg, reduceCtorEq] <;> (try simp [catF]) <;> (try exact fun j _ => Bd_nth (by simp [BdL, Bd]) j) <;> (try exact bd_setL (by simp [bdAs, BdL, Bd])) <;> (try exact nestF_bd _ _ _ _ _ _ _ _ _))) ?_
  rintro ⟨i, hi, h3⟩
  simp only [p24_6, Try.f24, go_sem, ↓reduceIte, Nat.reduceAdd, Nat.reduceSub, Nat.reduceMul, Nat.reduceEqDiff, Nat.reduceLT, Nat.reduceLeDiff, Int.reduceToNat, Int.reduceLE, Int.reduceLT, Int.reduceEq, Int.reduceNeg, reduceCtorEq]
  refine ⟨fun e1 => ?_, fun e1 => ?_⟩
  · simp only [decide_eq_true_eq] at e1
    have ik : i < n := by omega
    refine ⟨⟨by kernel_rfl, by kernel_rfl⟩, ⟨by omega, by omega⟩, ⟨by omega, by omega⟩, fun e2 => ?_, fun e2 => ?_⟩
    · rw [allU_false (p := fun i => decide (v i 0 = u i 0)) ik (by simpa using e2)]
    refine ⟨⟨i + 1, by omega, below h3 (by simpa using e2)⟩, by simp only []; omega, ?_⟩
    apply sub_of <;> simp only [wrap_s ik p1, go_sem, ↓reduceIte, Nat.reduceAdd, Nat.reduceSub, Nat.reduceMul, Nat.reduceEqDiff, Nat.reduceLT, Nat.reduceLeDiff, Int.reduceToNat, Int.reduceLE, Int.reduceLT, Int.reduceEq, Int.reduceNeg, reduceCtorEq] <;> (try simp) <;> (try exact fun j _ => Bd_nth (by simp [BdL, Bd]) j) <;> (try exact bd_setL (by simp [bdAs, BdL, Bd])) <;> (try exact nestF_bd _ _ _ _ _ _ _ _ _)
  · simp only [decide_eq_false_iff_not] at e1
    obtain rfl : i = n := by omega
    rw [allU_true h3]
end Go.Eng
end

/- panel: votes. The plain law: majorities, and the table of counts. -/
section
namespace Go.Eng
def cnt (v : Nat → Int) : Nat → Int → Nat
  | 0, _ => 0
  | n + 1, x => cnt v n x + if v n = x then 1 else 0
theorem cnt_le (v : Nat → Int) : ∀ n x, cnt v n x ≤ n
  | 0, x => Nat.le_refl _
  | n + 1, x => by have := cnt_le v n x; simp only [cnt]; split <;> omega
theorem cnt_two (v : Nat → Int) {x y : Int} (h : x ≠ y) : ∀ n, cnt v n x + cnt v n y ≤ n
  | 0 => Nat.le_refl _
  | n + 1 => by
    have := cnt_two v h n
    simp only [cnt]
    split <;> split <;> first | omega | (rename_i a b; exact absurd (a.symm.trans b) h)
theorem cnt_pos {v : Nat → Int} : ∀ {n : Nat} {x : Int}, 0 < cnt v n x → ∃ j, j < n ∧ v j = x
  | 0, x, h => by simp [cnt] at h
  | n + 1, x, h => by
    simp only [cnt] at h
    by_cases e : v n = x
    · exact ⟨n, by omega, e⟩
    · rw [if_neg e] at h
      obtain ⟨j, h1, h2⟩ := cnt_pos (n := n) (x := x) (by omega)
      exact ⟨j, by omega, h2⟩
/-- The first of the first k votes that more than half of all n votes are. -/
def mjF (v : Nat → Int) (n : Nat) : Nat → Option Int
  | 0 => none
  | k + 1 => match mjF v n k with
    | some x => some x
    | none => if n < 2 * cnt v n (v k) then some (v k) else none
theorem mj_some {v : Nat → Int} {n : Nat} : ∀ {k : Nat} {x : Int}, mjF v n k = some x → n < 2 * cnt v n x
  | 0, x, h => by cases h
  | k + 1, x, h => by
    simp only [mjF] at h
    split at h
    · rename_i y hy; cases h; exact mj_some hy
    · split at h
      · rename_i hc; cases h; exact hc
      · cases h
theorem mj_none {v : Nat → Int} {n : Nat} : ∀ {k : Nat}, mjF v n k = none → ∀ j, j < k → ¬ n < 2 * cnt v n (v j)
  | 0, _, j, hj => by omega
  | k + 1, h, j, hj => by
    simp only [mjF] at h
    split at h
    · cases h
    · rename_i hn
      split at h
      · cases h
      · rename_i hc
        rcases Nat.lt_or_ge j k with h2 | h2
        · exact mj_none hn j h2
        · obtain rfl : j = k := by omega
          exact hc
theorem mj_eq {v : Nat → Int} {n : Nat} {x : Int} (h : n < 2 * cnt v n x) : mjF v n n = some x := by
  cases hm : mjF v n n with
  | some y =>
    have := mj_some hm
    by_cases e : y = x
    · rw [e]
    · have := cnt_two v e n; omega
  | none =>
    obtain ⟨j, h1, h2⟩ := cnt_pos (v := v) (n := n) (x := x) (by omega)
    exact absurd (by rw [h2]; exact h) (mj_none hm j h1)
theorem mj_no {v : Nat → Int} {n : Nat} (h : ∀ j, j < n → ¬ n < 2 * cnt v n (v j)) : mjF v n n = none := by
  cases hm : mjF v n n with
  | none => rfl
  | some y =>
    have h1 := mj_some hm
    obtain ⟨j, h2, h3⟩ := cnt_pos (v := v) (n := n) (x := y) (by omega)
    exact absurd (by rw [h3]; exact h1) (h j h2)
/-- What a call is behind votes, and whether it was changed. -/
def rvN (v : Nat → Int) (n : Nat) (now : Int) : Int := match mjF v n n with
  | some x => x
  | none => now
def rvU (v : Nat → Int) (n : Nat) (now : Int) : Bool := match mjF v n n with
  | some x => decide (x ≠ now)
  | none => false
theorem rv_some {v : Nat → Int} {n : Nat} {now x : Int} (h : n < 2 * cnt v n x) : rvN v n now = x ∧ rvU v n now = decide (x ≠ now) := by
  simp only [rvN, rvU, mj_eq h]; exact ⟨trivial, trivial⟩
theorem rv_none {v : Nat → Int} {n : Nat} {now : Int} (h : ∀ j, j < n → n < 2 * cnt v n (v j) → v j = now) : rvN v n now = now ∧ rvU v n now = false := by
  cases hm : mjF v n n with
  | none => simp only [rvN, rvU, hm]; exact ⟨trivial, trivial⟩
  | some y =>
    have h1 := mj_some hm
    obtain ⟨j, h2, h3⟩ := cnt_pos (v := v) (n := n) (x := y) (by omega)
    have := h j h2 (by rw [h3]; exact h1)
    simp only [rvN, rvU, hm]
    rw [← h3, this]
    simp

/- ### the table of counts -/
theorem findM_put : ∀ (es : List (List Int × List Int)) (k v k' : List Int), findM (putM es k v) k' = if k = k' then some v else findM es k'
  | [], k, v, k' => by simp [putM, findM]
  | (a, b) :: es, k, v, k' => by
    simp only [putM]
    by_cases h : a = k
    · rw [if_pos h]; subst h
      simp only [findM]
      split <;> rfl
    · rw [if_neg h]
      simp only [findM, findM_put es k v k']
      by_cases h2 : a = k'
      · rw [if_pos h2, if_neg (by rintro rfl; exact h h2), if_pos h2]
      · rw [if_neg h2, if_neg h2]
theorem findM_mem : ∀ {es : List (List Int × List Int)} {k v : List Int}, findM es k = some v → (k, v) ∈ es
  | [], k, v, h => by simp [findM] at h
  | (a, b) :: es, k, v, h => by
    simp only [findM] at h
    split at h
    · rename_i e; cases h; subst e; simp
    · exact List.mem_cons_of_mem _ (findM_mem h)
theorem put_mem : ∀ {es : List (List Int × List Int)} {k v : List Int} {e : List Int × List Int}, (es.map (·.1)).Nodup → e ∈ putM es k v → e = (k, v) ∨ (e ∈ es ∧ e.1 ≠ k)
  | [], k, v, e, _, h => by simp [putM] at h; exact .inl h
  | (a, b) :: es, k, v, e, hn, h => by
    simp only [List.map_cons, List.nodup_cons] at hn
    simp only [putM] at h
    split at h
    · rename_i hk
      subst hk
      rcases List.mem_cons.1 h with rfl | h
      · exact .inl rfl
      · exact .inr ⟨List.mem_cons_of_mem _ h, fun he => hn.1 (by rw [← he]; exact List.mem_map_of_mem h)⟩
    · rename_i hk
      rcases List.mem_cons.1 h with rfl | h
      · exact .inr ⟨by simp, hk⟩
      · rcases put_mem hn.2 h with h | ⟨h1, h2⟩
        · exact .inl h
        · exact .inr ⟨List.mem_cons_of_mem _ h1, h2⟩
theorem put_keys : ∀ (es : List (List Int × List Int)) (k v : List Int), (putM es k v).map (·.1) = if k ∈ es.map (·.1) then es.map (·.1) else es.map (·.1) ++ [k]
  | [], k, v => by simp [putM]
  | (a, b) :: es, k, v => by
    simp only [putM]
    by_cases h : a = k
    · subst h; simp
    · rw [if_neg h]
      simp only [List.map_cons, put_keys es k v, List.mem_cons, h, Ne.symm h, false_or]
      split <;> simp
/-- The table behind k votes. -/
def tbV (v : Nat → Int) : Nat → List (List Int × List Int)
  | 0 => []
  | k + 1 => putM (tbV v k) [v k] [gt (lookM (tbV v k) [v k]) 0 + 1]
theorem tb_find (v : Nat → Int) : ∀ (k : Nat) (x : Int), findM (tbV v k) [x] = if 0 < cnt v k x then some [(cnt v k x : Int)] else none
  | 0, x => by simp [tbV, findM, cnt]
  | k + 1, x => by
    have hl : gt (lookM (tbV v k) [v k]) 0 = (cnt v k (v k) : Int) := by
      simp only [lookM, tb_find v k (v k)]
      split
      · simp [gt]
      · simp [gt]; omega
    simp only [tbV, findM_put, tb_find v k x, cnt, hl]
    by_cases e : v k = x
    · subst e; simp
    · have : ¬ [v k] = [x] := by simpa using e
      simp [e, this]
theorem tb_nodup (v : Nat → Int) : ∀ k, ((tbV v k).map (·.1)).Nodup
  | 0 => by simp [tbV]
  | k + 1 => by
    simp only [tbV, put_keys]
    split
    · exact tb_nodup v k
    · rename_i h
      rw [List.nodup_append]
      refine ⟨tb_nodup v k, by simp, fun a ha b hb => ?_⟩
      simp at hb
      subst hb
      rintro rfl
      exact h ha
theorem find_of_mem : ∀ {es : List (List Int × List Int)} {e : List Int × List Int}, (es.map (·.1)).Nodup → e ∈ es → findM es e.1 = some e.2
  | [], e, _, h => by cases h
  | (a, b) :: es, e, hn, h => by
    simp only [List.map_cons, List.nodup_cons] at hn
    simp only [findM]
    rcases List.mem_cons.1 h with rfl | h
    · simp
    · rw [if_neg (fun he => hn.1 (by rw [he]; exact List.mem_map_of_mem h))]
      exact find_of_mem hn.2 h
theorem tb_keys (v : Nat → Int) : ∀ (k : Nat) (e : List Int × List Int), e ∈ tbV v k → ∃ x, e.1 = [x]
  | 0, e, h => by simp [tbV] at h
  | k + 1, e, h => by
    simp only [tbV] at h
    rcases put_mem (tb_nodup v k) h with rfl | ⟨h1, _⟩
    · exact ⟨_, rfl⟩
    · exact tb_keys v k e h1
theorem tb_entry (v : Nat → Int) (k : Nat) {e : List Int × List Int} (h : e ∈ tbV v k) : ∃ x, e = ([x], [(cnt v k x : Int)]) ∧ 0 < cnt v k x := by
  obtain ⟨x, hx⟩ := tb_keys v k e h
  have h1 := find_of_mem (tb_nodup v k) h
  rw [hx, tb_find] at h1
  split at h1
  · rename_i hp
    cases h1' : e with
    | mk a b =>
      rw [h1'] at h1 hx
      simp at h1 hx
      exact ⟨x, by rw [hx, ← h1], hp⟩
  · cases h1
theorem nthM_mem : ∀ {l : List (List Int × List Int)} {i : Nat}, i < l.length → nthM l i ∈ l
  | [], i, h => by simp at h
  | x :: l, 0, _ => by simp [nthM]
  | x :: l, i + 1, h => by simp only [nthM]; exact List.mem_cons_of_mem _ (nthM_mem (by simpa using h))
theorem tb_nth (v : Nat → Int) (k : Nat) {i : Nat} (h : i < (tbV v k).length) : ∃ x, nthM (tbV v k) i = ([x], [(cnt v k x : Int)]) ∧ 0 < cnt v k x := tb_entry v k (nthM_mem h)
theorem mem_nthM : ∀ {l : List (List Int × List Int)} {e : List Int × List Int}, e ∈ l → ∃ i, i < l.length ∧ nthM l i = e
  | [], e, h => by cases h
  | x :: l, e, h => by
    rcases List.mem_cons.1 h with rfl | h
    · exact ⟨0, by simp, rfl⟩
    · obtain ⟨i, h1, h2⟩ := mem_nthM h
      exact ⟨i + 1, by simpa using h1, h2⟩
theorem tb_has (v : Nat → Int) (k : Nat) {x : Int} (h : 0 < cnt v k x) : ∃ i, i < (tbV v k).length ∧ nthM (tbV v k) i = ([x], [(cnt v k x : Int)]) := by
  have h1 := tb_find v k x
  rw [if_pos h] at h1
  exact mem_nthM (findM_mem h1)
theorem tb_small (v : Nat → Int) (k : Nat) : gt (lookM (tbV v k) [v k]) 0 = (cnt v k (v k) : Int) := by
  simp only [lookM, tb_find v k (v k)]
  split
  · simp [gt]
  · simp [gt]; omega
end Go.Eng
end

/- panel: what a call is behind votes. -/
section
namespace Go.Eng
open Go Go.RowKit Go.Proofs
set_option maxRecDepth 100000
set_option maxHeartbeats 4000000
attribute [local irreducible] OwnT DefS
def mpS (es : List (List Int × List Int)) : MapS := ⟨3, 3, false, [.i], false, [.i], es, none⟩
theorem lenM_len (l : List (List Int × List Int)) : lenM l = l.length := by
  induction l with
  | nil => rfl
  | cons x l ih => simp [lenM, ih]
def reviewRBase : BaseF := fun args => match args with
  | [.int .i64 now, .row n sz_v f_v] => some ((sz_v = 1 ∧ IntR n 1 f_v) ∧ (n ≤ 1000000), .tup [.int .i64 (rvN (fun i => (ivf f_v) i 0) n now), .bool (rvU (fun i => (ivf f_v) i 0) n now)])
  | _ => none
theorem reviewR_eq (now : Int) (n : Nat) (sz_v : Nat) (f_v : Nat → Nat → SV) : reviewRBase [.int .i64 now, .row n sz_v f_v] = some ((sz_v = 1 ∧ IntR n 1 f_v) ∧ (n ≤ 1000000), .tup [.int .i64 (rvN (fun i => (ivf f_v) i 0) n now), .bool (rvU (fun i => (ivf f_v) i 0) n now)]) := rfl
theorem reviewR_base : Base Try.prog 53 reviewRBase := by
  intro args p v hq hp
  unfold reviewRBase at hq
  split at hq
  rotate_left
  · cases hq
  rename_i now n sz_v f_v
  cases hq
  obtain ⟨⟨rfl, i_v⟩, pre⟩ := hp
  refine base_of (C := cx [] [] [] [(53, 8, p53_8)] none) (cx_ok trivial trivial) rfl (g := 53) (fn := Try.f53)
    (args' := [.int .i64 now, .row n 1 (rowF .i64 (ivf f_v))]) (fn_53) rfl 1000 (by
    simp only [BdL, Bd, and_self, and_true, true_and]
    exact (fun i j hi hj => by rw [i_v i j hi hj]; trivial)) ⟨SameD.rfl' _, SameD.int i_v, trivial⟩ ?_
  generalize ivf f_v = v at *
  simp only [rowF_eq]
  simp only [p53_8, Try.f53, go_sem, ↓reduceIte, Nat.reduceAdd, Nat.reduceSub, Nat.reduceMul, Nat.reduceEqDiff, Nat.reduceLT, Nat.reduceLeDiff, Int.reduceToNat, Int.reduceLE, Int.reduceLT, Int.reduceEq, Int.reduceNeg, reduceCtorEq]
  refine loop_ofH { i : Nat // i ≤ n ∧ ∀ j, j < i → n < 2 * cnt (fun i => v i 0) n (v j 0) → v j 0 = now } (fun i => [(6, .int .i64 (i.1 : Int)), (1, .row n 1 fun i j => .int .i64 (v i j)), (0, .int .i64 now)]) (fun h _ => h) (fun i => n - i.1) (fun _ => ⟨rfl, rfl⟩) ⟨0, by omega, by omega⟩ (by (apply sub_of <;> simp only [go_sem, ↓reduceIte, Nat.reduceAdd, Nat.reduceSub, Nat.reduceMul, Nat.reduceEqDiff, Nat.reduceLT, Nat.reduceLeDiff, Int.reduceToNat, Int.reduceLE, Int.reduceLT, Int.reduceEq, Int.reduceNeg, reduceCtorEq] <;> (try simp [catF]) <;> (try exact fun j _ => Bd_nth (by simp [BdL, Bd]) j) <;> (try exact bd_setL (by simp [bdAs, BdL, Bd])) <;> (try exact nestF_bd _ _ _ _ _ _ _ _ _))) ?_
  rintro ⟨i, hi, h3⟩
  simp only [p53_8, Try.f53, go_sem, ↓reduceIte, Nat.reduceAdd, Nat.reduceSub, Nat.reduceMul, Nat.reduceEqDiff, Nat.reduceLT, Nat.reduceLeDiff, Int.reduceToNat, Int.reduceLE, Int.reduceLT, Int.reduceEq, Int.reduceNeg, reduceCtorEq]
  refine ⟨fun e1 => ?_, fun e1 => ?_⟩
  · simp only [decide_eq_true_eq] at e1
    have ik : i < n := by omega
    refine loop_ofH { k : Nat // k ≤ n } (fun k => [(8, .int .i64 (k.1 : Int)), (7, .int .i64 (cnt (fun i => v i 0) k.1 (v i 0) : Int)), (6, .int .i64 (i : Int)), (1, .row n 1 fun i j => .int .i64 (v i j)), (0, .int .i64 now)]) (fun h _ => h) (fun k => n - k.1) (fun _ => ⟨rfl, rfl⟩) ⟨0, by omega⟩ (by (apply sub_of <;> simp only [go_sem, ↓reduceIte, Nat.reduceAdd, Nat.reduceSub, Nat.reduceMul, Nat.reduceEqDiff, Nat.reduceLT, Nat.reduceLeDiff, Int.reduceToNat, Int.reduceLE, Int.reduceLT, Int.reduceEq, Int.reduceNeg, reduceCtorEq] <;> (try simp [catF]) <;> (try exact fun j _ => Bd_nth (by simp [BdL, Bd]) j) <;> (try exact bd_setL (by simp [bdAs, BdL, Bd])) <;> (try exact nestF_bd _ _ _ _ _ _ _ _ _)) <;> rfl) ?_
    rintro ⟨k, hk⟩
    simp only [p53_8, Try.f53, go_sem, ↓reduceIte, Nat.reduceAdd, Nat.reduceSub, Nat.reduceMul, Nat.reduceEqDiff, Nat.reduceLT, Nat.reduceLeDiff, Int.reduceToNat, Int.reduceLE, Int.reduceLT, Int.reduceEq, Int.reduceNeg, reduceCtorEq]
    have hc := cnt_le (fun i => v i 0) k (v i 0)
    refine ⟨fun e2 => ?_, fun e2 => ?_⟩
    · simp only [decide_eq_true_eq] at e2
      have kk : k < n := by omega
      have hw : IntKind.i64.wrap ((cnt (fun i => v i 0) k (v i 0) : Int) + 1) = ((cnt (fun i => v i 0) k (v i 0) + 1 : Nat) : Int) := by rw [wrap_id (by omega) (by omega)]; omega
      refine ⟨⟨by kernel_rfl, by kernel_rfl⟩, ⟨by omega, by omega⟩, ⟨by omega, by omega⟩, fun e3 => ?_, fun e3 => ?_⟩
      · refine ⟨⟨k + 1, by omega⟩, by simp only []; omega, ?_⟩
        simp only [decide_eq_true_eq] at e3
        apply sub_of <;> simp only [wrap_s kk pre, hw, cnt, e3, Int.toNat_natCast, go_sem, ↓reduceIte, Nat.reduceAdd, Nat.reduceSub, Nat.reduceMul, Nat.reduceEqDiff, Nat.reduceLT, Nat.reduceLeDiff, Int.reduceToNat, Int.reduceLE, Int.reduceLT, Int.reduceEq, Int.reduceNeg, reduceCtorEq] <;> (try simp) <;> (try exact fun j _ => Bd_nth (by simp [BdL, Bd]) j) <;> (try exact bd_setL (by simp [bdAs, BdL, Bd])) <;> (try exact nestF_bd _ _ _ _ _ _ _ _ _)
      · refine ⟨⟨k + 1, by omega⟩, by simp only []; omega, ?_⟩
        simp only [decide_eq_false_iff_not] at e3
        apply sub_of <;> simp only [wrap_s kk pre, cnt, e3, Int.toNat_natCast, Nat.add_zero, go_sem, ↓reduceIte, Nat.reduceAdd, Nat.reduceSub, Nat.reduceMul, Nat.reduceEqDiff, Nat.reduceLT, Nat.reduceLeDiff, Int.reduceToNat, Int.reduceLE, Int.reduceLT, Int.reduceEq, Int.reduceNeg, reduceCtorEq] <;> (try simp) <;> (try exact fun j _ => Bd_nth (by simp [BdL, Bd]) j) <;> (try exact bd_setL (by simp [bdAs, BdL, Bd])) <;> (try exact nestF_bd _ _ _ _ _ _ _ _ _)
    · simp only [decide_eq_false_iff_not] at e2
      obtain rfl : k = n := by omega
      have hw2 : IntKind.i64.wrap (2 * (cnt (fun i => v i 0) k (v i 0) : Int)) = 2 * (cnt (fun i => v i 0) k (v i 0) : Int) := wrap_id (by omega) (by omega)
      rw [hw2]
      have next : (k < 2 * cnt (fun i => v i 0) k (v i 0) → v i 0 = now) → ∃ i' : { i : Nat // i ≤ k ∧ ∀ j, j < i → k < 2 * cnt (fun i => v i 0) k (v j 0) → v j 0 = now }, i'.1 = i + 1 := fun h => ⟨⟨i + 1, by omega, fun j hj => by
        rcases Nat.lt_or_ge j i with h2 | h2
        · exact h3 j h2
        · obtain rfl : j = i := by omega
          exact h⟩, rfl⟩
      refine ⟨fun e3 => ⟨⟨by omega, by omega⟩, fun e4 => ⟨⟨by omega, by omega⟩, ?_⟩, fun e4 => ?_⟩, fun e3 => ?_⟩
      · simp only [decide_eq_true_eq] at e3
        simp only [Bool.not_eq_true', decide_eq_false_iff_not] at e4
        obtain ⟨r1, r2⟩ := rv_some (v := fun i => v i 0) (n := k) (now := now) (x := v i 0) (by omega)
        rw [r1, r2]; simp [e4]
      · simp only [Bool.not_eq_false', decide_eq_true_eq] at e4
        obtain ⟨i', hi'⟩ := next (fun _ => e4)
        refine ⟨i', by omega, ?_⟩
        apply sub_of <;> simp only [hi', wrap_s ik pre, go_sem, ↓reduceIte, Nat.reduceAdd, Nat.reduceSub, Nat.reduceMul, Nat.reduceEqDiff, Nat.reduceLT, Nat.reduceLeDiff, Int.reduceToNat, Int.reduceLE, Int.reduceLT, Int.reduceEq, Int.reduceNeg, reduceCtorEq] <;> (try simp) <;> (try exact fun j _ => Bd_nth (by simp [BdL, Bd]) j) <;> (try exact bd_setL (by simp [bdAs, BdL, Bd])) <;> (try exact nestF_bd _ _ _ _ _ _ _ _ _)
      · simp only [decide_eq_false_iff_not] at e3
        obtain ⟨i', hi'⟩ := next (fun h => absurd (by omega) e3)
        refine ⟨i', by omega, ?_⟩
        apply sub_of <;> simp only [hi', wrap_s ik pre, go_sem, ↓reduceIte, Nat.reduceAdd, Nat.reduceSub, Nat.reduceMul, Nat.reduceEqDiff, Nat.reduceLT, Nat.reduceLeDiff, Int.reduceToNat, Int.reduceLE, Int.reduceLT, Int.reduceEq, Int.reduceNeg, reduceCtorEq] <;> (try simp) <;> (try exact fun j _ => Bd_nth (by simp [BdL, Bd]) j) <;> (try exact bd_setL (by simp [bdAs, BdL, Bd])) <;> (try exact nestF_bd _ _ _ _ _ _ _ _ _)
  · simp only [decide_eq_false_iff_not] at e1
    obtain rfl : i = n := by omega
    obtain ⟨r1, r2⟩ := rv_none h3
    rw [r1, r2]
theorem numV_i (x : Int) : numV false [.i] (.int .i64 x) = some [x] := rfl
def un (seen : List Nat) : Nat → Nat
  | 0 => 0
  | n + 1 => un seen n + if seen.contains n then 0 else 1
theorem un_le (seen : List Nat) (i : Nat) : ∀ n, un (i :: seen) n ≤ un seen n
  | 0 => Nat.le_refl _
  | n + 1 => by
    have := un_le seen i n
    simp only [un]
    by_cases h : seen.contains n = true
    · have h2 : (i :: seen).contains n = true := by simp at h ⊢; exact .inr h
      rw [if_pos h, if_pos h2]; omega
    · rw [if_neg h]; split <;> omega
theorem un_lt {seen : List Nat} {i : Nat} (hs : seen.contains i = false) : ∀ {n : Nat}, i < n → un (i :: seen) n < un seen n
  | 0, h => by omega
  | n + 1, h => by
    simp only [un]
    by_cases e : i = n
    · subst e
      have := un_le seen i i
      have h1 : (i :: seen).contains i = true := by simp
      rw [if_pos h1, hs]
      simp only [Bool.false_eq_true, if_false]
      omega
    · have := un_lt hs (n := n) (by omega)
      by_cases h : seen.contains n = true
      · have h2 : (i :: seen).contains n = true := by simp at h ⊢; exact .inr h
        rw [if_pos h, if_pos h2]; omega
      · rw [if_neg h]; split <;> omega
def reviewBase : BaseF := fun args => match args with
  | [.int .i64 now, .row n sz_v f_v] => some ((sz_v = 1 ∧ IntR n 1 f_v) ∧ (n ≤ 1000000), .tup [.int .i64 (rvN (fun i => (ivf f_v) i 0) n now), .bool (rvU (fun i => (ivf f_v) i 0) n now)])
  | _ => none
theorem review_eq (now : Int) (n : Nat) (sz_v : Nat) (f_v : Nat → Nat → SV) : reviewBase [.int .i64 now, .row n sz_v f_v] = some ((sz_v = 1 ∧ IntR n 1 f_v) ∧ (n ≤ 1000000), .tup [.int .i64 (rvN (fun i => (ivf f_v) i 0) n now), .bool (rvU (fun i => (ivf f_v) i 0) n now)]) := rfl
theorem review_base : Base Try.prog 50 reviewBase := by
  intro args p v hq hp
  unfold reviewBase at hq
  split at hq
  rotate_left
  · cases hq
  rename_i now n sz_v f_v
  cases hq
  obtain ⟨⟨rfl, i_v⟩, pre⟩ := hp
  refine base_of (C := cx [] [] [] [] none) (cx_ok trivial trivial) rfl (g := 50) (fn := Try.f50)
    (args' := [.int .i64 now, .row n 1 (rowF .i64 (ivf f_v))]) (fn_50) rfl 1000 (by
    simp only [BdL, Bd, and_self, and_true, true_and]
    exact (fun i j hi hj => by rw [i_v i j hi hj]; trivial)) ⟨SameD.rfl' _, SameD.int i_v, trivial⟩ ?_
  generalize ivf f_v = v at *
  simp only [rowF_eq]
  simp only [numV_i, Try.f50, go_sem, ↓reduceIte, Nat.reduceAdd, Nat.reduceSub, Nat.reduceMul, Nat.reduceEqDiff, Nat.reduceLT, Nat.reduceLeDiff, Int.reduceToNat, Int.reduceLE, Int.reduceLT, Int.reduceEq, Int.reduceNeg, reduceCtorEq]
  refine loop_ofH { k : Nat // k ≤ n } (fun k => [(14, .int .i64 (k.1 : Int)), (13, .int .i64 (n : Int)), (12, .row n 1 fun i j => .int .i64 (v i j)), (6, .mapp 0), (1, .row n 1 fun i j => .int .i64 (v i j)), (0, .int .i64 now)]) (fun _ k => { blks := [.mp (mpS (tbV (fun i => v i 0) k.1))], vecs := [] }) (fun k => n - k.1) (fun _ => ⟨rfl, rfl⟩) ⟨0, by omega⟩ (by (apply sub_of <;> simp only [mpS, tbV, go_sem, ↓reduceIte, Nat.reduceAdd, Nat.reduceSub, Nat.reduceMul, Nat.reduceEqDiff, Nat.reduceLT, Nat.reduceLeDiff, Int.reduceToNat, Int.reduceLE, Int.reduceLT, Int.reduceEq, Int.reduceNeg, reduceCtorEq]) <;> first | rfl | trivial | simp) ?_
  rintro ⟨k, hk⟩
  simp only [mpS]
  simp only [numV_i, Try.f50, go_sem, ↓reduceIte, Nat.reduceAdd, Nat.reduceSub, Nat.reduceMul, Nat.reduceEqDiff, Nat.reduceLT, Nat.reduceLeDiff, Int.reduceToNat, Int.reduceLE, Int.reduceLT, Int.reduceEq, Int.reduceNeg, reduceCtorEq]
  have hc := cnt_le (fun i => v i 0) k (v k 0)
  have hts := tb_small (fun i => v i 0) k
  refine ⟨fun e1 => ?_, fun e1 => ?_⟩
  · simp only [decide_eq_true_eq] at e1
    have kk : k < n := by omega
    refine ⟨⟨by omega, by omega⟩, ⟨k + 1, by omega⟩, by simp only []; omega, ?_⟩
    have hw : IntKind.i64.wrap (gt (lookM (tbV (fun i => v i 0) k) [v k 0]) 0 + 1) = gt (lookM (tbV (fun i => v i 0) k) [v k 0]) 0 + 1 := by rw [hts]; exact wrap_id (by omega) (by omega)
    apply sub_of <;> simp only [hw, wrap_s kk pre, tbV, go_sem, ↓reduceIte, Nat.reduceAdd, Nat.reduceSub, Nat.reduceMul, Nat.reduceEqDiff, Nat.reduceLT, Nat.reduceLeDiff, Int.reduceToNat, Int.reduceLE, Int.reduceLT, Int.reduceEq, Int.reduceNeg, reduceCtorEq] <;> (try simp)
  · simp only [decide_eq_false_iff_not] at e1
    obtain rfl : k = n := by omega
    refine loop_ofH { seen : List Nat // ∀ i, seen.contains i = true → i < (tbV (fun i => v i 0) k).length → ∀ x, nthM (tbV (fun i => v i 0) k) i = ([x], [(cnt (fun i => v i 0) k x : Int)]) → ¬ k < 2 * cnt (fun i => v i 0) k x } (fun _ => [(24, .ptr 1 0), (1, .row k 1 fun i j => .int .i64 (v i j)), (0, .int .i64 now)]) (fun _ s => { blks := [.mp (mpS (tbV (fun i => v i 0) k)), .mp (itS (0, lenM (tbV (fun i => v i 0) k), s.1))], vecs := [] }) (fun s => un s.1 (lenM (tbV (fun i => v i 0) k))) (fun _ => ⟨rfl, rfl⟩) ⟨[], by simp⟩ (by (apply sub_of <;> simp only [mpS, itS, go_sem, ↓reduceIte, Nat.reduceAdd, Nat.reduceSub, Nat.reduceMul, Nat.reduceEqDiff, Nat.reduceLT, Nat.reduceLeDiff, Int.reduceToNat, Int.reduceLE, Int.reduceLT, Int.reduceEq, Int.reduceNeg, reduceCtorEq]) <;> first | rfl | trivial | simp) ?_
    rintro ⟨seen, hseen⟩
    simp only [mpS]
    simp only [numV_i, Try.f50, go_sem, ↓reduceIte, Nat.reduceAdd, Nat.reduceSub, Nat.reduceMul, Nat.reduceEqDiff, Nat.reduceLT, Nat.reduceLeDiff, Int.reduceToNat, Int.reduceLE, Int.reduceLT, Int.reduceEq, Int.reduceNeg, reduceCtorEq]
    simp only [lenM_len]
    refine ⟨fun i hi hns => ⟨hi, fun e2 => ?_, fun e2 => ?_⟩, fun hall => ?_⟩
    · obtain ⟨x, hx, hp⟩ := tb_nth (fun i => v i 0) k hi
      have hcx := cnt_le (fun i => v i 0) k x
      rw [hx] at e2 ⊢
      replace e2 := of_decide_eq_true e2
      simp only [gt] at e2 ⊢
      rw [wrap_id (by omega) (by omega)] at e2
      obtain ⟨r1, r2⟩ := rv_some (v := fun i => v i 0) (n := k) (now := now) (x := x) (by omega)
      rw [r1, r2]
      (try simp); first | done | congr
    · obtain ⟨x, hx, hp⟩ := tb_nth (fun i => v i 0) k hi
      have hcx := cnt_le (fun i => v i 0) k x
      rw [hx] at e2
      replace e2 := of_decide_eq_false e2
      simp only [gt] at e2
      rw [wrap_id (by omega) (by omega)] at e2
      refine ⟨⟨i :: seen, fun j hj hjl y hy => ?_⟩, un_lt (by simpa using hns) hi, ?_⟩
      · by_cases e : j = i
        · subst e
          rw [hx] at hy
          simp at hy
          rw [← hy.1]
          omega
        · exact hseen j (by simp [e] at hj ⊢; exact hj) hjl y hy
      · (apply sub_of <;> simp only [mpS, itS, lenM_len, go_sem, ↓reduceIte, Nat.reduceAdd, Nat.reduceSub, Nat.reduceMul, Nat.reduceEqDiff, Nat.reduceLT, Nat.reduceLeDiff, Int.reduceToNat, Int.reduceLE, Int.reduceLT, Int.reduceEq, Int.reduceNeg, reduceCtorEq]) <;> first | rfl | trivial | simp
    · obtain ⟨r1, r2⟩ := rv_none (v := fun i => v i 0) (n := k) (now := now) (fun j hj hm => by
        obtain ⟨i, hi, hn⟩ := tb_has (fun i => v i 0) k (x := v j 0) (by omega)
        exact absurd hm (hseen i (by simpa using hall i hi) hi _ hn))
      rw [r1, r2]
end Go.Eng
end

/- panel: appeals, the plain law. -/
section
namespace Go.Eng
def vF (V : Nat → Nat → Nat → Int) (i : Nat) : Nat → Int := fun j => V i j 0
def dup (A : Nat → Nat → Int) : Nat → Int → Bool
  | 0, _ => false
  | i + 1, e => dup A i e || decide (A i 0 = e)
def cuA (c : Nat → Int) (A : Nat → Nat → Int) (M : Nat → Nat) (V : Nat → Nat → Nat → Int) : Nat → Nat → Int
  | 0, e => c e
  | i + 1, e => if e = (A i 0).toNat then rvN (vF V i) (M i) (cuA c A M V i e) else cuA c A M V i e
def kpA (c : Nat → Int) (A : Nat → Nat → Int) (M : Nat → Nat) (V : Nat → Nat → Nat → Int) (fee : Int) : Nat → Int
  | 0 => 0
  | i + 1 => kpA c A M V fee i + if rvU (vF V i) (M i) (cuA c A M V i (A i 0).toNat) then 0 else fee
def okA (n : Nat) (A : Nat → Nat → Int) (M : Nat → Nat) (V : Nat → Nat → Nat → Int) (i : Nat) : Bool := in3 (A i 0) 0 ((n : Int) - 1) && (in3 (M i : Int) 1 9 && allU (fun j => in3 (V i j 0) 0 100) (M i))
def erA (n : Nat) (A : Nat → Nat → Int) (M : Nat → Nat) (V : Nat → Nat → Nat → Int) (i : Nat) : Int := if okA n A M V i = false then 1 else if dup A i (A i 0) then 5 else 0
/-- The first of k that fails. -/
def ffA (er : Nat → Int) : Nat → Option Nat
  | 0 => none
  | k + 1 => match ffA er k with
    | some i => some i
    | none => if er k = 0 then none else some k
theorem ff_none {er : Nat → Int} : ∀ {k : Nat}, (∀ j, j < k → er j = 0) → ffA er k = none
  | 0, _ => rfl
  | k + 1, h => by simp only [ffA, ff_none (k := k) (fun j hj => h j (by omega)), h k (by omega), if_true]
theorem ff_some {er : Nat → Int} {i : Nat} (h : ∀ j, j < i → er j = 0) (hi : er i ≠ 0) : ∀ {k : Nat}, i < k → ffA er k = some i
  | 0, hk => by omega
  | k + 1, hk => by
    by_cases e : i = k
    · subst e; simp only [ffA, ff_none h, if_neg hi]
    · simp only [ffA, ff_some h hi (k := k) (by omega)]
/-- What appeals leave: how many calls, the fees kept, how many appeals were seen, the error. -/
structure ApR where
  n : Nat
  kept : Int
  ix : Int
  e : Int
def apA (n : Nat) (c : Nat → Int) (m : Nat) (A : Nat → Nat → Int) (M : Nat → Nat) (V : Nat → Nat → Nat → Int) (fee : Int) : ApR :=
  if 64 < m then ⟨0, 0, 0, 3⟩ else if (decide (n ≤ 64) && allU (fun i => in3 (c i) 0 100) n) = false then ⟨0, 0, 0, 1⟩ else if in3 fee 0 1048576 = false then ⟨0, 0, 0, 2⟩ else
    match ffA (erA n A M V) m with
    | some i => ⟨0, 0, (i : Int), erA n A M V i⟩
    | none => ⟨n, kpA c A M V fee m, (m : Int), 0⟩
theorem kp_bound (c : Nat → Int) (A : Nat → Nat → Int) (M : Nat → Nat) (V : Nat → Nat → Nat → Int) {fee : Int} (h0 : 0 ≤ fee) : ∀ i, 0 ≤ kpA c A M V fee i ∧ kpA c A M V fee i ≤ i * fee
  | 0 => ⟨Int.le_refl _, by simp [kpA]⟩
  | i + 1 => by
    obtain ⟨h1, h2⟩ := kp_bound c A M V h0 i
    have : ((i + 1 : Nat) : Int) * fee = (i : Int) * fee + fee := by rw [show ((i + 1 : Nat) : Int) = (i : Int) + 1 by omega, Int.add_mul]; omega
    simp only [kpA]
    rw [this]
    split <;> constructor <;> omega
/-- Cells told by a function. -/
def cel (f : Nat → SV) : List SV := cellsF f 64 0
theorem nth_cellsF (f : Nat → SV) : ∀ (n k i : Nat), i < n → nth (cellsF f n k) i = f (k + i)
  | 0, k, i, h => by omega
  | n + 1, k, 0, _ => rfl
  | n + 1, k, i + 1, h => by simp only [cellsF, nth]; rw [nth_cellsF f n (k + 1) i (by omega)]; congr 1; omega
theorem upd_cellsF (f : Nat → SV) (v : SV) : ∀ (n k i : Nat), upd (cellsF f n k) i v = cellsF (fun j => if j = k + i then v else f j) n k
  | 0, k, i => by cases i <;> rfl
  | n + 1, k, 0 => by
    simp only [cellsF, upd, Nat.add_zero, if_true]
    congr 1
    have : ∀ (m q : Nat), k < q → cellsF f m q = cellsF (fun j => if j = k then v else f j) m q := by
      intro m
      induction m with
      | zero => intro q _; rfl
      | succ m ih => intro q hq; simp only [cellsF, if_neg (show ¬ q = k by omega), ih (q + 1) (by omega)]
    exact this n (k + 1) (by omega)
  | n + 1, k, i + 1 => by
    simp only [cellsF, upd, upd_cellsF f v n (k + 1) i, if_neg (show ¬ k = k + (i + 1) by omega)]
    congr 2
    funext j
    rw [show k + 1 + i = k + (i + 1) by omega]
theorem nth_cel (f : Nat → SV) {i : Nat} (h : i < 64) : nth (cel f) i = f i := by rw [cel, nth_cellsF f 64 0 i h, Nat.zero_add]
theorem upd_cel (f : Nat → SV) (v : SV) (i : Nat) : upd (cel f) i v = cel (fun j => if j = i then v else f j) := by simp only [cel, upd_cellsF, Nat.zero_add]
theorem lenS_cellsF (f : Nat → SV) : ∀ n k, lenS (cellsF f n k) = n
  | 0, _ => rfl
  | n + 1, k => by simp only [cellsF, lenS, lenS_cellsF f n (k + 1)]
theorem lenS_cel (f : Nat → SV) : lenS (cel f) = 64 := lenS_cellsF f 64 0
theorem over_one (l : List SV) (i : Nat) (v : SV) : over l i [v] = upd l i v := rfl
theorem bd_cellsF (L M : Nat) (f : Nat → SV) (h : ∀ i, Bd L M (f i)) : ∀ n k, BdL L M (cellsF f n k)
  | 0, _ => trivial
  | n + 1, k => ⟨h k, bd_cellsF L M f h n (k + 1)⟩
theorem bd_cel (L M : Nat) (p : Nat → Bool) : BdL L M (cel fun e => .bool (p e)) := bd_cellsF L M (fun e => .bool (p e)) (fun _ => trivial) 64 0
theorem dup_false {A : Nat → Nat → Int} {e : Int} : ∀ {i : Nat}, (∀ k, k < i → A k 0 ≠ e) → dup A i e = false
  | 0, _ => rfl
  | i + 1, h => by simp only [dup, dup_false (i := i) (fun k hk => h k (by omega)), Bool.false_or, decide_eq_false_iff_not]; exact h i (by omega)
theorem dup_true {A : Nat → Nat → Int} {e : Int} {k : Nat} (h : A k 0 = e) : ∀ {i : Nat}, k < i → dup A i e = true
  | 0, hk => by omega
  | i + 1, hk => by
    simp only [dup, Bool.or_eq_true, decide_eq_true_eq]
    by_cases e' : k = i
    · subst e'; exact .inr h
    · exact .inl (dup_true h (i := i) (by omega))
theorem sub_cellsF (p : Nat → Bool) : ∀ n k, subL (cellsF (fun e => .bool (p e)) n k) (cellsF (fun e => .bool (p e)) n k)
  | 0, _ => trivial
  | n + 1, k => ⟨rfl, sub_cellsF p n (k + 1)⟩
theorem sub_cel (p : Nat → Bool) : subL (cel fun e => .bool (p e)) (cel fun e => .bool (p e)) := sub_cellsF p 64 0
theorem cel_zero (A : Nat → Nat → Int) : cel (fun e => .bool (dup A 0 (e : Int))) = [.bool false, .bool false, .bool false, .bool false, .bool false, .bool false, .bool false, .bool false, .bool false, .bool false, .bool false, .bool false, .bool false, .bool false, .bool false, .bool false, .bool false, .bool false, .bool false, .bool false, .bool false, .bool false, .bool false, .bool false, .bool false, .bool false, .bool false, .bool false, .bool false, .bool false, .bool false, .bool false, .bool false, .bool false, .bool false, .bool false, .bool false, .bool false, .bool false, .bool false, .bool false, .bool false, .bool false, .bool false, .bool false, .bool false, .bool false, .bool false, .bool false, .bool false, .bool false, .bool false, .bool false, .bool false, .bool false, .bool false, .bool false, .bool false, .bool false, .bool false, .bool false, .bool false, .bool false, .bool false] := rfl
section
variable {n m : Nat} {c : Nat → Int} {A : Nat → Nat → Int} {M : Nat → Nat} {V : Nat → Nat → Nat → Int} {fee : Int}
theorem ap_long (h : 64 < m) : apA n c m A M V fee = ⟨0, 0, 0, 3⟩ := by simp [apA, h]
theorem ap_arg (h : ¬ 64 < m) (h2 : (decide (n ≤ 64) && allU (fun i => in3 (c i) 0 100) n) = false) : apA n c m A M V fee = ⟨0, 0, 0, 1⟩ := by unfold apA; rw [if_neg h, if_pos h2]
theorem ap_rng (h : ¬ 64 < m) (h2 : (decide (n ≤ 64) && allU (fun i => in3 (c i) 0 100) n) = true) (h3 : in3 fee 0 1048576 = false) : apA n c m A M V fee = ⟨0, 0, 0, 2⟩ := by unfold apA; rw [if_neg h, if_neg (by rw [h2]; simp), if_pos h3]
theorem ap_fail (h : ¬ 64 < m) (h2 : (decide (n ≤ 64) && allU (fun i => in3 (c i) 0 100) n) = true) (h3 : in3 fee 0 1048576 = true) {i : Nat} (hi : i < m) (h4 : ∀ j, j < i → erA n A M V j = 0) {e : Int} (h5 : erA n A M V i = e) (he : e ≠ 0) : apA n c m A M V fee = ⟨0, 0, (i : Int), e⟩ := by
  unfold apA; rw [if_neg h, if_neg (by rw [h2]; simp), if_neg (by rw [h3]; simp), ff_some h4 (by rw [h5]; exact he) hi]; simp only [h5]
theorem ap_all (h : ¬ 64 < m) (h2 : (decide (n ≤ 64) && allU (fun i => in3 (c i) 0 100) n) = true) (h3 : in3 fee 0 1048576 = true) (h4 : ∀ j, j < m → erA n A M V j = 0) : apA n c m A M V fee = ⟨n, kpA c A M V fee m, (m : Int), 0⟩ := by
  unfold apA; rw [if_neg h, if_neg (by rw [h2]; simp), if_neg (by rw [h3]; simp), ff_none h4]
theorem er_bad {i : Nat} (h : okA n A M V i = false) : erA n A M V i = 1 := by simp [erA, h]
theorem er_dup {i : Nat} (h : okA n A M V i = true) (h2 : dup A i (A i 0) = true) : erA n A M V i = 5 := by simp [erA, h, h2]
theorem er_no {i : Nat} (h : okA n A M V i = true) (h2 : dup A i (A i 0) = false) : erA n A M V i = 0 := by simp [erA, h, h2]
end
end Go.Eng
end

/- panel: appeals. -/
section
namespace Go.Eng
open Go Go.RowKit Go.Proofs
set_option maxRecDepth 100000
set_option maxHeartbeats 4000000
attribute [local irreducible] OwnT DefS
def cloneBase : BaseF := fun args => match args with
  | [.row n sz_f f_f] => some ((sz_f = 1 ∧ IntR n 1 f_f) ∧ (n ≤ 1000000), .row n 1 (fun i j => .int .i64 ((ivf f_f) i j)))
  | _ => none
theorem clone_eq (n : Nat) (sz_f : Nat) (f_f : Nat → Nat → SV) : cloneBase [.row n sz_f f_f] = some ((sz_f = 1 ∧ IntR n 1 f_f) ∧ (n ≤ 1000000), .row n 1 (fun i j => .int .i64 ((ivf f_f) i j))) := rfl
theorem clone_base : BaseO Try.prog 55 3 cloneBase := by
  intro args p v hq hp
  unfold cloneBase at hq
  split at hq
  rotate_left
  · cases hq
  rename_i n sz_f f_f
  cases hq
  obtain ⟨⟨rfl, i_f⟩, pre⟩ := hp
  refine baseO_of (C := cx [] [] [] [] none) (cx_ok trivial trivial) rfl (g := 55) (fn := Try.f55)
    (args' := [.row n 1 (rowF .i64 (ivf f_f))]) (fn_55) rfl 1000 (by
    simp only [BdL, Bd, and_self, and_true, true_and]
    exact (fun i j hi hj => by rw [i_f i j hi hj]; trivial)) ⟨SameD.int i_f, trivial⟩ ?_
  generalize ivf f_f = f at *
  simp only [rowF_eq]
  simp only [Try.f55, go_sem, ↓reduceIte, Nat.reduceAdd, Nat.reduceSub, Nat.reduceMul, Nat.reduceEqDiff, Nat.reduceLT, Nat.reduceLeDiff, Int.reduceToNat, Int.reduceLE, Int.reduceLT, Int.reduceEq, Int.reduceNeg, reduceCtorEq]
  exact ⟨fun h => ⟨h.symm, fun i j hi _ => by omega⟩, ⟨by omega, by omega⟩, fun i j _ _ => by simp [catF]⟩
def appealsRBase : BaseF := fun args => match args with
  | [.row n sz_c f_c, .row m sz_A f_A, .int .i64 fee] => some ((sz_c = 1 ∧ IntR n 1 f_c) ∧ (sz_A = 2 ∧ NestR m 2 1 1 f_A) ∧ (n ≤ 1000000 ∧ m ≤ 1000000 ∧ ∀ i, i < m → (nsM 1 f_A) i ≤ 1000000), .tup [.row (apA n (fun i => (ivf f_c) i 0) m (nsA f_A) (nsM 1 f_A) (nsV 1 f_A) fee).n 1 (fun i _ => .int .i64 (cuA (fun i => (ivf f_c) i 0) (nsA f_A) (nsM 1 f_A) (nsV 1 f_A) m i)), .int .i64 (apA n (fun i => (ivf f_c) i 0) m (nsA f_A) (nsM 1 f_A) (nsV 1 f_A) fee).kept, .int .i64 (apA n (fun i => (ivf f_c) i 0) m (nsA f_A) (nsM 1 f_A) (nsV 1 f_A) fee).ix, .int .i64 (apA n (fun i => (ivf f_c) i 0) m (nsA f_A) (nsM 1 f_A) (nsV 1 f_A) fee).e])
  | _ => none
theorem appealsR_eq (n : Nat) (sz_c : Nat) (f_c : Nat → Nat → SV) (m : Nat) (sz_A : Nat) (f_A : Nat → Nat → SV) (fee : Int) : appealsRBase [.row n sz_c f_c, .row m sz_A f_A, .int .i64 fee] = some ((sz_c = 1 ∧ IntR n 1 f_c) ∧ (sz_A = 2 ∧ NestR m 2 1 1 f_A) ∧ (n ≤ 1000000 ∧ m ≤ 1000000 ∧ ∀ i, i < m → (nsM 1 f_A) i ≤ 1000000), .tup [.row (apA n (fun i => (ivf f_c) i 0) m (nsA f_A) (nsM 1 f_A) (nsV 1 f_A) fee).n 1 (fun i _ => .int .i64 (cuA (fun i => (ivf f_c) i 0) (nsA f_A) (nsM 1 f_A) (nsV 1 f_A) m i)), .int .i64 (apA n (fun i => (ivf f_c) i 0) m (nsA f_A) (nsM 1 f_A) (nsV 1 f_A) fee).kept, .int .i64 (apA n (fun i => (ivf f_c) i 0) m (nsA f_A) (nsM 1 f_A) (nsV 1 f_A) fee).ix, .int .i64 (apA n (fun i => (ivf f_c) i 0) m (nsA f_A) (nsM 1 f_A) (nsV 1 f_A) fee).e]) := rfl
theorem appealsR_base : Base Try.prog 23 appealsRBase := by
  intro args p v hq hp
  unfold appealsRBase at hq
  split at hq
  rotate_left
  · cases hq
  rename_i n sz_c f_c m sz_A f_A fee
  cases hq
  obtain ⟨⟨rfl, i_c⟩, ⟨rfl, i_A⟩, pre⟩ := hp
  refine baseF_of (C := cx [] [] [(51, inBase), (52, votesRBase), (53, reviewRBase), (56, callsRBase)] [(23, 18, p23_18), (23, 20, p23_20)] none) (cx_ok trivial ⟨in_base, votesR_base, reviewR_base, callsR_base, trivial⟩) rfl (g := 23) (fn := Try.f23)
    (args' := [.row n 1 (rowF .i64 (ivf f_c)), .row m 2 (nestF 1 1 (nsA f_A) (nsM 1 f_A) (nsV 1 f_A)), .int .i64 fee]) (fn_23) rfl 1000 (by
    simp only [BdL, Bd, and_self, and_true, true_and]
    exact ⟨(fun i j hi hj => by rw [i_c i j hi hj]; trivial), (fun i j hi hj => nest_bd i_A i j hi hj)⟩) ⟨SameD.int i_c, SameD.nest i_A, SameD.rfl' _, trivial⟩ ?_
  generalize ivf f_c = c at *
  generalize nsA f_A = A at *
  generalize nsM 1 f_A = M at *
  generalize nsV 1 f_A = V at *
  simp only [rowF_eq]
  simp only [in_eq, votesR_eq, reviewR_eq, callsR_eq, p23_18, p23_20, nestF_eq, nestR_lit, nsM_lit, nsV_lit, Try.f23, go_sem, ↓reduceIte, Nat.reduceAdd, Nat.reduceSub, Nat.reduceMul, Nat.reduceEqDiff, Nat.reduceLT, Nat.reduceLeDiff, Int.reduceToNat, Int.reduceLE, Int.reduceLT, Int.reduceEq, Int.reduceNeg, reduceCtorEq]
  obtain ⟨p1, p2, p3⟩ := pre
  refine ⟨fun c1 => ?_, fun c1 => ⟨p1, fun c2 => ?_, fun c2 => ⟨fun c3 => ?_, fun c3 => ⟨⟨by omega, by omega⟩, ?_⟩⟩⟩⟩
  · simp only [decide_eq_true_eq] at c1
    rw [ap_long (by omega)]; exact ⟨⟨rfl, fun i j hi => absurd hi (Nat.not_lt_zero _)⟩, rfl, rfl, rfl⟩
  · simp only [decide_eq_false_iff_not] at c1
    rw [ap_arg (by omega) (by simpa only [Bool.not_eq_true'] using c2)]; exact ⟨⟨rfl, fun i j hi => absurd hi (Nat.not_lt_zero _)⟩, rfl, rfl, rfl⟩
  · simp only [decide_eq_false_iff_not] at c1
    rw [ap_rng (by omega) (by simpa only [Bool.not_eq_false'] using c2) (by simpa only [Bool.not_eq_true'] using c3)]; exact ⟨⟨rfl, fun i j hi => absurd hi (Nat.not_lt_zero _)⟩, rfl, rfl, rfl⟩
  simp only [decide_eq_false_iff_not] at c1
  simp only [Bool.not_eq_false'] at c2 c3
  have hm : ¬ 64 < m := by omega
  have hf := in3_iff.1 c3
  have hn : n ≤ 64 := by simp only [Bool.and_eq_true, decide_eq_true_eq] at c2; exact c2.1
  refine loop_ofH { i : Nat // i ≤ m ∧ ∀ j, j < i → erA n A M V j = 0 } (fun i => [(12, .int .i64 (i.1 : Int)), (11, .int .i64 (kpA (fun i => c i 0) A M V fee i.1)), (10, .vec 1 1), (2, .int .i64 fee), (1, .row m 2 (nestF 1 1 A M V)), (0, .row n 1 fun i j => .int .i64 (c i j))]) (fun _ i => { blks := [], vecs := [.live 0 3 1 0 (fun _ _ => .any), .live 1 3 1 n (fun e _ => .int .i64 (cuA (fun i => c i 0) A M V i.1 e))] }) (fun i => m - i.1) (fun _ => ⟨rfl, rfl⟩) ⟨0, by omega, by omega⟩ (by (apply sub_of <;> simp only [go_sem, ↓reduceIte, Nat.reduceAdd, Nat.reduceSub, Nat.reduceMul, Nat.reduceEqDiff, Nat.reduceLT, Nat.reduceLeDiff, Int.reduceToNat, Int.reduceLE, Int.reduceLT, Int.reduceEq, Int.reduceNeg, reduceCtorEq] <;> (try simp [catF]) <;> (try exact fun j _ => Bd_nth (by simp [BdL, Bd]) j) <;> (try exact bd_setL (by simp [bdAs, BdL, Bd])) <;> (try exact nestF_bd _ _ _ _ _ _ _ _ _)) <;> first | rfl | exact fun _ _ => rfl) ?_
  rintro ⟨i, hi, h4⟩
  simp only [in_eq, votesR_eq, reviewR_eq, callsR_eq, p23_18, p23_20, nestF_eq, nestR_lit, nsM_lit, nsV_lit, Try.f23, go_sem, ↓reduceIte, Nat.reduceAdd, Nat.reduceSub, Nat.reduceMul, Nat.reduceEqDiff, Nat.reduceLT, Nat.reduceLeDiff, Int.reduceToNat, Int.reduceLE, Int.reduceLT, Int.reduceEq, Int.reduceNeg, reduceCtorEq]
  have hw1 : IntKind.i64.wrap ((n : Int) - 1) = (n : Int) - 1 := wrap_id (by omega) (by omega)
  rw [hw1]
  have bad : okA n A M V i = false → i < m → apA n (fun i => c i 0) m A M V fee = ⟨0, 0, (i : Int), 1⟩ := fun h hi => ap_fail hm c2 c3 hi h4 (er_bad h) (by omega)
  refine ⟨fun e1 => ?_, fun e1 => ?_⟩
  rotate_left
  · simp only [decide_eq_false_iff_not] at e1
    obtain rfl : i = m := by omega
    rw [ap_all hm c2 c3 h4]
    exact ⟨⟨rfl, fun _ _ _ _ => rfl⟩, rfl, rfl, rfl⟩
  simp only [decide_eq_true_eq] at e1
  have im : i < m := by omega
  refine ⟨⟨by omega, by omega⟩, fun e2 => ?_, fun e2 => ⟨p3 i im, fun e3 => ?_, fun e3 => ?_⟩⟩
  · simp only [Bool.not_eq_true'] at e2
    rw [bad (by simp only [okA, e2, Bool.false_and]) im]
    exact ⟨⟨rfl, fun i j hi => absurd hi (Nat.not_lt_zero _)⟩, rfl, rfl, rfl⟩
  · simp only [Bool.not_eq_true'] at e3
    rw [bad (by simp only [okA, e3, Bool.and_false]) im]
    exact ⟨⟨rfl, fun i j hi => absurd hi (Nat.not_lt_zero _)⟩, rfl, rfl, rfl⟩
  simp only [Bool.not_eq_false'] at e2 e3
  have hok : okA n A M V i = true := by simp only [okA, e2, e3, Bool.and_self]
  have hel := in3_iff.1 e2
  refine loop_ofH { k : Nat // k ≤ i ∧ ∀ q, q < k → A q 0 ≠ A i 0 } (fun k => [(14, .int .i64 (k.1 : Int)), (13, .ptr 0 0), (12, .int .i64 (i : Int)), (11, .int .i64 (kpA (fun i => c i 0) A M V fee i)), (10, .vec 1 1), (2, .int .i64 fee), (1, .row m 2 (nestF 1 1 A M V)), (0, .row n 1 fun i j => .int .i64 (c i j))]) (fun h _ => h) (fun k => i - k.1) (fun _ => ⟨rfl, rfl⟩) ⟨0, by omega, by omega⟩ (by (apply sub_of <;> simp only [go_sem, ↓reduceIte, Nat.reduceAdd, Nat.reduceSub, Nat.reduceMul, Nat.reduceEqDiff, Nat.reduceLT, Nat.reduceLeDiff, Int.reduceToNat, Int.reduceLE, Int.reduceLT, Int.reduceEq, Int.reduceNeg, reduceCtorEq] <;> (try simp [catF]) <;> (try exact fun j _ => Bd_nth (by simp [BdL, Bd]) j) <;> (try exact bd_setL (by simp [bdAs, BdL, Bd])) <;> (try exact nestF_bd _ _ _ _ _ _ _ _ _))) ?_
  rintro ⟨k, hk, h5⟩
  simp only [in_eq, votesR_eq, reviewR_eq, callsR_eq, p23_18, p23_20, nestF_eq, nestR_lit, nsM_lit, nsV_lit, Try.f23, go_sem, ↓reduceIte, Nat.reduceAdd, Nat.reduceSub, Nat.reduceMul, Nat.reduceEqDiff, Nat.reduceLT, Nat.reduceLeDiff, Int.reduceToNat, Int.reduceLE, Int.reduceLT, Int.reduceEq, Int.reduceNeg, reduceCtorEq]
  have hel2 : (A i 0).toNat < n := by omega
  refine ⟨fun e4 => ⟨⟨by kernel_rfl, by kernel_rfl⟩, ⟨by omega, by omega⟩, fun e5 => ?_, fun e5 => ?_⟩, fun e4 => ⟨⟨by kernel_rfl, by kernel_rfl⟩, ⟨by omega, by omega⟩, hel2, p3 i im, ⟨by omega, by omega⟩, hel2, ?_⟩⟩
  · simp only [decide_eq_true_eq] at e4 e5
    rw [ap_fail hm c2 c3 im h4 (er_dup hok (dup_true (k := k) e5 (by omega))) (by omega)]
    exact ⟨⟨rfl, fun i j hi => absurd hi (Nat.not_lt_zero _)⟩, rfl, rfl, rfl⟩
  · simp only [decide_eq_true_eq] at e4
    simp only [decide_eq_false_iff_not] at e5
    refine ⟨⟨k + 1, by omega, fun q hq => ?_⟩, by simp only []; omega, ?_⟩
    · rcases Nat.lt_or_ge q k with h | h
      · exact h5 q h
      · obtain rfl : q = k := by omega
        exact e5
    apply sub_of <;> simp only [wrap_s (show k < i by omega) (by omega), go_sem, ↓reduceIte, Nat.reduceAdd, Nat.reduceSub, Nat.reduceMul, Nat.reduceEqDiff, Nat.reduceLT, Nat.reduceLeDiff, Int.reduceToNat, Int.reduceLE, Int.reduceLT, Int.reduceEq, Int.reduceNeg, reduceCtorEq] <;> (try simp) <;> (try exact fun j _ => Bd_nth (by simp [BdL, Bd]) j) <;> (try exact bd_setL (by simp [bdAs, BdL, Bd])) <;> (try exact nestF_bd _ _ _ _ _ _ _ _ _)
  simp only [decide_eq_false_iff_not] at e4
  obtain rfl : k = i := by omega
  have hb := kp_bound (fun i => c i 0) A M V hf.1 k
  have hb2 : (k : Int) * fee ≤ 64 * fee := Int.mul_le_mul_of_nonneg_right (by omega) hf.1
  have hno : erA n A M V k = 0 := er_no hok (dup_false h5)
  have nx : ∀ j, j < k + 1 → erA n A M V j = 0 := fun j hj => by
    rcases Nat.lt_or_ge j k with h | h
    · exact h4 j h
    · obtain rfl : j = k := by omega
      exact hno
  have new : ∀ e j, j < 1 → (if e = (A k 0).toNat ∧ 0 ≤ j ∧ j < 1 then nth [SV.int .i64 (rvN (fun i => V k i 0) (M k) (cuA (fun i => c i 0) A M V k (A k 0).toNat))] (j - 0) else .int .i64 (cuA (fun i => c i 0) A M V k e)) = .int .i64 (cuA (fun i => c i 0) A M V (k + 1) e) := fun e j hj => by
    obtain rfl : j = 0 := by omega
    by_cases he : e = (A k 0).toNat
    · rw [if_pos ⟨he, by omega, by omega⟩]
      simp only [cuA, if_pos he, nth]
      rw [he]
      rfl
    · rw [if_neg (fun h => he h.1)]
      simp only [cuA, if_neg he]
  refine ⟨fun e6 => ?_, fun e6 => ?_⟩
  · simp only [Bool.not_eq_true'] at e6
    have hkp : kpA (fun i => c i 0) A M V fee (k + 1) = kpA (fun i => c i 0) A M V fee k + fee := by
      have e7 : rvU (vF V k) (M k) (cuA (fun i => c i 0) A M V k (A k 0).toNat) = false := e6
      simp only [kpA]; rw [e7]; simp
    refine ⟨⟨k + 1, by omega, nx⟩, by simp only []; omega, ?_⟩
    apply sub_of <;> simp only [wrap_s im p2, hkp, wrap_id (show -9223372036854775808 ≤ kpA (fun i => c i 0) A M V fee k + fee by omega) (by omega), go_sem, ↓reduceIte, Nat.reduceAdd, Nat.reduceSub, Nat.reduceMul, Nat.reduceEqDiff, Nat.reduceLT, Nat.reduceLeDiff, Int.reduceToNat, Int.reduceLE, Int.reduceLT, Int.reduceEq, Int.reduceNeg, reduceCtorEq]
    all_goals first
      | exact ⟨fun _ _ _ _ => trivial, fun _ _ _ _ => trivial⟩
      | exact ⟨nestF_bd _ _ _ _ _ _ _ _ _, fun _ _ _ _ => trivial⟩
      | skip
    exact ⟨fun _ _ _ _ => trivial, fun e j _ hj => new e j hj⟩
  · simp only [Bool.not_eq_false'] at e6
    have hkp : kpA (fun i => c i 0) A M V fee (k + 1) = kpA (fun i => c i 0) A M V fee k := by
      have e7 : rvU (vF V k) (M k) (cuA (fun i => c i 0) A M V k (A k 0).toNat) = true := e6
      simp only [kpA]; rw [e7]; simp
    refine ⟨⟨k + 1, by omega, nx⟩, by simp only []; omega, ?_⟩
    apply sub_of <;> simp only [wrap_s im p2, hkp, go_sem, ↓reduceIte, Nat.reduceAdd, Nat.reduceSub, Nat.reduceMul, Nat.reduceEqDiff, Nat.reduceLT, Nat.reduceLeDiff, Int.reduceToNat, Int.reduceLE, Int.reduceLT, Int.reduceEq, Int.reduceNeg, reduceCtorEq]
    all_goals first
      | exact ⟨fun _ _ _ _ => trivial, fun _ _ _ _ => trivial⟩
      | exact ⟨nestF_bd _ _ _ _ _ _ _ _ _, fun _ _ _ _ => trivial⟩
      | skip
    exact ⟨fun _ _ _ _ => trivial, fun e j _ hj => new e j hj⟩
end Go.Eng
end

/- panel: appeals, the program. -/
section
namespace Go.Eng
open Go Go.RowKit Go.Proofs
set_option maxRecDepth 100000
set_option maxHeartbeats 4000000
attribute [local irreducible] OwnT DefS
attribute [local irreducible] cel
def appealsBase : BaseF := fun args => match args with
  | [.row n sz_c f_c, .row m sz_A f_A, .int .i64 fee] => some ((sz_c = 1 ∧ IntR n 1 f_c) ∧ (sz_A = 2 ∧ NestR m 2 1 1 f_A) ∧ (n ≤ 1000000 ∧ m ≤ 1000000 ∧ ∀ i, i < m → (nsM 1 f_A) i ≤ 1000000), .tup [.row (apA n (fun i => (ivf f_c) i 0) m (nsA f_A) (nsM 1 f_A) (nsV 1 f_A) fee).n 1 (fun i _ => .int .i64 (cuA (fun i => (ivf f_c) i 0) (nsA f_A) (nsM 1 f_A) (nsV 1 f_A) m i)), .int .i64 (apA n (fun i => (ivf f_c) i 0) m (nsA f_A) (nsM 1 f_A) (nsV 1 f_A) fee).kept, .int .i64 (apA n (fun i => (ivf f_c) i 0) m (nsA f_A) (nsM 1 f_A) (nsV 1 f_A) fee).ix, .int .i64 (apA n (fun i => (ivf f_c) i 0) m (nsA f_A) (nsM 1 f_A) (nsV 1 f_A) fee).e])
  | _ => none
theorem appeals_eq (n : Nat) (sz_c : Nat) (f_c : Nat → Nat → SV) (m : Nat) (sz_A : Nat) (f_A : Nat → Nat → SV) (fee : Int) : appealsBase [.row n sz_c f_c, .row m sz_A f_A, .int .i64 fee] = some ((sz_c = 1 ∧ IntR n 1 f_c) ∧ (sz_A = 2 ∧ NestR m 2 1 1 f_A) ∧ (n ≤ 1000000 ∧ m ≤ 1000000 ∧ ∀ i, i < m → (nsM 1 f_A) i ≤ 1000000), .tup [.row (apA n (fun i => (ivf f_c) i 0) m (nsA f_A) (nsM 1 f_A) (nsV 1 f_A) fee).n 1 (fun i _ => .int .i64 (cuA (fun i => (ivf f_c) i 0) (nsA f_A) (nsM 1 f_A) (nsV 1 f_A) m i)), .int .i64 (apA n (fun i => (ivf f_c) i 0) m (nsA f_A) (nsM 1 f_A) (nsV 1 f_A) fee).kept, .int .i64 (apA n (fun i => (ivf f_c) i 0) m (nsA f_A) (nsM 1 f_A) (nsV 1 f_A) fee).ix, .int .i64 (apA n (fun i => (ivf f_c) i 0) m (nsA f_A) (nsM 1 f_A) (nsV 1 f_A) fee).e]) := rfl
theorem appeals_base : Base Try.prog 22 appealsBase := by
  intro args p v hq hp
  unfold appealsBase at hq
  split at hq
  rotate_left
  · cases hq
  rename_i n sz_c f_c m sz_A f_A fee
  cases hq
  obtain ⟨⟨rfl, i_c⟩, ⟨rfl, i_A⟩, pre⟩ := hp
  refine baseF_of (C := cx [] [(55, 3, cloneBase)] [(42, hasIntBase), (44, withinBase), (49, areVotesBase), (50, reviewBase)] [(22, 17, p22_17)] none) (cx_ok ⟨clone_base, trivial⟩ ⟨hasInt_base, within_base, areVotes_base, review_base, trivial⟩) rfl (g := 22) (fn := Try.f22)
    (args' := [.row n 1 (rowF .i64 (ivf f_c)), .row m 2 (nestF 1 1 (nsA f_A) (nsM 1 f_A) (nsV 1 f_A)), .int .i64 fee]) (fn_22) rfl 1000 (by
    simp only [BdL, Bd, and_self, and_true, true_and]
    exact ⟨(fun i j hi hj => by rw [i_c i j hi hj]; trivial), (fun i j hi hj => nest_bd i_A i j hi hj)⟩) ⟨SameD.int i_c, SameD.nest i_A, SameD.rfl' _, trivial⟩ ?_
  generalize ivf f_c = c at *
  generalize nsA f_A = A at *
  generalize nsM 1 f_A = M at *
  generalize nsV 1 f_A = V at *
  simp only [rowF_eq]
  simp only [hasInt_eq, within_eq, areVotes_eq, review_eq, clone_eq, p22_17, nestF_eq, nestR_lit, nsM_lit, nsV_lit, Try.f22, go_sem, ↓reduceIte, Nat.reduceAdd, Nat.reduceSub, Nat.reduceMul, Nat.reduceEqDiff, Nat.reduceLT, Nat.reduceLeDiff, Int.reduceToNat, Int.reduceLE, Int.reduceLT, Int.reduceEq, Int.reduceNeg, reduceCtorEq]
  obtain ⟨p1, p2, p3⟩ := pre
  have z0 : ∀ (i j : Nat), i < 0 → j < 1 → False := fun i j hi _ => absurd hi (Nat.not_lt_zero _)
  refine ⟨fun c1 => ?_, fun c1 => ⟨fun c2 => ?_, fun c2 => ⟨⟨.inl trivial, p1⟩, fun c2' => ?_, fun c2' => ⟨fun c3 => ?_, fun c3 => ⟨p1, ?_⟩⟩⟩⟩⟩
  · simp only [decide_eq_true_eq] at c1
    rw [ap_long (by omega)]; exact ⟨⟨rfl, z0⟩, rfl, rfl, rfl⟩
  · simp only [decide_eq_false_iff_not] at c1
    simp only [decide_eq_true_eq] at c2
    rw [ap_arg (by omega) (by rw [decide_eq_false (by omega)]; rfl)]; exact ⟨⟨rfl, z0⟩, rfl, rfl, rfl⟩
  · simp only [decide_eq_false_iff_not] at c1
    simp only [Bool.not_eq_true', limG] at c2'
    rw [ap_arg (by omega) (by rw [c2', Bool.and_false])]; exact ⟨⟨rfl, z0⟩, rfl, rfl, rfl⟩
  · simp only [decide_eq_false_iff_not] at c1 c2
    simp only [Bool.not_eq_false', limG] at c2'
    rw [ap_rng (by omega) (by rw [c2', decide_eq_true (by omega)]; rfl) (by simpa only [Bool.not_eq_true'] using c3)]; exact ⟨⟨rfl, z0⟩, rfl, rfl, rfl⟩
  simp only [decide_eq_false_iff_not] at c1 c2
  simp only [Bool.not_eq_false', limG] at c2'
  simp only [Bool.not_eq_false'] at c3
  have hm : ¬ 64 < m := by omega
  have hf := in3_iff.1 c3
  have hn : n ≤ 64 := by omega
  have c4 : (decide (n ≤ 64) && allU (fun i => in3 (c i 0) 0 100) n) = true := by rw [c2', decide_eq_true hn]; rfl
  refine loop_ofH { i : Nat // i ≤ m ∧ ∀ j, j < i → erA n A M V j = 0 } (fun i => [(35, .int .i64 (i.1 : Int)), (34, .int .i64 (m : Int)), (33, .row m 2 (nestF 1 1 A M V)), (10, .ptr 0 0), (7, .int .i64 (kpA (fun i => c i 0) A M V fee i.1)), (6, .vec 1 0), (2, .int .i64 fee), (1, .row m 2 (nestF 1 1 A M V)), (0, .row n 1 fun i j => .int .i64 (c i j))]) (fun _ i => { blks := [.live 95 (cel fun e => .bool (dup A i.1 (e : Int)))], vecs := [.live 0 3 1 0 (fun _ _ => .any), .live 0 3 1 n (fun e _ => .int .i64 (cuA (fun i => c i 0) A M V i.1 e))] }) (fun i => m - i.1) (fun _ => ⟨rfl, rfl⟩) ⟨0, by omega, by omega⟩ (by (apply sub_of <;> simp only [cel_zero, go_sem, ↓reduceIte, Nat.reduceAdd, Nat.reduceSub, Nat.reduceMul, Nat.reduceEqDiff, Nat.reduceLT, Nat.reduceLeDiff, Int.reduceToNat, Int.reduceLE, Int.reduceLT, Int.reduceEq, Int.reduceNeg, reduceCtorEq]) <;> first
    | exact ⟨rfl, fun _ _ _ _ => trivial, rfl, fun _ _ _ _ => trivial, fun _ _ _ _ => trivial⟩
    | exact ⟨fun _ _ _ _ => trivial, fun _ _ _ _ => by first | trivial | (rename_i j _ hj; obtain rfl : j = 0 := (by omega); rfl)⟩
    | exact ⟨nestF_bd _ _ _ _ _ _ _ _ _, nestF_bd _ _ _ _ _ _ _ _ _, fun _ _ _ _ => trivial⟩
    | exact fun _ => trivial
    | trivial) ?_
  rintro ⟨i, hi, h4⟩
  simp only [nth_cel, upd_cel, lenS_cel, over_one, hasInt_eq, within_eq, areVotes_eq, review_eq, clone_eq, p22_17, nestF_eq, nestR_lit, nsM_lit, nsV_lit, Try.f22, go_sem, ↓reduceIte, Nat.reduceAdd, Nat.reduceSub, Nat.reduceMul, Nat.reduceEqDiff, Nat.reduceLT, Nat.reduceLeDiff, Int.reduceToNat, Int.reduceLE, Int.reduceLT, Int.reduceEq, Int.reduceNeg, reduceCtorEq]
  have hw1 : IntKind.i64.wrap ((n : Int) - 1) = (n : Int) - 1 := wrap_id (by omega) (by omega)
  rw [hw1]
  have bad : okA n A M V i = false → i < m → apA n (fun i => c i 0) m A M V fee = ⟨0, 0, (i : Int), 1⟩ := fun h hi => ap_fail hm c4 c3 hi h4 (er_bad h) (by omega)
  refine ⟨fun e1 => ?_, fun e1 => ?_⟩
  rotate_left
  · simp only [decide_eq_false_iff_not] at e1
    obtain rfl : i = m := by omega
    rw [ap_all hm c4 c3 h4]
    exact ⟨⟨rfl, fun _ _ _ _ => rfl⟩, rfl, rfl, rfl⟩
  simp only [decide_eq_true_eq] at e1
  have im : i < m := by omega
  refine ⟨⟨by omega, by omega⟩, fun e2 => ?_, fun e2 => ⟨p3 i im, fun e3 => ?_, fun e3 => ?_⟩⟩
  · simp only [Bool.not_eq_true'] at e2
    rw [bad (by simp only [okA, e2, Bool.false_and]) im]
    exact ⟨⟨rfl, z0⟩, rfl, rfl, rfl⟩
  · simp only [Bool.not_eq_true'] at e3
    rw [bad (by simp only [okA, e3, Bool.and_false]) im]
    exact ⟨⟨rfl, z0⟩, rfl, rfl, rfl⟩
  simp only [Bool.not_eq_false'] at e2 e3
  have hok : okA n A M V i = true := by simp only [okA, e2, e3, Bool.and_self]
  have hel := in3_iff.1 e2
  have hel2 : (A i 0).toNat < n := by omega
  have hel3 : ((A i 0).toNat : Int) = A i 0 := by omega
  have hnth : nth (cel fun e => .bool (dup A i (e : Int))) ((A i 0).toNat * 1) = .bool (dup A i (A i 0)) := by rw [nth_cel _ (by omega), Nat.mul_one, hel3]
  refine ⟨⟨hel.1, by omega⟩, by omega, ?_⟩
  rw [hnth]
  simp only [lenS_cel, over_one, upd_cel, hasInt_eq, within_eq, areVotes_eq, review_eq, clone_eq, p22_17, nestF_eq, nestR_lit, nsM_lit, nsV_lit, Try.f22, go_sem, ↓reduceIte, Nat.reduceAdd, Nat.reduceSub, Nat.reduceMul, Nat.reduceEqDiff, Nat.reduceLT, Nat.reduceLeDiff, Int.reduceToNat, Int.reduceLE, Int.reduceLT, Int.reduceEq, Int.reduceNeg, reduceCtorEq]
  have hcel : cel (fun j => if j = (A i 0).toNat * 1 then SV.bool true else .bool (dup A i (j : Int))) = cel (fun e => .bool (dup A (i + 1) (e : Int))) := by
    congr 1
    funext e
    by_cases he : e = (A i 0).toNat * 1
    · rw [if_pos he]
      simp only [dup, SV.bool.injEq]
      rw [show A i 0 = (e : Int) by omega]
      simp
    · rw [if_neg he]
      simp only [dup, SV.bool.injEq]
      rw [decide_eq_false (by omega), Bool.or_false]
  have hb := kp_bound (fun i => c i 0) A M V hf.1 i
  have hb2 : (i : Int) * fee ≤ 64 * fee := Int.mul_le_mul_of_nonneg_right (by omega) hf.1
  have new : ∀ e j, j < 1 → (if e = (A i 0).toNat ∧ 0 ≤ j ∧ j < 1 then nth [SV.int .i64 (rvN (fun i_1 => V i i_1 0) (M i) (cuA (fun i => c i 0) A M V i (A i 0).toNat))] (j - 0) else .int .i64 (cuA (fun i => c i 0) A M V i e)) = .int .i64 (cuA (fun i => c i 0) A M V (i + 1) e) := fun e j hj => by
    obtain rfl : j = 0 := by omega
    by_cases he : e = (A i 0).toNat
    · rw [if_pos ⟨he, by omega, by omega⟩]
      simp only [cuA, if_pos he, nth]
      rw [he]
      rfl
    · rw [if_neg (fun h => he h.1)]
      simp only [cuA, if_neg he]
  refine ⟨fun e4 => ?_, fun e4 => ⟨⟨hel.1, by omega⟩, by omega, ⟨by kernel_rfl, by kernel_rfl⟩, ⟨by omega, by omega⟩, hel2, p3 i im, ⟨by omega, by omega⟩, hel2, fun e6 => ?_, fun e6 => ?_⟩⟩
  · rw [ap_fail hm c4 c3 im h4 (er_dup hok e4) (by omega)]
    exact ⟨⟨rfl, z0⟩, rfl, rfl, rfl⟩
  all_goals (
    have hno : erA n A M V i = 0 := er_no hok e4
    have nx : ∀ j, j < i + 1 → erA n A M V j = 0 := fun j hj => by
      rcases Nat.lt_or_ge j i with h | h
      · exact h4 j h
      · obtain rfl : j = i := by omega
        exact hno)
  · simp only [Bool.not_eq_true'] at e6
    have hkp : kpA (fun i => c i 0) A M V fee (i + 1) = kpA (fun i => c i 0) A M V fee i + fee := by
      have e7 : rvU (vF V i) (M i) (cuA (fun i => c i 0) A M V i (A i 0).toNat) = false := e6
      simp only [kpA]; rw [e7]; simp
    refine ⟨⟨i + 1, by omega, nx⟩, by simp only []; omega, ?_⟩
    apply sub_of <;> simp only [upd_cel, hcel, wrap_s im p2, hkp, wrap_id (show -9223372036854775808 ≤ kpA (fun i => c i 0) A M V fee i + fee by omega) (by omega), go_sem, ↓reduceIte, Nat.reduceAdd, Nat.reduceSub, Nat.reduceMul, Nat.reduceEqDiff, Nat.reduceLT, Nat.reduceLeDiff, Int.reduceToNat, Int.reduceLE, Int.reduceLT, Int.reduceEq, Int.reduceNeg, reduceCtorEq]
    · exact ⟨fun _ _ _ _ => trivial, fun _ _ _ _ => trivial, fun _ _ _ _ => trivial⟩
    · exact sub_cel _
    · exact ⟨fun _ _ _ _ => trivial, fun e j _ hj => new e j hj⟩
    · exact ⟨nestF_bd _ _ _ _ _ _ _ _ _, nestF_bd _ _ _ _ _ _ _ _ _, fun _ _ _ _ => trivial⟩
    · exact bd_cel _ _ _
    · exact ⟨fun _ _ _ _ => trivial, fun _ _ _ _ => trivial⟩
  · simp only [Bool.not_eq_false'] at e6
    have hkp : kpA (fun i => c i 0) A M V fee (i + 1) = kpA (fun i => c i 0) A M V fee i := by
      have e7 : rvU (vF V i) (M i) (cuA (fun i => c i 0) A M V i (A i 0).toNat) = true := e6
      simp only [kpA]; rw [e7]; simp
    refine ⟨⟨i + 1, by omega, nx⟩, by simp only []; omega, ?_⟩
    apply sub_of <;> simp only [upd_cel, hcel, wrap_s im p2, hkp, go_sem, ↓reduceIte, Nat.reduceAdd, Nat.reduceSub, Nat.reduceMul, Nat.reduceEqDiff, Nat.reduceLT, Nat.reduceLeDiff, Int.reduceToNat, Int.reduceLE, Int.reduceLT, Int.reduceEq, Int.reduceNeg, reduceCtorEq]
    · exact ⟨fun _ _ _ _ => trivial, fun _ _ _ _ => trivial, fun _ _ _ _ => trivial⟩
    · exact sub_cel _
    · exact ⟨fun _ _ _ _ => trivial, fun e j _ hj => new e j hj⟩
    · exact ⟨nestF_bd _ _ _ _ _ _ _ _ _, nestF_bd _ _ _ _ _ _ _ _ _, fun _ _ _ _ => trivial⟩
    · exact bd_cel _ _ _
    · exact ⟨fun _ _ _ _ => trivial, fun _ _ _ _ => trivial⟩
end Go.Eng
end

/- panel: PanelCalls. -/
section
namespace Go.Eng
open Go Go.RowKit Go.Proofs
set_option maxRecDepth 100000
set_option maxHeartbeats 4000000
attribute [local irreducible] OwnT DefS
/-- What votes on a call tell. -/
def rvK (now : Int) (n : Nat) (v : Nat → Nat → Int) : Bool := in3 now 0 100 && (in3 (n : Int) 1 9 && allU (fun i => in3 (v i 0) 0 100) n)
def rvA (now : Int) (n : Nat) (v : Nat → Nat → Int) : Int := if rvK now n v = true then rvN (fun i => v i 0) n now else 0
def rvC (now : Int) (n : Nat) (v : Nat → Nat → Int) : Bool := rvK now n v && rvU (fun i => v i 0) n now
def rvE (now : Int) (n : Nat) (v : Nat → Nat → Int) : Int := if rvK now n v = true then 0 else 1
theorem rv_no {now : Int} {n : Nat} {v : Nat → Nat → Int} (h : rvK now n v = false) : rvA now n v = 0 ∧ rvC now n v = false ∧ rvE now n v = 1 := by simp [rvA, rvC, rvE, h]
theorem rv_yes {now : Int} {n : Nat} {v : Nat → Nat → Int} (h : rvK now n v = true) : rvA now n v = rvN (fun i => v i 0) n now ∧ rvC now n v = rvU (fun i => v i 0) n now ∧ rvE now n v = 0 := by simp [rvA, rvC, rvE, h]
def ReviewRBase : BaseF := fun args => match args with
  | [.int .i64 now, .row n sz_v f_v] => some ((sz_v = 1 ∧ IntR n 1 f_v) ∧ (n ≤ 1000000), .tup [.int .i64 (rvA now n (ivf f_v)), .bool (rvC now n (ivf f_v)), .int .i64 (rvE now n (ivf f_v))])
  | _ => none
theorem ReviewR_eq (now : Int) (n : Nat) (sz_v : Nat) (f_v : Nat → Nat → SV) : ReviewRBase [.int .i64 now, .row n sz_v f_v] = some ((sz_v = 1 ∧ IntR n 1 f_v) ∧ (n ≤ 1000000), .tup [.int .i64 (rvA now n (ivf f_v)), .bool (rvC now n (ivf f_v)), .int .i64 (rvE now n (ivf f_v))]) := rfl
theorem ReviewR_base : Base Try.prog 21 ReviewRBase := by
  intro args p v hq hp
  unfold ReviewRBase at hq
  split at hq
  rotate_left
  · cases hq
  rename_i now n sz_v f_v
  cases hq
  obtain ⟨⟨rfl, i_v⟩, pre⟩ := hp
  refine base_of (C := cx [] [] [(51, inBase), (52, votesRBase), (53, reviewRBase)] [] none) (cx_ok trivial ⟨in_base, votesR_base, reviewR_base, trivial⟩) rfl (g := 21) (fn := Try.f21)
    (args' := [.int .i64 now, .row n 1 (rowF .i64 (ivf f_v))]) (fn_21) rfl 1000 (by
    simp only [BdL, Bd, and_self, and_true, true_and]
    exact (fun i j hi hj => by rw [i_v i j hi hj]; trivial)) ⟨SameD.rfl' _, SameD.int i_v, trivial⟩ ?_
  generalize ivf f_v = v at *
  simp only [rowF_eq]
  simp only [in_eq, votesR_eq, reviewR_eq, Try.f21, go_sem, ↓reduceIte, Nat.reduceAdd, Nat.reduceSub, Nat.reduceMul, Nat.reduceEqDiff, Nat.reduceLT, Nat.reduceLeDiff, Int.reduceToNat, Int.reduceLE, Int.reduceLT, Int.reduceEq, Int.reduceNeg, reduceCtorEq]
  refine ⟨fun a1 => ?_, fun a1 => ⟨pre, fun a2 => ?_, fun a2 => ⟨pre, ?_⟩⟩⟩
  · simp only [Bool.not_eq_true'] at a1
    obtain ⟨r1, r2, r3⟩ := rv_no (now := now) (n := n) (v := v) (by simp only [rvK, a1, Bool.false_and])
    rw [r1, r2, r3]
  · simp only [Bool.not_eq_true'] at a2
    obtain ⟨r1, r2, r3⟩ := rv_no (now := now) (n := n) (v := v) (by simp only [rvK, a2, Bool.and_false])
    rw [r1, r2, r3]
  · simp only [Bool.not_eq_false'] at a1 a2
    obtain ⟨r1, r2, r3⟩ := rv_yes (now := now) (n := n) (v := v) (by simp only [rvK, a1, a2, Bool.and_self])
    rw [r1, r2, r3]
def ReviewBase : BaseF := fun args => match args with
  | [.int .i64 now, .row n sz_v f_v] => some ((sz_v = 1 ∧ IntR n 1 f_v) ∧ (n ≤ 1000000), .tup [.int .i64 (rvA now n (ivf f_v)), .bool (rvC now n (ivf f_v)), .int .i64 (rvE now n (ivf f_v))])
  | _ => none
theorem Review_eq (now : Int) (n : Nat) (sz_v : Nat) (f_v : Nat → Nat → SV) : ReviewBase [.int .i64 now, .row n sz_v f_v] = some ((sz_v = 1 ∧ IntR n 1 f_v) ∧ (n ≤ 1000000), .tup [.int .i64 (rvA now n (ivf f_v)), .bool (rvC now n (ivf f_v)), .int .i64 (rvE now n (ivf f_v))]) := rfl
theorem Review_base : Base Try.prog 20 ReviewBase := by
  intro args p v hq hp
  unfold ReviewBase at hq
  split at hq
  rotate_left
  · cases hq
  rename_i now n sz_v f_v
  cases hq
  obtain ⟨⟨rfl, i_v⟩, pre⟩ := hp
  refine base_of (C := cx [] [] [(48, isCallBase), (49, areVotesBase), (50, reviewBase)] [] none) (cx_ok trivial ⟨isCall_base, areVotes_base, review_base, trivial⟩) rfl (g := 20) (fn := Try.f20)
    (args' := [.int .i64 now, .row n 1 (rowF .i64 (ivf f_v))]) (fn_20) rfl 1000 (by
    simp only [BdL, Bd, and_self, and_true, true_and]
    exact (fun i j hi hj => by rw [i_v i j hi hj]; trivial)) ⟨SameD.rfl' _, SameD.int i_v, trivial⟩ ?_
  generalize ivf f_v = v at *
  simp only [rowF_eq]
  simp only [isCall_eq, areVotes_eq, review_eq, Try.f20, go_sem, ↓reduceIte, Nat.reduceAdd, Nat.reduceSub, Nat.reduceMul, Nat.reduceEqDiff, Nat.reduceLT, Nat.reduceLeDiff, Int.reduceToNat, Int.reduceLE, Int.reduceLT, Int.reduceEq, Int.reduceNeg, reduceCtorEq]
  refine ⟨fun a1 => ?_, fun a1 => ⟨pre, fun a2 => ?_, fun a2 => ⟨pre, ?_⟩⟩⟩
  · simp only [Bool.not_eq_true'] at a1
    obtain ⟨r1, r2, r3⟩ := rv_no (now := now) (n := n) (v := v) (by simp only [rvK, a1, Bool.false_and])
    rw [r1, r2, r3]
  · simp only [Bool.not_eq_true'] at a2
    obtain ⟨r1, r2, r3⟩ := rv_no (now := now) (n := n) (v := v) (by simp only [rvK, a2, Bool.and_false])
    rw [r1, r2, r3]
  · simp only [Bool.not_eq_false'] at a1 a2
    obtain ⟨r1, r2, r3⟩ := rv_yes (now := now) (n := n) (v := v) (by simp only [rvK, a1, a2, Bool.and_self])
    rw [r1, r2, r3]
/-- Are there votes of more than 12? -/
def voB (m : Nat) (M : Nat → Nat) : Bool := !allU (fun i => decide (M i ≤ 12)) (min m 70) || decide (68 < m)
def votesBase : BaseF := fun args => match args with
  | [.row m sz_A f_A] => some ((sz_A = 2 ∧ NestR m 2 1 1 f_A), .bool (voB m (nsM 1 f_A)))
  | _ => none
theorem votes_eq (m : Nat) (sz_A : Nat) (f_A : Nat → Nat → SV) : votesBase [.row m sz_A f_A] = some ((sz_A = 2 ∧ NestR m 2 1 1 f_A), .bool (voB m (nsM 1 f_A))) := rfl
theorem votes_base : Base Try.prog 19 votesBase := by
  intro args p v hq hp
  unfold votesBase at hq
  split at hq
  rotate_left
  · cases hq
  rename_i m sz_A f_A
  cases hq
  obtain ⟨rfl, i_A⟩ := hp
  refine base_of (C := cx [] [] [] [] none) (cx_ok trivial trivial) rfl (g := 19) (fn := Try.f19)
    (args' := [.row m 2 (nestF 1 1 (nsA f_A) (nsM 1 f_A) (nsV 1 f_A))]) (fn_19) rfl 1000 (by
    simp only [BdL, Bd, and_self, and_true, true_and]
    exact (fun i j hi hj => nest_bd i_A i j hi hj)) ⟨SameD.nest i_A, trivial⟩ ?_
  generalize nsA f_A = A
  generalize nsM 1 f_A = M
  generalize nsV 1 f_A = V
  simp only [nestF_eq, nestR_lit, nsM_lit, nsV_lit, Try.f19, go_sem, ↓reduceIte, Nat.reduceAdd, Nat.reduceSub, Nat.reduceMul, Nat.reduceEqDiff, Nat.reduceLT, Nat.reduceLeDiff, Int.reduceToNat, Int.reduceLE, Int.reduceLT, Int.reduceEq, Int.reduceNeg, reduceCtorEq]
  refine loop_ofH { i : Nat // i ≤ m ∧ i ≤ 70 ∧ ∀ j, j < i → (fun i => decide (M i ≤ 12)) j = true } (fun i => [(3, .int .i64 (i.1 : Int)), (0, .row m 2 (nestF 1 1 A M V))]) (fun h _ => h) (fun i => m - i.1) (fun _ => ⟨rfl, rfl⟩) ⟨0, by omega, by omega, by omega⟩ (by (apply sub_of <;> simp only [go_sem, ↓reduceIte, Nat.reduceAdd, Nat.reduceSub, Nat.reduceMul, Nat.reduceEqDiff, Nat.reduceLT, Nat.reduceLeDiff, Int.reduceToNat, Int.reduceLE, Int.reduceLT, Int.reduceEq, Int.reduceNeg, reduceCtorEq] <;> (try simp [catF]) <;> (try exact fun j _ => Bd_nth (by simp [BdL, Bd]) j) <;> (try exact bd_setL (by simp [bdAs, BdL, Bd])) <;> (try exact nestF_bd _ _ _ _ _ _ _ _ _))) ?_
  rintro ⟨i, hi, hi2, h3⟩
  simp only [nestF_eq, nestR_lit, nsM_lit, nsV_lit, Try.f19, go_sem, ↓reduceIte, Nat.reduceAdd, Nat.reduceSub, Nat.reduceMul, Nat.reduceEqDiff, Nat.reduceLT, Nat.reduceLeDiff, Int.reduceToNat, Int.reduceLE, Int.reduceLT, Int.reduceEq, Int.reduceNeg, reduceCtorEq]
  refine ⟨fun e1 => ?_, fun e1 => ?_⟩
  · simp only [decide_eq_true_eq] at e1
    refine ⟨fun e2 => ⟨⟨by omega, by omega⟩, fun e3 => ?_, fun e3 => ?_⟩, fun e2 => ?_⟩
    · simp only [decide_eq_true_eq] at e2 e3
      simp only [voB]
      rw [allU_false (p := fun i => decide (M i ≤ 12)) (i := i) (by omega) (by simp only [decide_eq_false_iff_not]; omega)]
      rfl
    · simp only [decide_eq_true_eq] at e2
      simp only [decide_eq_false_iff_not] at e3
      refine ⟨⟨i + 1, by omega, by omega, below h3 (by simp only [decide_eq_true_eq]; omega)⟩, by simp only []; omega, ?_⟩
      apply sub_of <;> simp only [wrap_s (show i < 70 by omega) (by omega), go_sem, ↓reduceIte, Nat.reduceAdd, Nat.reduceSub, Nat.reduceMul, Nat.reduceEqDiff, Nat.reduceLT, Nat.reduceLeDiff, Int.reduceToNat, Int.reduceLE, Int.reduceLT, Int.reduceEq, Int.reduceNeg, reduceCtorEq] <;> (try simp) <;> (try exact fun j _ => Bd_nth (by simp [BdL, Bd]) j) <;> (try exact bd_setL (by simp [bdAs, BdL, Bd])) <;> (try exact nestF_bd _ _ _ _ _ _ _ _ _)
      all_goals exact nestF_bd _ _ _ _ _ _ _ _ _
    · simp only [decide_eq_false_iff_not] at e2
      simp only [voB]
      rw [show min m 70 = i by omega, allU_true h3]
      simp
      omega
  · simp only [decide_eq_false_iff_not] at e1
    simp only [voB]
    rw [show min m 70 = i by omega, allU_true h3]
    simp
    omega
theorem voB_false {m : Nat} {M : Nat → Nat} (h : voB m M = false) : m ≤ 68 ∧ ∀ i, i < m → M i ≤ 12 := by
  simp only [voB, Bool.or_eq_false_iff, Bool.not_eq_false', decide_eq_false_iff_not] at h
  refine ⟨by omega, fun i hi => ?_⟩
  have := allU_iff.1 h.1 i (by omega)
  simpa using this
end Go.Eng
end
