/-
  A part of the symbolic machine, of its soundness, and of what functions compute. No condition.
-/
import Derived.Test.YtmpcdcphgepeiaaE3
set_option linter.unusedSimpArgs false
set_option linter.unusedVariables false
/- Ways through the regions whose order is drawn. -/
section
namespace Go.Eng
def p4_8 : Plan := .quiet 0 (.quiet 1 (.quiet 2 (.quiet 3 (.quiet 4 (.quiet 5 (.quiet 6 (.quiet 7 (.quiet 8 (.quiet 9 (.quiet 10 (.quiet 11 (.quiet 14 (.quiet 15 (.quiet 16 (.quiet 17 (.quiet 18 (.quiet 19 (.quiet 20 (.quiet 21 (.quiet 22 (.quiet 23 (.quiet 24 (.quiet 25 (.loud 12 [0, 1, 14, 15, 16, 17, 22, 24, 25] (.loud 13 [14, 15, 16, 17, 22, 24, 25] (.quiet 26 (.loud 27 [14, 15] (.loud 28 [] (.quiet 29 (.loud 30 [] (.quiet 31 (.loud 32 [] (.done)))))))))))))))))))))))))))))))))
def p4_29 : Plan := .quiet 0 (.quiet 1 (.quiet 2 (.quiet 3 (.quiet 4 (.quiet 5 (.quiet 6 (.quiet 7 (.quiet 8 (.quiet 9 (.quiet 10 (.quiet 11 (.quiet 12 (.quiet 13 (.quiet 14 (.quiet 15 (.quiet 16 (.quiet 17 (.quiet 18 (.quiet 19 (.quiet 20 (.quiet 21 (.quiet 22 (.quiet 23 (.quiet 24 (.quiet 25 (.quiet 26 (.quiet 27 (.quiet 28 (.quiet 29 (.quiet 30 (.quiet 31 (.done))))))))))))))))))))))))))))))))
def p5_13 : Plan := .quiet 0 (.quiet 1 (.quiet 2 (.quiet 3 (.quiet 4 (.quiet 6 (.quiet 7 (.quiet 8 (.quiet 9 (.quiet 14 (.quiet 15 (.quiet 16 (.quiet 17 (.quiet 18 (.quiet 20 (.quiet 21 (.quiet 22 (.quiet 23 (.loud 5 [7, 8, 9, 16, 17, 18, 21, 22, 23] (.loud 10 [16, 17, 18, 21, 22, 23] (.quiet 11 (.loud 12 [16, 17, 18, 21, 22, 23] (.loud 13 [16, 17, 18, 21, 22, 23] (.loud 19 [21, 22, 23] (.loud 24 [] (.quiet 25 (.loud 26 [] (.loud 27 [] (.quiet 28 (.quiet 29 (.done))))))))))))))))))))))))))))))
def p5_19 : Plan := .quiet 0 (.quiet 1 (.both (.loud 2 [0, 1] (.loud 3 [0, 1] (.loud 4 [1] (.loud 5 [] (.done))))) (.loud 3 [0, 1] (.loud 2 [0, 1] (.loud 4 [1] (.loud 5 [] (.done)))))))
def p5_25 : Plan := .quiet 0 (.quiet 1 (.quiet 2 (.quiet 3 (.quiet 5 (.quiet 6 (.quiet 7 (.quiet 8 (.loud 4 [6, 7, 8] (.quiet 10 (.loud 9 [10] (.loud 11 [] (.quiet 12 (.loud 13 [] (.done))))))))))))))
def p5_21 : Plan := .quiet 0 (.quiet 1 (.quiet 2 (.quiet 3 (.quiet 5 (.quiet 6 (.quiet 7 (.quiet 8 (.loud 4 [6, 7, 8] (.quiet 10 (.loud 9 [10] (.loud 11 [] (.quiet 12 (.loud 13 [] (.done))))))))))))))
def p5_26 : Plan := .quiet 0 (.quiet 1 (.quiet 4 (.quiet 5 (.both (.loud 2 [5] (.both (.loud 3 [5] (.loud 6 [] (.loud 7 [] (.quiet 8 (.quiet 9 (.done)))))) (.loud 6 [] (.loud 3 [] (.loud 7 [] (.quiet 8 (.quiet 9 (.done)))))))) (.loud 6 [1] (.loud 2 [] (.loud 3 [] (.loud 7 [] (.quiet 8 (.quiet 9 (.done)))))))))))
def p5_35 : Plan := .quiet 0 (.quiet 1 (.quiet 2 (.quiet 3 (.quiet 4 (.quiet 5 (.quiet 6 (.quiet 7 (.quiet 8 (.loud 9 [2, 3, 4] (.quiet 10 (.quiet 11 (.quiet 12 (.quiet 13 (.quiet 14 (.quiet 15 (.quiet 16 (.quiet 17 (.quiet 18 (.quiet 19 (.quiet 20 (.loud 21 [14, 15, 16] (.quiet 22 (.quiet 23 (.quiet 24 (.quiet 25 (.quiet 26 (.quiet 27 (.quiet 28 (.quiet 29 (.quiet 30 (.quiet 31 (.quiet 32 (.quiet 33 (.loud 34 [27, 28, 29] (.quiet 35 (.quiet 36 (.quiet 37 (.quiet 38 (.quiet 39 (.quiet 40 (.quiet 41 (.quiet 42 (.quiet 43 (.quiet 44 (.quiet 45 (.quiet 46 (.loud 47 [40, 41, 42] (.quiet 48 (.quiet 49 (.done))))))))))))))))))))))))))))))))))))))))))))))))))
def p6_12 : Plan := .quiet 0 (.quiet 1 (.quiet 2 (.quiet 3 (.quiet 4 (.quiet 6 (.quiet 7 (.quiet 8 (.quiet 9 (.quiet 10 (.quiet 12 (.quiet 13 (.quiet 14 (.quiet 15 (.quiet 16 (.both (.loud 5 [7, 8, 9, 10, 13, 14, 15, 16] (.both (.loud 11 [13, 14, 15, 16] (.both (.loud 17 [] (.quiet 18 (.loud 19 [18] (.loud 20 [] (.done))))) (.loud 19 [13, 14, 15, 16] (.loud 17 [] (.quiet 18 (.loud 20 [] (.done))))))) (.loud 19 [7, 8, 9, 10, 13, 14, 15, 16] (.loud 11 [13, 14, 15, 16] (.loud 17 [] (.quiet 18 (.loud 20 [] (.done)))))))) (.loud 19 [1, 2, 3, 4, 7, 8, 9, 10, 13, 14, 15, 16] (.loud 5 [7, 8, 9, 10, 13, 14, 15, 16] (.loud 11 [13, 14, 15, 16] (.loud 17 [] (.quiet 18 (.loud 20 [] (.done))))))))))))))))))))))
def p6_26 : Plan := .quiet 0 (.quiet 1 (.quiet 2 (.quiet 3 (.quiet 4 (.quiet 5 (.quiet 6 (.quiet 7 (.quiet 8 (.quiet 9 (.quiet 10 (.quiet 11 (.quiet 12 (.quiet 13 (.quiet 14 (.quiet 15 (.quiet 16 (.quiet 17 (.quiet 18 (.quiet 19 (.quiet 20 (.done)))))))))))))))))))))
def p7_14 : Plan := .quiet 0 (.quiet 1 (.quiet 3 (.quiet 4 (.loud 2 [3] (.quiet 5 (.quiet 6 (.quiet 7 (.quiet 8 (.quiet 9 (.quiet 10 (.done)))))))))))
def p9_16 : Plan := .quiet 0 (.quiet 1 (.quiet 2 (.quiet 3 (.quiet 4 (.quiet 5 (.quiet 6 (.quiet 7 (.quiet 8 (.done)))))))))
def p13_5 : Plan := .quiet 0 (.quiet 1 (.quiet 2 (.quiet 3 (.quiet 4 (.quiet 5 (.quiet 6 (.quiet 7 (.quiet 8 (.quiet 9 (.quiet 10 (.quiet 11 (.quiet 12 (.quiet 13 (.quiet 14 (.quiet 15 (.quiet 16 (.quiet 17 (.quiet 18 (.quiet 19 (.quiet 20 (.quiet 21 (.quiet 22 (.quiet 23 (.quiet 24 (.quiet 25 (.quiet 26 (.done)))))))))))))))))))))))))))
def p17_1 : Plan := .quiet 0 (.quiet 1 (.quiet 2 (.quiet 3 (.quiet 4 (.quiet 5 (.quiet 6 (.quiet 7 (.quiet 8 (.quiet 9 (.quiet 10 (.quiet 11 (.quiet 12 (.done)))))))))))))
def p19_2 : Plan := .quiet 0 (.loud 1 [0] (.loud 2 [] (.quiet 3 (.quiet 4 (.done)))))
def p19_4 : Plan := .quiet 0 (.loud 1 [0] (.loud 2 [] (.quiet 3 (.quiet 4 (.done)))))
def p19_8 : Plan := .quiet 0 (.quiet 1 (.quiet 2 (.loud 3 [0] (.loud 4 [] (.quiet 5 (.quiet 6 (.done)))))))
def p19_11 : Plan := .quiet 0 (.quiet 1 (.quiet 2 (.quiet 3 (.quiet 4 (.quiet 5 (.quiet 6 (.quiet 7 (.quiet 8 (.quiet 9 (.loud 10 [0] (.loud 11 [] (.loud 12 [] (.done)))))))))))))
def p19_12 : Plan := .quiet 0 (.quiet 1 (.quiet 2 (.quiet 3 (.quiet 4 (.quiet 5 (.quiet 6 (.quiet 7 (.quiet 8 (.quiet 9 (.quiet 10 (.quiet 11 (.quiet 12 (.quiet 13 (.quiet 14 (.quiet 15 (.loud 16 [3, 4, 7, 8, 11, 12, 13, 15] (.loud 17 [15] (.quiet 18 (.quiet 19 (.done))))))))))))))))))))
def p20_8 : Plan := .quiet 0 (.quiet 1 (.quiet 2 (.quiet 3 (.quiet 4 (.quiet 5 (.quiet 6 (.quiet 7 (.quiet 8 (.done)))))))))
def p20_15 : Plan := .quiet 0 (.quiet 1 (.quiet 2 (.quiet 3 (.quiet 4 (.quiet 5 (.quiet 6 (.quiet 7 (.quiet 8 (.quiet 9 (.quiet 10 (.quiet 11 (.quiet 12 (.loud 13 [] (.done))))))))))))))
def p20_17 : Plan := .quiet 0 (.quiet 1 (.quiet 2 (.quiet 3 (.quiet 4 (.quiet 5 (.quiet 6 (.quiet 7 (.quiet 8 (.quiet 9 (.quiet 10 (.quiet 11 (.quiet 12 (.done)))))))))))))
def p25_6 : Plan := .quiet 0 (.quiet 1 (.quiet 2 (.quiet 3 (.quiet 4 (.quiet 5 (.quiet 6 (.quiet 7 (.quiet 8 (.done)))))))))
def p26_4 : Plan := .quiet 0 (.quiet 1 (.quiet 2 (.quiet 3 (.quiet 4 (.quiet 5 (.quiet 6 (.quiet 7 (.done))))))))
def p30_9 : Plan := .quiet 0 (.quiet 1 (.quiet 2 (.quiet 3 (.quiet 4 (.quiet 5 (.quiet 6 (.quiet 7 (.quiet 8 (.quiet 9 (.quiet 10 (.quiet 11 (.quiet 12 (.quiet 13 (.quiet 14 (.done)))))))))))))))
def p31_6 : Plan := .quiet 0 (.quiet 1 (.quiet 2 (.quiet 3 (.quiet 4 (.quiet 5 (.quiet 6 (.quiet 7 (.quiet 8 (.done)))))))))
def p33_4 : Plan := .quiet 0 (.quiet 1 (.loud 2 [] (.quiet 3 (.quiet 4 (.quiet 5 (.quiet 6 (.quiet 7 (.quiet 8 (.quiet 9 (.quiet 10 (.quiet 11 (.quiet 12 (.quiet 13 (.quiet 14 (.done)))))))))))))))
def p33_6 : Plan := .quiet 0 (.quiet 1 (.quiet 2 (.quiet 3 (.both (.loud 4 [0] (.quiet 5 (.quiet 6 (.quiet 7 (.loud 8 [0, 5, 6, 7] (.loud 9 [] (.done))))))) (.loud 8 [0, 1, 2] (.loud 4 [0] (.quiet 5 (.quiet 6 (.quiet 7 (.loud 9 [] (.done)))))))))))
def p43_7 : Plan := .quiet 0 (.quiet 1 (.quiet 2 (.quiet 3 (.quiet 4 (.quiet 5 (.quiet 6 (.quiet 7 (.quiet 8 (.loud 9 [] (.done))))))))))
def p43_8 : Plan := .quiet 0 (.quiet 1 (.quiet 3 (.loud 2 [3] (.quiet 4 (.done)))))
def p52_11 : Plan := .quiet 0 (.quiet 1 (.quiet 2 (.quiet 3 (.quiet 4 (.quiet 5 (.quiet 6 (.loud 7 [] (.done))))))))
def p54_14 : Plan := .quiet 0 (.quiet 1 (.quiet 2 (.quiet 3 (.quiet 4 (.quiet 5 (.quiet 6 (.quiet 7 (.quiet 8 (.quiet 9 (.quiet 10 (.quiet 11 (.quiet 12 (.both (.loud 13 [2, 3, 6, 7, 8] (.loud 14 [2, 3, 6, 7, 8] (.loud 15 [] (.loud 16 [] (.quiet 17 (.done)))))) (.loud 14 [2, 3, 6, 7, 8] (.loud 13 [2, 3, 6, 7, 8] (.loud 15 [] (.loud 16 [] (.quiet 17 (.done)))))))))))))))))))
def p54_18 : Plan := .quiet 0 (.quiet 1 (.quiet 2 (.quiet 3 (.quiet 4 (.quiet 5 (.quiet 6 (.quiet 7 (.quiet 8 (.quiet 9 (.quiet 10 (.quiet 11 (.quiet 12 (.quiet 13 (.quiet 14 (.quiet 15 (.loud 16 [] (.done)))))))))))))))))
def p54_19 : Plan := .quiet 0 (.quiet 1 (.quiet 2 (.quiet 3 (.quiet 4 (.loud 5 [3] (.quiet 6 (.quiet 7 (.done))))))))
def p60_1 : Plan := .quiet 0 (.quiet 1 (.quiet 2 (.quiet 3 (.quiet 4 (.quiet 5 (.quiet 6 (.quiet 7 (.done))))))))
def p62_1 : Plan := .quiet 0 (.quiet 1 (.quiet 2 (.quiet 3 (.quiet 4 (.quiet 5 (.quiet 6 (.quiet 7 (.quiet 8 (.done)))))))))
def p63_6 : Plan := .quiet 0 (.quiet 1 (.quiet 2 (.quiet 3 (.quiet 4 (.quiet 5 (.quiet 6 (.quiet 7 (.quiet 8 (.quiet 9 (.quiet 10 (.quiet 11 (.quiet 12 (.quiet 13 (.quiet 14 (.quiet 15 (.quiet 16 (.quiet 17 (.quiet 18 (.quiet 19 (.quiet 20 (.quiet 21 (.quiet 22 (.quiet 23 (.quiet 24 (.quiet 25 (.quiet 26 (.quiet 27 (.quiet 28 (.quiet 29 (.done))))))))))))))))))))))))))))))
def p71_1 : Plan := .quiet 0 (.quiet 1 (.quiet 2 (.quiet 3 (.quiet 4 (.quiet 5 (.quiet 6 (.quiet 7 (.quiet 8 (.quiet 9 (.quiet 10 (.quiet 11 (.quiet 12 (.quiet 13 (.quiet 14 (.quiet 15 (.quiet 16 (.quiet 17 (.quiet 18 (.quiet 19 (.quiet 20 (.quiet 21 (.quiet 22 (.done)))))))))))))))))))))))
def p73_8 : Plan := .quiet 0 (.quiet 1 (.loud 2 [1] (.loud 3 [] (.quiet 4 (.done)))))
def p73_18 : Plan := .quiet 0 (.quiet 1 (.loud 2 [1] (.loud 3 [] (.quiet 4 (.done)))))
def p73_21 : Plan := .quiet 0 (.quiet 1 (.loud 2 [1] (.loud 3 [] (.quiet 4 (.done)))))
def p78_4 : Plan := .quiet 0 (.quiet 1 (.quiet 2 (.quiet 3 (.quiet 4 (.quiet 6 (.quiet 7 (.quiet 8 (.quiet 9 (.quiet 10 (.quiet 11 (.loud 5 [10, 11] (.loud 12 [] (.quiet 13 (.done))))))))))))))
def p81_1 : Plan := .quiet 0 (.quiet 1 (.quiet 2 (.quiet 3 (.quiet 4 (.quiet 5 (.quiet 6 (.quiet 7 (.quiet 8 (.loud 9 [] (.done))))))))))
def p81_2 : Plan := .quiet 0 (.quiet 1 (.quiet 2 (.quiet 3 (.quiet 4 (.quiet 5 (.quiet 6 (.quiet 7 (.quiet 8 (.loud 9 [] (.done))))))))))
def p82_1 : Plan := .quiet 0 (.quiet 1 (.quiet 2 (.quiet 3 (.quiet 4 (.quiet 5 (.quiet 6 (.loud 7 [0, 1, 3, 4] (.quiet 8 (.quiet 9 (.quiet 10 (.loud 11 [] (.done))))))))))))
def p83_1 : Plan := .quiet 0 (.quiet 1 (.quiet 2 (.quiet 3 (.quiet 4 (.quiet 5 (.loud 6 [2, 3, 4, 5] (.loud 7 [] (.done))))))))
def p83_2 : Plan := .quiet 0 (.quiet 1 (.quiet 2 (.quiet 3 (.quiet 4 (.quiet 5 (.quiet 6 (.quiet 7 (.quiet 8 (.loud 9 [] (.done))))))))))
def p84_1 : Plan := .quiet 0 (.quiet 1 (.quiet 2 (.quiet 3 (.quiet 4 (.quiet 5 (.quiet 6 (.loud 7 [0, 1, 3, 4] (.quiet 8 (.quiet 9 (.quiet 10 (.loud 11 [] (.done))))))))))))
def p85_1 : Plan := .quiet 0 (.quiet 1 (.quiet 2 (.quiet 3 (.quiet 4 (.quiet 5 (.quiet 6 (.quiet 7 (.quiet 8 (.quiet 9 (.quiet 10 (.quiet 11 (.quiet 12 (.quiet 13 (.quiet 14 (.quiet 15 (.quiet 16 (.quiet 17 (.quiet 18 (.quiet 19 (.quiet 20 (.loud 21 [15, 16, 17] (.quiet 22 (.quiet 23 (.quiet 24 (.loud 25 [] (.done))))))))))))))))))))))))))
def p85_2 : Plan := .quiet 0 (.quiet 1 (.quiet 2 (.quiet 3 (.quiet 4 (.quiet 5 (.quiet 6 (.quiet 7 (.quiet 8 (.quiet 9 (.quiet 10 (.loud 11 [] (.done))))))))))))
end Go.Eng
end

/- What the functions of chapter 01 reckon, in plain words. -/
section
namespace Go.Eng
def sp3 (a b c : Int) : Bool := decide (0 ≤ a) && (decide (a ≤ b) && decide (b ≤ c))
def in3 (a b c : Int) : Bool := decide (b ≤ a) && decide (a ≤ c)
theorem sp3_iff {a b c : Int} : sp3 a b c = true ↔ 0 ≤ a ∧ a ≤ b ∧ b ≤ c := by simp [sp3]
theorem in3_iff {a b c : Int} : in3 a b c = true ↔ b ≤ a ∧ a ≤ c := by simp [in3]
def okZ (z : Nat → Int) : Bool := sp3 (z 0) (z 1) 20000 && sp3 (z 2) (z 3) 20000
def allU (p : Nat → Bool) : Nat → Bool
  | 0 => true
  | n + 1 => allU p n && p n
theorem allU_iff {p : Nat → Bool} : ∀ {n : Nat}, allU p n = true ↔ ∀ i, i < n → p i = true
  | 0 => by simp [allU]
  | n + 1 => by
    simp only [allU, Bool.and_eq_true, allU_iff (n := n)]
    constructor
    · rintro ⟨h1, h2⟩ i hi
      by_cases e : i = n
      · subst e; exact h2
      · exact h1 i (by omega)
    · exact fun h => ⟨fun i hi => h i (by omega), h n (by omega)⟩
theorem allU_false {p : Nat → Bool} {n i : Nat} (hi : i < n) (h : p i = false) : allU p n = false := by
  cases hc : allU p n with
  | false => rfl
  | true => have := allU_iff.1 hc i hi; rw [h] at this; cases this
def rinkB (n : Nat) (z : Nat → Nat → Int) : Bool := in3 n 1 24 && allU (fun i => okZ (z i)) n
theorem rinkB_iff {n : Nat} {z : Nat → Nat → Int} : rinkB n z = true ↔ (1 ≤ n ∧ n ≤ 24) ∧ ∀ i, i < n → okZ (z i) = true := by
  simp only [rinkB, Bool.and_eq_true, allU_iff, in3_iff]
  constructor <;> rintro ⟨h1, h2⟩ <;> exact ⟨by omega, h2⟩
theorem wrap_id {x : Int} (h1 : -9223372036854775808 ≤ x) (h2 : x ≤ 9223372036854775807) : IntKind.i64.wrap x = x := by
  simp [IntKind.wrap, IntKind.signed, IntKind.bits]
  omega
end Go.Eng
end

/- Within, in, Rink: the document's. -/
section
namespace Go.Eng
open Go Go.RowKit Go.Proofs
set_option maxRecDepth 100000
set_option maxHeartbeats 4000000
def withinBase : BaseF := fun args => match args with
  | [.agg [.int .i64 a, .int .i64 b], .int .i64 c] => some (True, .bool (sp3 a b c))
  | _ => none
theorem within_base : Base Try.prog 48 withinBase := by
  intro args p v hq hp
  unfold withinBase at hq
  split at hq
  · rename_i a b c
    cases hq
    refine base_of (C := cx [] [] [] [] none) (cx_ok trivial trivial) rfl (g := 48) (fn := Try.f48) (args' := [.agg [.int .i64 a, .int .i64 b], .int .i64 c]) (fn_48) rfl 1000 (by simp only [BdL, Bd, and_self]) ⟨SameD.rfl' _, SameD.rfl' _, trivial⟩ ?_
    simp only [Try.f48, go_sem, ↓reduceIte, Nat.reduceAdd, Nat.reduceSub, Nat.reduceMul, Nat.reduceEqDiff, Nat.reduceLT, Nat.reduceLeDiff, Int.reduceToNat, Int.reduceLE, Int.reduceLT, Int.reduceEq, Int.reduceNeg, reduceCtorEq]
    refine ⟨fun h1 => ⟨fun h2 => congrArg SV.bool ?_, fun h2 => congrArg SV.bool ?_⟩, fun h1 => congrArg SV.bool ?_⟩ <;> rw [Bool.eq_iff_iff] <;> (try simp [sp3] at *) <;> (try omega)
  · cases hq
def inBase : BaseF := fun args => match args with
  | [.int .i64 a, .int .i64 b, .int .i64 c] => some (True, .bool (in3 a b c))
  | _ => none
theorem in_base : Base Try.prog 49 inBase := by
  intro args p v hq hp
  unfold inBase at hq
  split at hq
  · rename_i a b c
    cases hq
    refine base_of (C := cx [] [] [] [] none) (cx_ok trivial trivial) rfl (g := 49) (fn := Try.f49) (args' := [.int .i64 a, .int .i64 b, .int .i64 c]) (fn_49) rfl 1000 (by simp only [BdL, Bd, and_self]) ⟨SameD.rfl' _, SameD.rfl' _, SameD.rfl' _, trivial⟩ ?_
    simp only [Try.f49, go_sem, ↓reduceIte, Nat.reduceAdd, Nat.reduceSub, Nat.reduceMul, Nat.reduceEqDiff, Nat.reduceLT, Nat.reduceLeDiff, Int.reduceToNat, Int.reduceLE, Int.reduceLT, Int.reduceEq, Int.reduceNeg, reduceCtorEq]
    refine ⟨fun h1 => congrArg SV.bool ?_, fun h1 => congrArg SV.bool ?_⟩ <;> rw [Bool.eq_iff_iff] <;> (try simp [in3] at *) <;> (try omega)
  · cases hq
theorem in2_base : Base Try.prog 39 inBase := by
  intro args p v hq hp
  unfold inBase at hq
  split at hq
  · rename_i a b c
    cases hq
    refine base_of (C := cx [] [] [] [] none) (cx_ok trivial trivial) rfl (g := 39) (fn := Try.f39) (args' := [.int .i64 a, .int .i64 b, .int .i64 c]) (fn_39) rfl 1000 (by simp only [BdL, Bd, and_self]) ⟨SameD.rfl' _, SameD.rfl' _, SameD.rfl' _, trivial⟩ ?_
    simp only [Try.f39, go_sem, ↓reduceIte, Nat.reduceAdd, Nat.reduceSub, Nat.reduceMul, Nat.reduceEqDiff, Nat.reduceLT, Nat.reduceLeDiff, Int.reduceToNat, Int.reduceLE, Int.reduceLT, Int.reduceEq, Int.reduceNeg, reduceCtorEq]
    refine ⟨fun h1 => congrArg SV.bool ?_, fun h1 => congrArg SV.bool ?_⟩ <;> rw [Bool.eq_iff_iff] <;> (try simp [in3] at *) <;> (try omega)
  · cases hq
theorem in_eq (a b c : Int) : inBase [.int .i64 a, .int .i64 b, .int .i64 c] = some (True, .bool (in3 a b c)) := rfl
theorem within_eq (a b c : Int) : withinBase [.agg [.int .i64 a, .int .i64 b], .int .i64 c] = some (True, .bool (sp3 a b c)) := rfl

def rinkBase : BaseF := fun args => match args with
  | [.row n sz f] => some (sz = 4 ∧ IntR n 4 f, .bool (rinkB n (fun i j => iv (f i j))))
  | _ => none
theorem rink_base : Base Try.prog 16 rinkBase := by
  intro args p v hq hp
  unfold rinkBase at hq
  split at hq
  · rename_i n sz f
    cases hq
    obtain ⟨rfl, hf⟩ := hp
    refine base_of (C := cx [] [] [(48, withinBase), (49, inBase)] [] none) (cx_ok trivial ⟨within_base, in_base, trivial⟩) rfl (g := 16) (fn := Try.f16) (args' := [.row n 4 fun i j => .int .i64 (iv (f i j))]) (fn_16) rfl 1000 (by simp only [BdL, Bd, and_true]; intro i j hi hj; rw [hf i j hi hj]; trivial) ⟨SameD.int hf, trivial⟩ ?_
    generalize hz : (fun i j => iv (f i j)) = z
    have hz' : ∀ i j, iv (f i j) = z i j := fun i j => by rw [← hz]
    simp only [hz']
    simp only [Try.f16, go_sem, ↓reduceIte, Nat.reduceAdd, Nat.reduceSub, Nat.reduceMul, Nat.reduceEqDiff, Nat.reduceLT, Nat.reduceLeDiff, Int.reduceToNat, Int.reduceLE, Int.reduceLT, Int.reduceEq, Int.reduceNeg, reduceCtorEq]
    refine ⟨{ i : Nat // i ≤ n ∧ i ≤ 25 ∧ ∀ k, k < i → okZ (z k) = true }, fun i => (setL 33 [(0, .row n 4 fun i j => .int .i64 (z i j)), (2, .bool false), (3, .int .i64 (i.1 : Int))], ⟨[], []⟩), fun i => n - i.1, [], (fun _ h => by cases h), fun i => ⟨rfl, rfl⟩, ⟨⟨0, by omega, by omega, by omega⟩, ?_⟩, ?_⟩
    · apply sub_of <;> simp only [go_sem, ↓reduceIte, Nat.reduceAdd, Nat.reduceSub, Nat.reduceMul, Nat.reduceEqDiff, Nat.reduceLT, Nat.reduceLeDiff, Int.reduceToNat, Int.reduceLE, Int.reduceLT, Int.reduceEq, Int.reduceNeg, reduceCtorEq] <;> simp
    · rintro ⟨i, h1, h2, h3⟩
      simp only [in_eq, within_eq, Try.f16, go_sem, ↓reduceIte, Nat.reduceAdd, Nat.reduceSub, Nat.reduceMul, Nat.reduceEqDiff, Nat.reduceLT, Nat.reduceLeDiff, Int.reduceToNat, Int.reduceLE, Int.reduceLT, Int.reduceEq, Int.reduceNeg, reduceCtorEq]
      have hfl : i < n → okZ (z i) = false → rinkB n z = false := fun hi h => by simp only [rinkB, allU_false (p := fun i => okZ (z i)) hi h, Bool.and_false]
      refine ⟨fun c1 => ⟨fun c2 => ⟨⟨by omega, by simpa using c1⟩, fun c3 => congrArg SV.bool ?_, fun c3 => ⟨⟨by omega, by simpa using c1⟩, fun c4 => congrArg SV.bool ?_, fun c4 => ?_⟩⟩, fun c2 => congrArg SV.bool ?_⟩, fun c1 => congrArg SV.bool ?_⟩
      · simp at c1 c3
        rw [hfl c1 (by simp [okZ, c3])]
      · simp at c1 c4
        rw [hfl c1 (by simp [okZ, c4])]
      · simp at c1 c2 c3 c4
        rw [wrap_id (by omega) (by omega)]
        refine ⟨⟨i + 1, by omega, by omega, fun k hk => ?_⟩, by simp only []; omega, ?_⟩
        · by_cases e : k = i
          · subst e; simp [okZ, c3, c4]
          · exact h3 k (by omega)
        · apply sub_of <;> simp only [go_sem, ↓reduceIte, Nat.reduceAdd, Nat.reduceSub, Nat.reduceMul, Nat.reduceEqDiff, Nat.reduceLT, Nat.reduceLeDiff, Int.reduceToNat, Int.reduceLE, Int.reduceLT, Int.reduceEq, Int.reduceNeg, reduceCtorEq] <;> simp
      · simp at c1 c2
        have : in3 (n : Int) 1 24 = false := by simp [in3]; omega
        simp [rinkB, this]
      · simp at c1
        have e : i = n := by omega
        subst e
        have : allU (fun i => okZ (z i)) i = true := allU_iff.2 h3
        simp [rinkB, this]
  · cases hq
end Go.Eng
end

/- Small functions of chapter 01. -/
section
namespace Go.Eng
open Go Go.RowKit Go.Proofs
set_option maxRecDepth 100000
set_option maxHeartbeats 4000000
def validBase : BaseF := fun args => match args with
  | [.agg [.int .i64 a, .int .i64 b]] => some (True, .bool (sp3 a b 20000))
  | _ => none
theorem valid_eq (a b : Int) : validBase [.agg [.int .i64 a, .int .i64 b]] = some (True, .bool (sp3 a b 20000)) := rfl
theorem valid_base : Base Try.prog 38 validBase := by
  intro args p v hq hp
  unfold validBase at hq
  split at hq
  · rename_i a b
    cases hq
    refine base_of (C := cx [] [] [] [] none) (cx_ok trivial trivial) rfl (g := 38) (fn := Try.f38) (args' := [.agg [.int .i64 a, .int .i64 b]]) (fn_38) rfl 1000 (by simp only [BdL, Bd, and_self]) ⟨SameD.rfl' _, trivial⟩ ?_
    simp only [Try.f38, go_sem, ↓reduceIte, Nat.reduceAdd, Nat.reduceSub, Nat.reduceMul, Nat.reduceEqDiff, Nat.reduceLT, Nat.reduceLeDiff, Int.reduceToNat, Int.reduceLE, Int.reduceLT, Int.reduceEq, Int.reduceNeg, reduceCtorEq]
    refine ⟨fun h1 => ⟨fun h2 => congrArg SV.bool ?_, fun h2 => congrArg SV.bool ?_⟩, fun h1 => congrArg SV.bool ?_⟩ <;> rw [Bool.eq_iff_iff] <;> (try simp [sp3] at *) <;> (try omega)
  · cases hq
def boundBase : BaseF := fun args => match args with
  | [.int .i64 a, .int .i64 b] => some (True, .bool (in3 b 0 20000 && in3 a 0 b))
  | _ => none
theorem bound_eq (a b : Int) : boundBase [.int .i64 a, .int .i64 b] = some (True, .bool (in3 b 0 20000 && in3 a 0 b)) := rfl
theorem bound_base : Base Try.prog 40 boundBase := by
  intro args p v hq hp
  unfold boundBase at hq
  split at hq
  · rename_i a b
    cases hq
    refine base_of (C := cx [] [] [(39, inBase)] [] none) (cx_ok trivial ⟨in2_base, trivial⟩) rfl (g := 40) (fn := Try.f40) (args' := [.int .i64 a, .int .i64 b]) (fn_40) rfl 1000 (by simp only [BdL, Bd, and_self]) ⟨SameD.rfl' _, SameD.rfl' _, trivial⟩ ?_
    simp only [in_eq, Try.f40, go_sem, ↓reduceIte, Nat.reduceAdd, Nat.reduceSub, Nat.reduceMul, Nat.reduceEqDiff, Nat.reduceLT, Nat.reduceLeDiff, Int.reduceToNat, Int.reduceLE, Int.reduceLT, Int.reduceEq, Int.reduceNeg, reduceCtorEq]
    refine ⟨fun h1 => congrArg SV.bool ?_, fun h1 => congrArg SV.bool ?_⟩ <;> simp_all
  · cases hq
def lessBase : BaseF := fun args => match args with
  | [.agg [.int .i64 a, .int .i64 b], .agg [.int .i64 c, .int .i64 d]] => some (True, .agg [.int .i64 (max 0 (IntKind.i64.wrap (a - d))), .int .i64 (max 0 (IntKind.i64.wrap (b - c)))])
  | _ => none
theorem less_eq (a b c d : Int) : lessBase [.agg [.int .i64 a, .int .i64 b], .agg [.int .i64 c, .int .i64 d]] = some (True, .agg [.int .i64 (max 0 (IntKind.i64.wrap (a - d))), .int .i64 (max 0 (IntKind.i64.wrap (b - c)))]) := rfl
theorem less_base : Base Try.prog 44 lessBase := by
  intro args p v hq hp
  unfold lessBase at hq
  split at hq
  · rename_i a b c d
    cases hq
    refine base_of (C := cx [] [] [] [] none) (cx_ok trivial trivial) rfl (g := 44) (fn := Try.f44) (args' := [.agg [.int .i64 a, .int .i64 b], .agg [.int .i64 c, .int .i64 d]]) (fn_44) rfl 1000 (by simp only [BdL, Bd, and_self]) ⟨SameD.rfl' _, SameD.rfl' _, trivial⟩ ?_
    simp only [Try.f44, go_sem, ↓reduceIte, Nat.reduceAdd, Nat.reduceSub, Nat.reduceMul, Nat.reduceEqDiff, Nat.reduceLT, Nat.reduceLeDiff, Int.reduceToNat, Int.reduceLE, Int.reduceLT, Int.reduceEq, Int.reduceNeg, reduceCtorEq]
  · cases hq
def moreBase : BaseF := fun args => match args with
  | [.agg [.int .i64 a, .int .i64 b], .agg [.int .i64 c, .int .i64 d]] => some (True, .agg [.int .i64 (IntKind.i64.wrap (a + c)), .int .i64 (IntKind.i64.wrap (b + d))])
  | _ => none
theorem more_eq (a b c d : Int) : moreBase [.agg [.int .i64 a, .int .i64 b], .agg [.int .i64 c, .int .i64 d]] = some (True, .agg [.int .i64 (IntKind.i64.wrap (a + c)), .int .i64 (IntKind.i64.wrap (b + d))]) := rfl
theorem more_base : Base Try.prog 45 moreBase := by
  intro args p v hq hp
  unfold moreBase at hq
  split at hq
  · rename_i a b c d
    cases hq
    refine base_of (C := cx [] [] [] [] none) (cx_ok trivial trivial) rfl (g := 45) (fn := Try.f45) (args' := [.agg [.int .i64 a, .int .i64 b], .agg [.int .i64 c, .int .i64 d]]) (fn_45) rfl 1000 (by simp only [BdL, Bd, and_self]) ⟨SameD.rfl' _, SameD.rfl' _, trivial⟩ ?_
    simp only [Try.f45, go_sem, ↓reduceIte, Nat.reduceAdd, Nat.reduceSub, Nat.reduceMul, Nat.reduceEqDiff, Nat.reduceLT, Nat.reduceLeDiff, Int.reduceToNat, Int.reduceLE, Int.reduceLT, Int.reduceEq, Int.reduceNeg, reduceCtorEq]
  · cases hq
def takenBase : BaseF := fun args => match args with
  | [.agg [.int .i64 a, .int .i64 b], .agg [.int .i64 c, .int .i64 d]] => some (True, .agg [.int .i64 (min a c), .int .i64 (min b d)])
  | _ => none
theorem taken_eq (a b c d : Int) : takenBase [.agg [.int .i64 a, .int .i64 b], .agg [.int .i64 c, .int .i64 d]] = some (True, .agg [.int .i64 (min a c), .int .i64 (min b d)]) := rfl
theorem taken_base : Base Try.prog 90 takenBase := by
  intro args p v hq hp
  unfold takenBase at hq
  split at hq
  · rename_i a b c d
    cases hq
    refine base_of (C := cx [] [] [] [] none) (cx_ok trivial trivial) rfl (g := 90) (fn := Try.f90) (args' := [.agg [.int .i64 a, .int .i64 b], .agg [.int .i64 c, .int .i64 d]]) (fn_90) rfl 1000 (by simp only [BdL, Bd, and_self]) ⟨SameD.rfl' _, SameD.rfl' _, trivial⟩ ?_
    simp only [Try.f90, go_sem, ↓reduceIte, Nat.reduceAdd, Nat.reduceSub, Nat.reduceMul, Nat.reduceEqDiff, Nat.reduceLT, Nat.reduceLeDiff, Int.reduceToNat, Int.reduceLE, Int.reduceLT, Int.reduceEq, Int.reduceNeg, reduceCtorEq]
  · cases hq
def plusBase : BaseF := fun args => match args with
  | [.agg [.int .i64 a, .int .i64 b], .agg [.int .i64 c, .int .i64 d]] => some (True, .agg [.int .i64 (IntKind.i64.wrap (a + c)), .int .i64 (IntKind.i64.wrap (b + d))])
  | _ => none
theorem plus_eq (a b c d : Int) : plusBase [.agg [.int .i64 a, .int .i64 b], .agg [.int .i64 c, .int .i64 d]] = some (True, .agg [.int .i64 (IntKind.i64.wrap (a + c)), .int .i64 (IntKind.i64.wrap (b + d))]) := rfl
theorem plus_base : Base Try.prog 74 plusBase := by
  intro args p v hq hp
  unfold plusBase at hq
  split at hq
  · rename_i a b c d
    cases hq
    refine base_of (C := cx [] [] [] [] none) (cx_ok trivial trivial) rfl (g := 74) (fn := Try.f74) (args' := [.agg [.int .i64 a, .int .i64 b], .agg [.int .i64 c, .int .i64 d]]) (fn_74) rfl 1000 (by simp only [BdL, Bd, and_self]) ⟨SameD.rfl' _, SameD.rfl' _, trivial⟩ ?_
    simp only [Try.f74, go_sem, ↓reduceIte, Nat.reduceAdd, Nat.reduceSub, Nat.reduceMul, Nat.reduceEqDiff, Nat.reduceLT, Nat.reduceLeDiff, Int.reduceToNat, Int.reduceLE, Int.reduceLT, Int.reduceEq, Int.reduceNeg, reduceCtorEq]
  · cases hq
def rlessBase : BaseF := fun args => match args with
  | [.agg [.int .i64 a, .int .i64 b], .agg [.int .i64 c, .int .i64 d]] => some (True, .agg [.int .i64 (max 0 (IntKind.i64.wrap (a - d))), .int .i64 (max 0 (IntKind.i64.wrap (b - c)))])
  | _ => none
theorem rless_eq (a b c d : Int) : rlessBase [.agg [.int .i64 a, .int .i64 b], .agg [.int .i64 c, .int .i64 d]] = some (True, .agg [.int .i64 (max 0 (IntKind.i64.wrap (a - d))), .int .i64 (max 0 (IntKind.i64.wrap (b - c)))]) := rfl
theorem rless_base : Base Try.prog 87 rlessBase := by
  intro args p v hq hp
  unfold rlessBase at hq
  split at hq
  · rename_i a b c d
    cases hq
    refine base_of (C := cx [] [] [] [] none) (cx_ok trivial trivial) rfl (g := 87) (fn := Try.f87) (args' := [.agg [.int .i64 a, .int .i64 b], .agg [.int .i64 c, .int .i64 d]]) (fn_87) rfl 1000 (by simp only [BdL, Bd, and_self]) ⟨SameD.rfl' _, SameD.rfl' _, trivial⟩ ?_
    simp only [Try.f87, go_sem, ↓reduceIte, Nat.reduceAdd, Nat.reduceSub, Nat.reduceMul, Nat.reduceEqDiff, Nat.reduceLT, Nat.reduceLeDiff, Int.reduceToNat, Int.reduceLE, Int.reduceLT, Int.reduceEq, Int.reduceNeg, reduceCtorEq]
  · cases hq
def roffBase : BaseF := fun args => match args with
  | [.agg [.int .i64 a, .int .i64 b], .agg [.int .i64 c, .int .i64 d]] => some (True, .agg [.int .i64 (min a c), .int .i64 (min b d)])
  | _ => none
theorem roff_eq (a b c d : Int) : roffBase [.agg [.int .i64 a, .int .i64 b], .agg [.int .i64 c, .int .i64 d]] = some (True, .agg [.int .i64 (min a c), .int .i64 (min b d)]) := rfl
theorem roff_base : Base Try.prog 88 roffBase := by
  intro args p v hq hp
  unfold roffBase at hq
  split at hq
  · rename_i a b c d
    cases hq
    refine base_of (C := cx [] [] [] [] none) (cx_ok trivial trivial) rfl (g := 88) (fn := Try.f88) (args' := [.agg [.int .i64 a, .int .i64 b], .agg [.int .i64 c, .int .i64 d]]) (fn_88) rfl 1000 (by simp only [BdL, Bd, and_self]) ⟨SameD.rfl' _, SameD.rfl' _, trivial⟩ ?_
    simp only [Try.f88, go_sem, ↓reduceIte, Nat.reduceAdd, Nat.reduceSub, Nat.reduceMul, Nat.reduceEqDiff, Nat.reduceLT, Nat.reduceLeDiff, Int.reduceToNat, Int.reduceLE, Int.reduceLT, Int.reduceEq, Int.reduceNeg, reduceCtorEq]
  · cases hq
def spanBase : BaseF := fun args => match args with
  | [.int .i64 a, .int .i64 b] => some (True, .agg [.int .i64 a, .int .i64 b])
  | _ => none
theorem span_eq (a b : Int) : spanBase [.int .i64 a, .int .i64 b] = some (True, .agg [.int .i64 a, .int .i64 b]) := rfl
theorem span_base : Base Try.prog 23 spanBase := by
  intro args p v hq hp
  unfold spanBase at hq
  split at hq
  · rename_i a b
    cases hq
    refine base_of (C := cx [] [] [] [] none) (cx_ok trivial trivial) rfl (g := 23) (fn := Try.f23) (args' := [.int .i64 a, .int .i64 b]) (fn_23) rfl 1000 (by simp only [BdL, Bd, and_self]) ⟨SameD.rfl' _, SameD.rfl' _, trivial⟩ ?_
    simp only [Try.f23, go_sem, ↓reduceIte, Nat.reduceAdd, Nat.reduceSub, Nat.reduceMul, Nat.reduceEqDiff, Nat.reduceLT, Nat.reduceLeDiff, Int.reduceToNat, Int.reduceLE, Int.reduceLT, Int.reduceEq, Int.reduceNeg, reduceCtorEq]
  · cases hq
def sideBase : BaseF := fun args => match args with
  | [.int .i64 a, .int .i64 b, .int .i64 c, .int .i64 d] => some (True, .int .i64 (IntKind.i64.wrap (max 0 (IntKind.i64.wrap (max 0 (IntKind.i64.wrap (a - b)) - c)) + d)))
  | _ => none
theorem side_eq (a b c d : Int) : sideBase [.int .i64 a, .int .i64 b, .int .i64 c, .int .i64 d] = some (True, .int .i64 (IntKind.i64.wrap (max 0 (IntKind.i64.wrap (max 0 (IntKind.i64.wrap (a - b)) - c)) + d))) := rfl
theorem side_base : Base Try.prog 67 sideBase := by
  intro args p v hq hp
  unfold sideBase at hq
  split at hq
  · rename_i a b c d
    cases hq
    refine base_of (C := cx [] [] [] [] none) (cx_ok trivial trivial) rfl (g := 67) (fn := Try.f67) (args' := [.int .i64 a, .int .i64 b, .int .i64 c, .int .i64 d]) (fn_67) rfl 1000 (by simp only [BdL, Bd, and_self]) ⟨SameD.rfl' _, SameD.rfl' _, SameD.rfl' _, SameD.rfl' _, trivial⟩ ?_
    simp only [Try.f67, go_sem, ↓reduceIte, Nat.reduceAdd, Nat.reduceSub, Nat.reduceMul, Nat.reduceEqDiff, Nat.reduceLT, Nat.reduceLeDiff, Int.reduceToNat, Int.reduceLE, Int.reduceLT, Int.reduceEq, Int.reduceNeg, reduceCtorEq]
  · cases hq
def hasBase : BaseF := fun args => match args with
  | [.agg [.int .i64 a, .int .i64 b], .int .i64 c] => some (True, .bool (in3 c a b))
  | _ => none
theorem has_eq (a b c : Int) : hasBase [.agg [.int .i64 a, .int .i64 b], .int .i64 c] = some (True, .bool (in3 c a b)) := rfl
theorem has_base : Base Try.prog 21 hasBase := by
  intro args p v hq hp
  unfold hasBase at hq
  split at hq
  · rename_i a b c
    cases hq
    refine base_of (C := cx [] [] [] [] none) (cx_ok trivial trivial) rfl (g := 21) (fn := Try.f21) (args' := [.agg [.int .i64 a, .int .i64 b], .int .i64 c]) (fn_21) rfl 1000 (by simp only [BdL, Bd, and_self]) ⟨SameD.rfl' _, SameD.rfl' _, trivial⟩ ?_
    simp only [Try.f21, go_sem, ↓reduceIte, Nat.reduceAdd, Nat.reduceSub, Nat.reduceMul, Nat.reduceEqDiff, Nat.reduceLT, Nat.reduceLeDiff, Int.reduceToNat, Int.reduceLE, Int.reduceLT, Int.reduceEq, Int.reduceNeg, reduceCtorEq]
    refine ⟨fun h1 => congrArg SV.bool ?_, fun h1 => congrArg SV.bool ?_⟩ <;> rw [Bool.eq_iff_iff] <;> (try simp [in3] at *) <;> (try omega)
  · cases hq
def zoneBadBase : BaseF := fun args => match args with
  | [.agg [.int .i64 a, .int .i64 b, .int .i64 c, .int .i64 d]] => some (True, .bool (!(sp3 a b 20000 && sp3 c d 20000)))
  | _ => none
theorem zoneBad_eq (a b c d : Int) : zoneBadBase [.agg [.int .i64 a, .int .i64 b, .int .i64 c, .int .i64 d]] = some (True, .bool (!(sp3 a b 20000 && sp3 c d 20000))) := rfl
theorem zoneBad_base : Base Try.prog 65 zoneBadBase := by
  intro args p v hq hp
  unfold zoneBadBase at hq
  split at hq
  · rename_i a b c d
    cases hq
    refine base_of (C := cx [] [] [(38, validBase)] [] none) (cx_ok trivial ⟨valid_base, trivial⟩) rfl (g := 65) (fn := Try.f65) (args' := [.agg [.int .i64 a, .int .i64 b, .int .i64 c, .int .i64 d]]) (fn_65) rfl 1000 (by simp only [BdL, Bd, and_self]) ⟨SameD.rfl' _, trivial⟩ ?_
    simp only [valid_eq, Try.f65, go_sem, ↓reduceIte, Nat.reduceAdd, Nat.reduceSub, Nat.reduceMul, Nat.reduceEqDiff, Nat.reduceLT, Nat.reduceLeDiff, Int.reduceToNat, Int.reduceLE, Int.reduceLT, Int.reduceEq, Int.reduceNeg, reduceCtorEq]
    refine ⟨fun h1 => congrArg SV.bool ?_, fun h1 => congrArg SV.bool ?_⟩ <;> simp_all
  · cases hq
end Go.Eng
end

/- isRink: the program's. -/
section
namespace Go.Eng
open Go Go.RowKit Go.Proofs
set_option maxRecDepth 100000
set_option maxHeartbeats 4000000
theorem zoneBad_eq' (a b c d : Int) : zoneBadBase [.agg [.int .i64 a, .int .i64 b, .int .i64 c, .int .i64 d]] = some (True, .bool (!(sp3 a b 20000 && sp3 c d 20000))) := rfl
theorem isRink_base : Base Try.prog 37 rinkBase := by
  intro args p v hq hp
  unfold rinkBase at hq
  split at hq
  · rename_i n sz f
    cases hq
    obtain ⟨rfl, hf⟩ := hp
    refine base_of (C := cx [] [] [(39, inBase), (65, zoneBadBase)] [] none) (cx_ok trivial ⟨in2_base, zoneBad_base, trivial⟩) rfl (g := 37) (fn := Try.f37) (args' := [.row n 4 fun i j => .int .i64 (iv (f i j))]) (fn_37) rfl 1000 (by simp only [BdL, Bd, and_true]; intro i j hi hj; rw [hf i j hi hj]; trivial) ⟨SameD.int hf, trivial⟩ ?_
    generalize hz : (fun i j => iv (f i j)) = z
    have hz' : ∀ i j, iv (f i j) = z i j := fun i j => by rw [← hz]
    simp only [hz']
    simp only [in_eq, Try.f37, Try.f66, Try.f80, go_sem, ↓reduceIte, Nat.reduceAdd, Nat.reduceSub, Nat.reduceMul, Nat.reduceEqDiff, Nat.reduceLT, Nat.reduceLeDiff, Int.reduceToNat, Int.reduceLE, Int.reduceLT, Int.reduceEq, Int.reduceNeg, reduceCtorEq]
    refine ⟨fun c0 => ?_, fun c0 => congrArg SV.bool (by simp [rinkB, c0])⟩
    have hn := in3_iff.1 c0
    refine loop_of { i : Nat // i ≤ n ∧ ∀ k, k < i → okZ (z k) = true } (fun i => [(8, .int .i64 (i.1 : Int)), (7, .int .i64 (n : Int)), (4, .int .i64 0), (1, .func 65 []), (0, .row n 4 fun i j => .int .i64 (z i j))]) (fun _ => ⟨[], []⟩) (fun i => n - i.1) (fun _ => ⟨rfl, rfl⟩) ⟨0, by omega, by omega⟩ (by apply sub_of <;> simp only [go_sem, ↓reduceIte, Nat.reduceAdd, Nat.reduceSub, Nat.reduceMul, Nat.reduceEqDiff, Nat.reduceLT, Nat.reduceLeDiff, Int.reduceToNat, Int.reduceLE, Int.reduceLT, Int.reduceEq, Int.reduceNeg, reduceCtorEq] <;> simp) ?_
    rintro ⟨i, h1, h2⟩
    simp only [in_eq, zoneBad_eq, Try.f37, Try.f66, Try.f80, Try.f65, go_sem, ↓reduceIte, Nat.reduceAdd, Nat.reduceSub, Nat.reduceMul, Nat.reduceEqDiff, Nat.reduceLT, Nat.reduceLeDiff, Int.reduceToNat, Int.reduceLE, Int.reduceLT, Int.reduceEq, Int.reduceNeg, reduceCtorEq]
    refine ⟨fun c1 => ⟨⟨by omega, by simpa using c1⟩, fun c2 => congrArg SV.bool ?_, fun c2 => ?_⟩, fun c1 => congrArg SV.bool ?_⟩
    · simp at c1 c2
      have : rinkB n z = false := by simp only [rinkB, allU_false (p := fun i => okZ (z i)) c1 (by simp only [okZ]; cases hc : (sp3 (z i 0) (z i 1) 20000 && sp3 (z i 2) (z i 3) 20000); rfl; simp at hc; simp [hc] at c2), Bool.and_false]
      rw [this]; simp
    · simp at c1 c2
      rw [wrap_id (by omega) (by omega)]
      refine ⟨⟨i + 1, by omega, fun k hk => ?_⟩, by simp only []; omega, by apply sub_of <;> simp only [go_sem, ↓reduceIte, Nat.reduceAdd, Nat.reduceSub, Nat.reduceMul, Nat.reduceEqDiff, Nat.reduceLT, Nat.reduceLeDiff, Int.reduceToNat, Int.reduceLE, Int.reduceLT, Int.reduceEq, Int.reduceNeg, reduceCtorEq] <;> simp⟩
      by_cases e : k = i
      · subst e; simp [okZ, c2]
      · exact h2 k (by omega)
    · simp at c1
      have e : i = n := by omega
      subst e
      have : allU (fun i => okZ (z i)) i = true := allU_iff.2 h2
      simp [rinkB, this, c0]
  · cases hq
end Go.Eng
end

/- Water: the program's. -/
section
namespace Go.Eng
open Go Go.RowKit Go.Proofs
set_option maxRecDepth 100000
set_option maxHeartbeats 4000000
theorem rink_eq (n : Nat) (z : Nat → Nat → Int) : rinkBase [.row n 4 (fun i j => .int .i64 (z i j))] = some (4 = 4 ∧ IntR n 4 (fun i j => .int .i64 (z i j)), .bool (rinkB n z)) := rfl
/-- One pass: the ice that is left, and what is frozen. -/
def pass (w p a x : Int) : Int := max 0 (max 0 (x - w) - p) + a
def after (w p a x : Int) : Nat → Int
  | 0 => x
  | k + 1 => pass w p a (after w p a x k)
def enoughB (n passes : Nat) (z : Nat → Int) (w p least : Int) (a : Nat) : Bool := allU (fun i => allU (fun k => decide (least ≤ after w p a (z i) (k + 1))) passes) n
def muchB (n passes : Nat) (z : Nat → Int) (w p most : Int) (a : Nat) : Bool := !allU (fun i => allU (fun k => decide (after w p a (z i) (k + 1) ≤ most)) passes) n
theorem all2_false {p : Nat → Nat → Bool} {m n a q : Nat} (ha : a < n) (hq : q < m) (h : p a q = false) : allU (fun i => allU (fun k => p i k) m) n = false :=
  allU_false (p := fun i => allU (fun k => p i k) m) ha (allU_false (p := fun k => p a k) hq h)
theorem all2_true {p : Nat → Nat → Bool} {m n : Nat} : allU (fun i => allU (fun k => p i k) m) n = true ↔ ∀ a, a < n → ∀ q, q < m → p a q = true := by
  simp only [allU_iff]
def srch (p : Nat → Bool) : Nat → Nat → Nat → Nat
  | 0, i, _ => i
  | f + 1, i, j => if i < j then (if p ((i + j) / 2) then srch p f i ((i + j) / 2) else srch p f ((i + j) / 2 + 1) j) else i
theorem srch_fuel (p : Nat → Bool) : ∀ (f f' i j : Nat), j - i ≤ f → j - i ≤ f' → srch p f i j = srch p f' i j
  | 0, 0, i, j, _, _ => rfl
  | 0, f' + 1, i, j, h, h' => by
    have : ¬ i < j := by omega
    simp [srch, this]
  | f + 1, 0, i, j, h, h' => by
    have : ¬ i < j := by omega
    simp [srch, this]
  | f + 1, f' + 1, i, j, h, h' => by
    simp only [srch]
    split
    · rw [srch_fuel p f f' i ((i + j) / 2) (by omega) (by omega), srch_fuel p f f' ((i + j) / 2 + 1) j (by omega) (by omega)]
    · rfl
theorem srch_step (p : Nat → Bool) {i j : Nat} (h : i < j) : srch p (j - i) i j = if p ((i + j) / 2) then srch p ((i + j) / 2 - i) i ((i + j) / 2) else srch p (j - ((i + j) / 2 + 1)) ((i + j) / 2 + 1) j := by
  obtain ⟨f, hf⟩ : ∃ f, j - i = f + 1 := ⟨j - i - 1, by omega⟩
  rw [hf]
  simp only [srch, h, if_true]
  rw [srch_fuel p f ((i + j) / 2 - i) i ((i + j) / 2) (by omega) (by omega), srch_fuel p f (j - ((i + j) / 2 + 1)) ((i + j) / 2 + 1) j (by omega) (by omega)]
theorem srch_end (p : Nat → Bool) (i : Nat) : srch p (i - i) i i = i := by
  rw [Nat.sub_self]; rfl
theorem wrapu_id {x : Int} (h1 : 0 ≤ x) (h2 : x ≤ 9223372036854775807) : IntKind.u64.wrap x = x := by
  simp [IntKind.wrap, IntKind.signed, IntKind.bits]
  omega
theorem mid_eq {i j : Nat} (h : i + j ≤ 100000) : IntKind.i64.wrap ((IntKind.u64.wrap (IntKind.i64.wrap ((i : Int) + (j : Int)))).fdiv (2 ^ min 1 64)) = (((i + j) / 2 : Nat) : Int) := by
  rw [wrap_id (x := (i : Int) + j) (by omega) (by omega), wrapu_id (by omega) (by omega)]
  have e : (2 : Int) ^ min 1 64 = 2 := by decide
  rw [e, Int.fdiv_eq_ediv_of_nonneg _ (by omega), wrap_id (by omega) (by omega)]
  omega
theorem pass_bd {w p a x : Int} (hw : 0 ≤ w) (hp : 0 ≤ p) (ha : 0 ≤ a) (hx : 0 ≤ x) : 0 ≤ pass w p a x ∧ pass w p a x ≤ x + a := by
  unfold pass; omega
theorem after_bd {w p a x : Int} (hw : 0 ≤ w) (hp : 0 ≤ p) (ha : 0 ≤ a) (ha2 : a ≤ 20001) (hx : 0 ≤ x) (hx2 : x ≤ 20000) : ∀ k : Nat, 0 ≤ after w p a x k ∧ after w p a x k ≤ 20000 + 20001 * (k : Int)
  | 0 => ⟨hx, by simpa [after] using hx2⟩
  | k + 1 => by
    have h := after_bd hw hp ha ha2 hx hx2 k
    have h2 := pass_bd (w := w) (p := p) (a := a) hw hp ha h.1
    simp only [after]
    refine ⟨h2.1, ?_⟩
    have : ((k + 1 : Nat) : Int) = (k : Int) + 1 := by omega
    rw [this]; omega
theorem pass_wrap {w p a x : Int} (hw : 0 ≤ w) (hw2 : w ≤ 20000) (hp : 0 ≤ p) (hp2 : p ≤ 20000) (ha : 0 ≤ a) (ha2 : a ≤ 20001) (hx : 0 ≤ x) (hx2 : x ≤ 10000000) :
    IntKind.i64.wrap (max 0 (IntKind.i64.wrap (max 0 (IntKind.i64.wrap (x - w)) - p)) + a) = pass w p a x := by
  rw [wrap_id (x := x - w) (by omega) (by omega), wrap_id (x := max 0 (x - w) - p) (by omega) (by omega), wrap_id (by omega) (by omega)]
  rfl
def waterR (n : Nat) (z : Nat → Nat → Int) (wl wh pl ph : Int) (passes : Int) (least most : Int) : SV :=
  if rinkB n z = true ∧ sp3 wl wh 20000 = true ∧ sp3 pl ph 20000 = true then
    if in3 passes 1 100 = true ∧ in3 most 0 20000 = true ∧ in3 least 0 most = true then
      let e := srch (enoughB n passes.toNat (fun i => z i 0) wh ph least) 20001 0 20001
      let m := srch (muchB n passes.toNat (fun i => z i 1) wl pl most) 20001 0 20001
      if m ≤ e then .tup [.agg [.int .i64 0, .int .i64 0], .int .i64 4] else .tup [.agg [.int .i64 (e : Int), .int .i64 ((m : Int) - 1)], .int .i64 0]
    else .tup [.agg [.int .i64 0, .int .i64 0], .int .i64 2]
  else .tup [.agg [.int .i64 0, .int .i64 0], .int .i64 1]
def waterBase : BaseF := fun args => match args with
  | [.row n sz f, .agg [.int .i64 wl, .int .i64 wh], .agg [.int .i64 pl, .int .i64 ph], .int .i64 passes, .int .i64 least, .int .i64 most] => some (sz = 4 ∧ IntR n 4 f, waterR n (fun i j => iv (f i j)) wl wh pl ph passes least most)
  | _ => none
theorem water_base : Base Try.prog 14 waterBase := by
  intro args p v hq hp
  unfold waterBase at hq
  split at hq
  · rename_i n sz f wl wh pl ph passes least most
    cases hq
    obtain ⟨rfl, hf⟩ := hp
    refine base_of (C := cx [] [] [(37, rinkBase), (38, validBase), (39, inBase), (40, boundBase), (44, lessBase), (45, moreBase)] [(43, 7, p43_7), (43, 8, p43_8)] none) (cx_ok trivial ⟨isRink_base, valid_base, in2_base, bound_base, less_base, more_base, trivial⟩) rfl (g := 14) (fn := Try.f14)
      (args' := [.row n 4 fun i j => .int .i64 (iv (f i j)), .agg [.int .i64 wl, .int .i64 wh], .agg [.int .i64 pl, .int .i64 ph], .int .i64 passes, .int .i64 least, .int .i64 most]) (fn_14) rfl 1000 (by simp only [BdL, Bd, and_true]; intro i j hi hj; rw [hf i j hi hj]; trivial) ⟨SameD.int hf, SameD.rfl' _, SameD.rfl' _, SameD.rfl' _, SameD.rfl' _, SameD.rfl' _, trivial⟩ ?_
    generalize hz : (fun i j => iv (f i j)) = z
    have hz' : ∀ i j, iv (f i j) = z i j := fun i j => by rw [← hz]
    simp only [hz']
    simp only [in_eq, rink_eq, valid_eq, bound_eq, Try.f14, Try.f41, Try.f42, go_sem, ↓reduceIte, Nat.reduceAdd, Nat.reduceSub, Nat.reduceMul, Nat.reduceEqDiff, Nat.reduceLT, Nat.reduceLeDiff, Int.reduceToNat, Int.reduceLE, Int.reduceLT, Int.reduceEq, Int.reduceNeg, reduceCtorEq]
    have no1 : rinkB n z = false ∨ sp3 wl wh 20000 = false ∨ sp3 pl ph 20000 = false → SV.tup [.agg [.int .i64 0, .int .i64 0], .int .i64 1] = waterR n z wl wh pl ph passes least most := fun h => by
      unfold waterR; rw [if_neg]; rintro ⟨h1, h2, h3⟩; rw [h1, h2, h3] at h; simp at h
    refine ⟨fun c1 => no1 (by simp at c1; simp [c1]), fun c1 => ⟨fun c2 => no1 (by simp at c2; simp [c2]), fun c2 => ⟨fun c3 => no1 (by simp at c3; simp [c3]), fun c3 => ?_⟩⟩⟩
    simp only [Bool.not_eq_false'] at c1 c2 c3
    have no2 : in3 passes 1 100 = false ∨ in3 most 0 20000 = false ∨ in3 least 0 most = false → SV.tup [.agg [.int .i64 0, .int .i64 0], .int .i64 2] = waterR n z wl wh pl ph passes least most := fun h => by
      unfold waterR; rw [if_pos ⟨c1, c2, c3⟩, if_neg]; rintro ⟨h1, h2, h3⟩; rw [h1, h2, h3] at h; simp at h
    refine ⟨fun c4 => no2 (by simp at c4; simp [c4]), fun c4 => ⟨fun c5 => no2 (by simp at c5; cases hm : in3 most 0 20000 <;> simp_all), fun c5 => ?_⟩⟩
    simp only [Bool.not_eq_false', Bool.and_eq_true] at c4 c5
    have b4 := in3_iff.1 c4
    have b2 := sp3_iff.1 c2
    have b3 := sp3_iff.1 c3
    have b1 := rinkB_iff.1 c1
    -- the search 1
    refine loop_of { x : Nat × Nat // x.1 ≤ x.2 ∧ x.2 ≤ 20001 ∧ srch (enoughB n passes.toNat (fun i => z i 0) wh ph least) (x.2 - x.1) x.1 x.2 = srch (enoughB n passes.toNat (fun i => z i 0) wh ph least) 20001 0 20001 }
      (fun x => [(6, .int .i64 (x.1.2 : Int)), (5, .int .i64 (x.1.1 : Int)), (1, .func 43 [.ptr 0 0, .ptr 3 0, .ptr 1 0, .ptr 2 0, .ptr 7 0, .ptr 8 0])])
      (fun _ => ⟨[.live 22 [.row n 4 fun i j => .int .i64 (z i j)], .live 24 [.int .i64 wl, .int .i64 wh], .live 24 [.int .i64 pl, .int .i64 ph], .live 3 [.int .i64 passes], .live 3 [.int .i64 least], .live 3 [.int .i64 most], .live 24 [.int .i64 0, .int .i64 0], .live 80 [.func 46 [.ptr 4 0]], .live 4 [.bool true]], []⟩)
      (fun x => x.1.2 - x.1.1) (fun _ => ⟨rfl, rfl⟩) ⟨(0, 20001), by simp⟩ (by apply sub_of <;> simp only [go_sem, ↓reduceIte, Nat.reduceAdd, Nat.reduceSub, Nat.reduceMul, Nat.reduceEqDiff, Nat.reduceLT, Nat.reduceLeDiff, Int.reduceToNat, Int.reduceLE, Int.reduceLT, Int.reduceEq, Int.reduceNeg, reduceCtorEq] <;> (try simp)) ?_
    rintro ⟨⟨i, j⟩, hij, hj, hs⟩
    simp only [] at hij hj hs
    simp only [in_eq, rink_eq, valid_eq, bound_eq, Try.f14, Try.f41, Try.f42, Try.f43, go_sem, ↓reduceIte, Nat.reduceAdd, Nat.reduceSub, Nat.reduceMul, Nat.reduceEqDiff, Nat.reduceLT, Nat.reduceLeDiff, Int.reduceToNat, Int.reduceLE, Int.reduceLT, Int.reduceEq, Int.reduceNeg, reduceCtorEq]
    refine ⟨fun d1 => ?_, fun d1 => ?_⟩
    · simp only [decide_eq_true_eq] at d1
      simp only [mid_eq (show i + j ≤ 100000 by omega)]
      generalize hm : (i + j) / 2 = m
      have hm1 : i ≤ m ∧ m < j := by omega
      -- zones
      refine loop_of { a : Nat // a ≤ n ∧ ∀ b, b < a → ∀ k, k < passes.toNat → least ≤ after wh ph (m : Int) (z b 0) (k + 1) }
        (fun a => [(14, .int .i64 (a.1 : Int)), (13, .int .i64 (n : Int)), (12, .row n 4 fun i j => .int .i64 (z i j)), (0, .int .i64 (m : Int)), (1, .ptr 0 0), (2, .ptr 3 0), (3, .ptr 1 0), (4, .ptr 2 0), (5, .ptr 7 0), (6, .ptr 8 0)])
        (fun _ => ⟨[.live 22 [.row n 4 fun i j => .int .i64 (z i j)], .live 24 [.int .i64 wl, .int .i64 wh], .live 24 [.int .i64 pl, .int .i64 ph], .live 3 [.int .i64 passes], .live 3 [.int .i64 least], .live 3 [.int .i64 most], .live 24 [.int .i64 0, .int .i64 0], .live 80 [.func 46 [.ptr 4 0]], .live 4 [.bool true]], []⟩)
        (fun a => n - a.1) (fun _ => ⟨rfl, rfl⟩) ⟨0, by omega, by omega⟩ (by apply sub_of <;> simp only [go_sem, ↓reduceIte, Nat.reduceAdd, Nat.reduceSub, Nat.reduceMul, Nat.reduceEqDiff, Nat.reduceLT, Nat.reduceLeDiff, Int.reduceToNat, Int.reduceLE, Int.reduceLT, Int.reduceEq, Int.reduceNeg, reduceCtorEq] <;> (try simp)) ?_
      rintro ⟨a, ha, hb⟩
      simp only [in_eq, rink_eq, valid_eq, bound_eq, Try.f14, Try.f41, Try.f42, Try.f43, go_sem, ↓reduceIte, Nat.reduceAdd, Nat.reduceSub, Nat.reduceMul, Nat.reduceEqDiff, Nat.reduceLT, Nat.reduceLeDiff, Int.reduceToNat, Int.reduceLE, Int.reduceLT, Int.reduceEq, Int.reduceNeg, reduceCtorEq]
      refine ⟨fun e1 => ⟨⟨by omega, by simpa using e1⟩, ?_⟩, fun e1 => ?_⟩
      · simp only [decide_eq_true_eq] at e1
        have e1' : a < n := by omega
        have hok := b1.2 a e1'
        simp only [okZ, Bool.and_eq_true, sp3_iff] at hok
        have hw := fun k => after_bd (w := wh) (p := ph) (a := (m : Int)) (x := z a 0) (by omega) (by omega) (by omega) (by omega) (by omega) (by omega) k
        have hv := fun k => after_bd (w := wl) (p := pl) (a := (m : Int)) (x := z a 1) (by omega) (by omega) (by omega) (by omega) (by omega) (by omega) k
        -- passes
        refine loop_of { q : Nat // q ≤ passes.toNat ∧ ∀ k, k < q → least ≤ after wh ph (m : Int) (z a 0) (k + 1) }
          (fun q => [(21, .int .i64 (q.1 : Int)), (20, .int .i64 passes), (11, .ptr 10 0), (14, .int .i64 (a : Int)), (13, .int .i64 (n : Int)), (12, .row n 4 fun i j => .int .i64 (z i j)), (0, .int .i64 (m : Int)), (1, .ptr 0 0), (2, .ptr 3 0), (3, .ptr 1 0), (4, .ptr 2 0), (5, .ptr 7 0), (6, .ptr 8 0)])
          (fun q => ⟨[.live 22 [.row n 4 fun i j => .int .i64 (z i j)], .live 24 [.int .i64 wl, .int .i64 wh], .live 24 [.int .i64 pl, .int .i64 ph], .live 3 [.int .i64 passes], .live 3 [.int .i64 least], .live 3 [.int .i64 most], .live 24 [.int .i64 0, .int .i64 0], .live 80 [.func 46 [.ptr 4 0]], .live 4 [.bool true], .dead, .live 77 [.int .i64 (after wh ph (m : Int) (z a 0) q.1), .int .i64 (after wl pl (m : Int) (z a 1) q.1)]], []⟩)
          (fun q => passes.toNat - q.1) (fun _ => ⟨rfl, rfl⟩) ⟨0, by omega, by omega⟩ (by apply sub_of <;> simp only [after, go_sem, ↓reduceIte, Nat.reduceAdd, Nat.reduceSub, Nat.reduceMul, Nat.reduceEqDiff, Nat.reduceLT, Nat.reduceLeDiff, Int.reduceToNat, Int.reduceLE, Int.reduceLT, Int.reduceEq, Int.reduceNeg, reduceCtorEq] <;> (try simp)) ?_
        rintro ⟨q, hq1, hq2⟩
        simp only [in_eq, rink_eq, valid_eq, bound_eq, less_eq, more_eq, Try.f14, Try.f41, Try.f42, Try.f43, Try.f46, Try.f47, p43_7, p43_8, go_sem, ↓reduceIte, Nat.reduceAdd, Nat.reduceSub, Nat.reduceMul, Nat.reduceEqDiff, Nat.reduceLT, Nat.reduceLeDiff, Int.reduceToNat, Int.reduceLE, Int.reduceLT, Int.reduceEq, Int.reduceNeg, reduceCtorEq]
        have hwq := hw q
        have hvq := hv q
        have hwp : IntKind.i64.wrap (max 0 (IntKind.i64.wrap (max 0 (IntKind.i64.wrap (after wh ph (m : Int) (z a 0) q - wh)) - ph)) + (m : Int)) = after wh ph (m : Int) (z a 0) (q + 1) := pass_wrap (by omega) (by omega) (by omega) (by omega) (by omega) (by omega) (by omega) (by omega)
        have hvp : IntKind.i64.wrap (max 0 (IntKind.i64.wrap (max 0 (IntKind.i64.wrap (after wl pl (m : Int) (z a 1) q - wl)) - pl)) + (m : Int)) = after wl pl (m : Int) (z a 1) (q + 1) := pass_wrap (by omega) (by omega) (by omega) (by omega) (by omega) (by omega) (by omega) (by omega)
        simp only [hwp, hvp]
        refine ⟨fun f1 => ⟨⟨by kernel_rfl, by kernel_rfl⟩, ⟨by kernel_rfl, by kernel_rfl⟩, fun f2 => ?_, fun f2 => ?_⟩, fun f1 => ?_⟩
        · simp only [decide_eq_true_eq] at f1
          have f3 : ¬ (least ≤ after wh ph (m : Int) (z a 0) (q + 1)) := by simpa using f2
          have hp : (enoughB n passes.toNat (fun i => z i 0) wh ph least) m = false := by
            simp only [enoughB]
            rw [all2_false (p := fun i k => decide (least ≤ after wh ph (m : Int) (z i 0) (k + 1))) e1' (q := q) (by omega) (by simpa using f3)]
          have st := srch_step (enoughB n passes.toNat (fun i => z i 0) wh ph least) (i := i) (j := j) (by omega)
          rw [hm, hp] at st
          rw [wrap_id (by omega) (by omega)]
          refine ⟨⟨(m + 1, j), by simp only []; omega, by simp only []; omega, by simp only []; rw [← hs, st]; simp⟩, by simp only []; omega, by apply sub_of <;> simp only [go_sem, ↓reduceIte, Nat.reduceAdd, Nat.reduceSub, Nat.reduceMul, Nat.reduceEqDiff, Nat.reduceLT, Nat.reduceLeDiff, Int.reduceToNat, Int.reduceLE, Int.reduceLT, Int.reduceEq, Int.reduceNeg, reduceCtorEq] <;> (try simp)⟩
        · simp only [decide_eq_true_eq] at f1
          have f3 : least ≤ after wh ph (m : Int) (z a 0) (q + 1) := by simpa using f2
          rw [wrap_id (x := (q : Int) + 1) (by omega) (by omega)]
          refine ⟨⟨q + 1, by omega, fun k hk => ?_⟩, by simp only []; omega, by apply sub_of <;> simp only [go_sem, ↓reduceIte, Nat.reduceAdd, Nat.reduceSub, Nat.reduceMul, Nat.reduceEqDiff, Nat.reduceLT, Nat.reduceLeDiff, Int.reduceToNat, Int.reduceLE, Int.reduceLT, Int.reduceEq, Int.reduceNeg, reduceCtorEq] <;> (try simp)⟩
          by_cases e : k = q
          · subst e; exact f3
          · exact hq2 k (by omega)
        · simp only [decide_eq_false_iff_not] at f1
          rw [wrap_id (x := (a : Int) + 1) (by omega) (by omega)]
          refine ⟨⟨a + 1, by omega, fun b hb1 k hk => ?_⟩, by simp only []; omega, by apply sub_of <;> simp only [go_sem, ↓reduceIte, Nat.reduceAdd, Nat.reduceSub, Nat.reduceMul, Nat.reduceEqDiff, Nat.reduceLT, Nat.reduceLeDiff, Int.reduceToNat, Int.reduceLE, Int.reduceLT, Int.reduceEq, Int.reduceNeg, reduceCtorEq] <;> (try simp)⟩
          by_cases e : b = a
          · subst e; exact hq2 k (by omega)
          · exact hb b (by omega) k hk
      · simp only [decide_eq_false_iff_not] at e1
        have hp : (enoughB n passes.toNat (fun i => z i 0) wh ph least) m = true := by
          have : a = n := by omega
          subst this
          simp only [enoughB]
          rw [all2_true (p := fun i k => decide (least ≤ after wh ph (m : Int) (z i 0) (k + 1))) |>.2 fun b hb1 k hk => by simpa using hb b hb1 k hk]
        have st := srch_step (enoughB n passes.toNat (fun i => z i 0) wh ph least) (i := i) (j := j) (by omega)
        rw [hm, hp] at st
        skip
        refine ⟨⟨(i, m), by simp only []; omega, by simp only []; omega, by simp only []; rw [← hs, st]; simp⟩, by simp only []; omega, by apply sub_of <;> simp only [go_sem, ↓reduceIte, Nat.reduceAdd, Nat.reduceSub, Nat.reduceMul, Nat.reduceEqDiff, Nat.reduceLT, Nat.reduceLeDiff, Int.reduceToNat, Int.reduceLE, Int.reduceLT, Int.reduceEq, Int.reduceNeg, reduceCtorEq] <;> (try simp)⟩
    · simp only [decide_eq_false_iff_not] at d1
      have e : j = i := by omega
      subst e
      rw [srch_end] at hs
      obtain ⟨en, rfl⟩ : ∃ en, en = j := ⟨j, rfl⟩
      clear hij d1
      have hse := hs
      have hej := hj
      clear hs hj
      -- the search 2
      refine loop_of { x : Nat × Nat // x.1 ≤ x.2 ∧ x.2 ≤ 20001 ∧ srch (muchB n passes.toNat (fun i => z i 1) wl pl most) (x.2 - x.1) x.1 x.2 = srch (muchB n passes.toNat (fun i => z i 1) wl pl most) 20001 0 20001 }
        (fun x => [(6, .int .i64 (x.1.2 : Int)), (5, .int .i64 (x.1.1 : Int)), (1, .func 43 [.ptr 0 0, .ptr 3 0, .ptr 1 0, .ptr 2 0, .ptr 9 0, .ptr 10 0])])
        (fun _ => ⟨[.live 22 [.row n 4 fun i j => .int .i64 (z i j)], .live 24 [.int .i64 wl, .int .i64 wh], .live 24 [.int .i64 pl, .int .i64 ph], .live 3 [.int .i64 passes], .live 3 [.int .i64 least], .live 3 [.int .i64 most], .live 24 [.int .i64 0, .int .i64 0], .dead, .dead, .live 80 [.func 47 [.ptr 5 0]], .live 4 [.bool false]], []⟩)
        (fun x => x.1.2 - x.1.1) (fun _ => ⟨rfl, rfl⟩) ⟨(0, 20001), by simp⟩ (by apply sub_of <;> simp only [go_sem, ↓reduceIte, Nat.reduceAdd, Nat.reduceSub, Nat.reduceMul, Nat.reduceEqDiff, Nat.reduceLT, Nat.reduceLeDiff, Int.reduceToNat, Int.reduceLE, Int.reduceLT, Int.reduceEq, Int.reduceNeg, reduceCtorEq] <;> (try simp)) ?_
      rintro ⟨⟨i, j⟩, hij, hj, hs⟩
      simp only [] at hij hj hs
      simp only [in_eq, rink_eq, valid_eq, bound_eq, Try.f14, Try.f41, Try.f42, Try.f43, go_sem, ↓reduceIte, Nat.reduceAdd, Nat.reduceSub, Nat.reduceMul, Nat.reduceEqDiff, Nat.reduceLT, Nat.reduceLeDiff, Int.reduceToNat, Int.reduceLE, Int.reduceLT, Int.reduceEq, Int.reduceNeg, reduceCtorEq]
      refine ⟨fun d1 => ?_, fun d1 => ?_⟩
      · simp only [decide_eq_true_eq] at d1
        simp only [mid_eq (show i + j ≤ 100000 by omega)]
        generalize hm : (i + j) / 2 = m
        have hm1 : i ≤ m ∧ m < j := by omega
        -- zones
        refine loop_of { a : Nat // a ≤ n ∧ ∀ b, b < a → ∀ k, k < passes.toNat → after wl pl (m : Int) (z b 1) (k + 1) ≤ most }
          (fun a => [(14, .int .i64 (a.1 : Int)), (13, .int .i64 (n : Int)), (12, .row n 4 fun i j => .int .i64 (z i j)), (0, .int .i64 (m : Int)), (1, .ptr 0 0), (2, .ptr 3 0), (3, .ptr 1 0), (4, .ptr 2 0), (5, .ptr 9 0), (6, .ptr 10 0)])
          (fun _ => ⟨[.live 22 [.row n 4 fun i j => .int .i64 (z i j)], .live 24 [.int .i64 wl, .int .i64 wh], .live 24 [.int .i64 pl, .int .i64 ph], .live 3 [.int .i64 passes], .live 3 [.int .i64 least], .live 3 [.int .i64 most], .live 24 [.int .i64 0, .int .i64 0], .dead, .dead, .live 80 [.func 47 [.ptr 5 0]], .live 4 [.bool false]], []⟩)
          (fun a => n - a.1) (fun _ => ⟨rfl, rfl⟩) ⟨0, by omega, by omega⟩ (by apply sub_of <;> simp only [go_sem, ↓reduceIte, Nat.reduceAdd, Nat.reduceSub, Nat.reduceMul, Nat.reduceEqDiff, Nat.reduceLT, Nat.reduceLeDiff, Int.reduceToNat, Int.reduceLE, Int.reduceLT, Int.reduceEq, Int.reduceNeg, reduceCtorEq] <;> (try simp)) ?_
        rintro ⟨a, ha, hb⟩
        simp only [in_eq, rink_eq, valid_eq, bound_eq, Try.f14, Try.f41, Try.f42, Try.f43, go_sem, ↓reduceIte, Nat.reduceAdd, Nat.reduceSub, Nat.reduceMul, Nat.reduceEqDiff, Nat.reduceLT, Nat.reduceLeDiff, Int.reduceToNat, Int.reduceLE, Int.reduceLT, Int.reduceEq, Int.reduceNeg, reduceCtorEq]
        refine ⟨fun e1 => ⟨⟨by omega, by simpa using e1⟩, ?_⟩, fun e1 => ?_⟩
        · simp only [decide_eq_true_eq] at e1
          have e1' : a < n := by omega
          have hok := b1.2 a e1'
          simp only [okZ, Bool.and_eq_true, sp3_iff] at hok
          have hw := fun k => after_bd (w := wh) (p := ph) (a := (m : Int)) (x := z a 0) (by omega) (by omega) (by omega) (by omega) (by omega) (by omega) k
          have hv := fun k => after_bd (w := wl) (p := pl) (a := (m : Int)) (x := z a 1) (by omega) (by omega) (by omega) (by omega) (by omega) (by omega) k
          -- passes
          refine loop_of { q : Nat // q ≤ passes.toNat ∧ ∀ k, k < q → after wl pl (m : Int) (z a 1) (k + 1) ≤ most }
            (fun q => [(21, .int .i64 (q.1 : Int)), (20, .int .i64 passes), (11, .ptr 12 0), (14, .int .i64 (a : Int)), (13, .int .i64 (n : Int)), (12, .row n 4 fun i j => .int .i64 (z i j)), (0, .int .i64 (m : Int)), (1, .ptr 0 0), (2, .ptr 3 0), (3, .ptr 1 0), (4, .ptr 2 0), (5, .ptr 9 0), (6, .ptr 10 0)])
            (fun q => ⟨[.live 22 [.row n 4 fun i j => .int .i64 (z i j)], .live 24 [.int .i64 wl, .int .i64 wh], .live 24 [.int .i64 pl, .int .i64 ph], .live 3 [.int .i64 passes], .live 3 [.int .i64 least], .live 3 [.int .i64 most], .live 24 [.int .i64 0, .int .i64 0], .dead, .dead, .live 80 [.func 47 [.ptr 5 0]], .live 4 [.bool false], .dead, .live 77 [.int .i64 (after wh ph (m : Int) (z a 0) q.1), .int .i64 (after wl pl (m : Int) (z a 1) q.1)]], []⟩)
            (fun q => passes.toNat - q.1) (fun _ => ⟨rfl, rfl⟩) ⟨0, by omega, by omega⟩ (by apply sub_of <;> simp only [after, go_sem, ↓reduceIte, Nat.reduceAdd, Nat.reduceSub, Nat.reduceMul, Nat.reduceEqDiff, Nat.reduceLT, Nat.reduceLeDiff, Int.reduceToNat, Int.reduceLE, Int.reduceLT, Int.reduceEq, Int.reduceNeg, reduceCtorEq] <;> (try simp)) ?_
          rintro ⟨q, hq1, hq2⟩
          simp only [in_eq, rink_eq, valid_eq, bound_eq, less_eq, more_eq, Try.f14, Try.f41, Try.f42, Try.f43, Try.f46, Try.f47, p43_7, p43_8, go_sem, ↓reduceIte, Nat.reduceAdd, Nat.reduceSub, Nat.reduceMul, Nat.reduceEqDiff, Nat.reduceLT, Nat.reduceLeDiff, Int.reduceToNat, Int.reduceLE, Int.reduceLT, Int.reduceEq, Int.reduceNeg, reduceCtorEq]
          have hwq := hw q
          have hvq := hv q
          have hwp : IntKind.i64.wrap (max 0 (IntKind.i64.wrap (max 0 (IntKind.i64.wrap (after wh ph (m : Int) (z a 0) q - wh)) - ph)) + (m : Int)) = after wh ph (m : Int) (z a 0) (q + 1) := pass_wrap (by omega) (by omega) (by omega) (by omega) (by omega) (by omega) (by omega) (by omega)
          have hvp : IntKind.i64.wrap (max 0 (IntKind.i64.wrap (max 0 (IntKind.i64.wrap (after wl pl (m : Int) (z a 1) q - wl)) - pl)) + (m : Int)) = after wl pl (m : Int) (z a 1) (q + 1) := pass_wrap (by omega) (by omega) (by omega) (by omega) (by omega) (by omega) (by omega) (by omega)
          simp only [hwp, hvp]
          refine ⟨fun f1 => ⟨⟨by kernel_rfl, by kernel_rfl⟩, ⟨by kernel_rfl, by kernel_rfl⟩, fun f2 => ?_, fun f2 => ?_⟩, fun f1 => ?_⟩
          · simp only [decide_eq_true_eq] at f1
            have f3 : ¬ (after wl pl (m : Int) (z a 1) (q + 1) ≤ most) := by simpa using f2
            have hp : (muchB n passes.toNat (fun i => z i 1) wl pl most) m = true := by
              simp only [muchB]
              rw [all2_false (p := fun i k => decide (after wl pl (m : Int) (z i 1) (k + 1) ≤ most)) e1' (q := q) (by omega) (by simpa using f3)]; rfl
            have st := srch_step (muchB n passes.toNat (fun i => z i 1) wl pl most) (i := i) (j := j) (by omega)
            rw [hm, hp] at st
            skip
            refine ⟨⟨(i, m), by simp only []; omega, by simp only []; omega, by simp only []; rw [← hs, st]; simp⟩, by simp only []; omega, by apply sub_of <;> simp only [go_sem, ↓reduceIte, Nat.reduceAdd, Nat.reduceSub, Nat.reduceMul, Nat.reduceEqDiff, Nat.reduceLT, Nat.reduceLeDiff, Int.reduceToNat, Int.reduceLE, Int.reduceLT, Int.reduceEq, Int.reduceNeg, reduceCtorEq] <;> (try simp)⟩
          · simp only [decide_eq_true_eq] at f1
            have f3 : after wl pl (m : Int) (z a 1) (q + 1) ≤ most := by simpa using f2
            rw [wrap_id (x := (q : Int) + 1) (by omega) (by omega)]
            refine ⟨⟨q + 1, by omega, fun k hk => ?_⟩, by simp only []; omega, by apply sub_of <;> simp only [go_sem, ↓reduceIte, Nat.reduceAdd, Nat.reduceSub, Nat.reduceMul, Nat.reduceEqDiff, Nat.reduceLT, Nat.reduceLeDiff, Int.reduceToNat, Int.reduceLE, Int.reduceLT, Int.reduceEq, Int.reduceNeg, reduceCtorEq] <;> (try simp)⟩
            by_cases e : k = q
            · subst e; exact f3
            · exact hq2 k (by omega)
          · simp only [decide_eq_false_iff_not] at f1
            rw [wrap_id (x := (a : Int) + 1) (by omega) (by omega)]
            refine ⟨⟨a + 1, by omega, fun b hb1 k hk => ?_⟩, by simp only []; omega, by apply sub_of <;> simp only [go_sem, ↓reduceIte, Nat.reduceAdd, Nat.reduceSub, Nat.reduceMul, Nat.reduceEqDiff, Nat.reduceLT, Nat.reduceLeDiff, Int.reduceToNat, Int.reduceLE, Int.reduceLT, Int.reduceEq, Int.reduceNeg, reduceCtorEq] <;> (try simp)⟩
            by_cases e : b = a
            · subst e; exact hq2 k (by omega)
            · exact hb b (by omega) k hk
        · simp only [decide_eq_false_iff_not] at e1
          have hp : (muchB n passes.toNat (fun i => z i 1) wl pl most) m = false := by
            have : a = n := by omega
            subst this
            simp only [muchB]
            rw [all2_true (p := fun i k => decide (after wl pl (m : Int) (z i 1) (k + 1) ≤ most)) |>.2 fun b hb1 k hk => by simpa using hb b hb1 k hk]; rfl
          have st := srch_step (muchB n passes.toNat (fun i => z i 1) wl pl most) (i := i) (j := j) (by omega)
          rw [hm, hp] at st
          rw [wrap_id (by omega) (by omega)]
          refine ⟨⟨(m + 1, j), by simp only []; omega, by simp only []; omega, by simp only []; rw [← hs, st]; simp⟩, by simp only []; omega, by apply sub_of <;> simp only [go_sem, ↓reduceIte, Nat.reduceAdd, Nat.reduceSub, Nat.reduceMul, Nat.reduceEqDiff, Nat.reduceLT, Nat.reduceLeDiff, Int.reduceToNat, Int.reduceLE, Int.reduceLT, Int.reduceEq, Int.reduceNeg, reduceCtorEq] <;> (try simp)⟩
      · simp only [decide_eq_false_iff_not] at d1
        have e : j = i := by omega
        subst e
        rw [srch_end] at hs
        have hwr : waterR n z wl wh pl ph passes least most = if j ≤ en then .tup [.agg [.int .i64 0, .int .i64 0], .int .i64 4] else .tup [.agg [.int .i64 (en : Int), .int .i64 ((j : Int) - 1)], .int .i64 0] := by
          unfold waterR
          rw [if_pos ⟨c1, c2, c3⟩, if_pos ⟨c4, c5.1, c5.2⟩]
          simp only [← hse, ← hs]
        rw [hwr]
        refine ⟨fun g1 => ?_, fun g1 => ?_⟩
        · simp only [decide_eq_true_eq] at g1
          rw [if_pos (by omega)]
        · simp only [decide_eq_false_iff_not] at g1
          rw [if_neg (by omega), wrap_id (by omega) (by omega)]
  · cases hq
end Go.Eng
end

/- goes, Water: the document's. -/
section
namespace Go.Eng
open Go Go.RowKit Go.Proofs
set_option maxRecDepth 100000
set_option maxHeartbeats 4000000
def goesR (n passes : Nat) (z : Nat → Nat → Int) (wl wh pl ph limit a : Int) : Bool → Bool
  | true => allU (fun i => allU (fun k => decide (limit ≤ after wh ph a (z i 0) (k + 1))) passes) n
  | false => allU (fun i => allU (fun k => decide (after wl pl a (z i 1) (k + 1) ≤ limit)) passes) n
def goesPre (n : Nat) (z : Nat → Nat → Int) (wl wh pl ph passes a : Int) : Prop :=
  rinkB n z = true ∧ sp3 wl wh 20000 = true ∧ sp3 pl ph 20000 = true ∧ in3 passes 1 100 = true ∧ in3 a 0 20000 = true
def goesBase : BaseF := fun args => match args with
  | [.row n sz f, .agg [.int .i64 wl, .int .i64 wh], .agg [.int .i64 pl, .int .i64 ph], .int .i64 passes, .int .i64 limit, .int .i64 a, .bool thin] =>
    some ((sz = 4 ∧ IntR n 4 f) ∧ goesPre n (fun i j => iv (f i j)) wl wh pl ph passes a, .bool (goesR n passes.toNat (fun i j => iv (f i j)) wl wh pl ph limit a thin))
  | _ => none
theorem goes_eq (n : Nat) (f : Nat → Nat → SV) (wl wh pl ph passes limit a : Int) (thin : Bool) : goesBase [.row n 4 f, .agg [.int .i64 wl, .int .i64 wh], .agg [.int .i64 pl, .int .i64 ph], .int .i64 passes, .int .i64 limit, .int .i64 a, .bool thin] =
    some ((4 = 4 ∧ IntR n 4 f) ∧ goesPre n (fun i j => iv (f i j)) wl wh pl ph passes a, .bool (goesR n passes.toNat (fun i j => iv (f i j)) wl wh pl ph limit a thin)) := rfl
theorem goes_base : Base Try.prog 50 goesBase := by
  intro args p v hq hp
  unfold goesBase at hq
  split at hq
  rotate_left
  · cases hq
  rename_i n sz f wl wh pl ph passes limit a thin
  cases hq
  obtain ⟨⟨rfl, hf⟩, hpre⟩ := hp
  refine base_of (C := cx [] [] [(67, sideBase)] [] none) (cx_ok trivial ⟨side_base, trivial⟩) rfl (g := 50) (fn := Try.f50)
      (args' := [.row n 4 fun i j => .int .i64 (iv (f i j)), .agg [.int .i64 wl, .int .i64 wh], .agg [.int .i64 pl, .int .i64 ph], .int .i64 passes, .int .i64 limit, .int .i64 a, .bool thin]) (fn_50) rfl 1000 (by simp only [BdL, Bd, and_true]; intro i j hi hj; rw [hf i j hi hj]; trivial) ⟨SameD.int hf, SameD.rfl' _, SameD.rfl' _, SameD.rfl' _, SameD.rfl' _, SameD.rfl' _, SameD.rfl' _, trivial⟩ ?_
  generalize hz : (fun i j => iv (f i j)) = z at hpre ⊢
  have hz' : ∀ i j, iv (f i j) = z i j := fun i j => by rw [← hz]
  simp only [hz']
  obtain ⟨c1, c2, c3, c4, c5⟩ := hpre
  have b1 := rinkB_iff.1 c1
  have b2 := sp3_iff.1 c2
  have b3 := sp3_iff.1 c3
  have b4 := in3_iff.1 c4
  have b5 := in3_iff.1 c5
  cases thin
  · simp only [side_eq, Try.f50, go_sem, ↓reduceIte, Nat.reduceAdd, Nat.reduceSub, Nat.reduceMul, Nat.reduceEqDiff, Nat.reduceLT, Nat.reduceLeDiff, Int.reduceToNat, Int.reduceLE, Int.reduceLT, Int.reduceEq, Int.reduceNeg, reduceCtorEq]
    refine loop_of { i : Nat // i ≤ n ∧ ∀ b, b < i → ∀ k, k < passes.toNat → after wl pl a (z b 1) (k + 1) ≤ limit } (fun i => [(15, .int .i64 (i.1 : Int)), (0, .row n 4 fun i j => .int .i64 (z i j)), (3, .int .i64 passes), (4, .int .i64 limit), (5, .int .i64 a), (6, .bool false), (8, .ptr 0 0), (9, .ptr 1 0)]) (fun _ => ⟨[.live 24 [.int .i64 wl, .int .i64 wh], .live 24 [.int .i64 pl, .int .i64 ph]], []⟩) (fun i => n - i.1) (fun _ => ⟨rfl, rfl⟩) ⟨0, by omega, by omega⟩ (by apply sub_of <;> simp only [after, go_sem, ↓reduceIte, Nat.reduceAdd, Nat.reduceSub, Nat.reduceMul, Nat.reduceEqDiff, Nat.reduceLT, Nat.reduceLeDiff, Int.reduceToNat, Int.reduceLE, Int.reduceLT, Int.reduceEq, Int.reduceNeg, reduceCtorEq] <;> (try simp)) ?_
    rintro ⟨i, hi, hb⟩
    simp only [side_eq, Try.f50, go_sem, ↓reduceIte, Nat.reduceAdd, Nat.reduceSub, Nat.reduceMul, Nat.reduceEqDiff, Nat.reduceLT, Nat.reduceLeDiff, Int.reduceToNat, Int.reduceLE, Int.reduceLT, Int.reduceEq, Int.reduceNeg, reduceCtorEq]
    refine ⟨fun e1 => ?_, fun e1 => ?_⟩
    · simp only [decide_eq_true_eq] at e1
      have e1' : i < n := by omega
      have hok := b1.2 i e1'
      simp only [okZ, Bool.and_eq_true, sp3_iff] at hok
      have hw := fun k => after_bd (w := wl) (p := pl) (a := a) (x := (z i 1)) (by omega) (by omega) (by omega) (by omega) (by omega) (by omega) k
      refine ⟨⟨by omega, by omega⟩, ?_⟩
      refine loop_of { q : Nat // q ≤ passes.toNat ∧ ∀ k, k < q → after wl pl a (z i 1) (k + 1) ≤ limit } (fun q => [(17, .int .i64 (q.1 : Int)), (16, .int .i64 (after wl pl a (z i 1) q.1)), (15, .int .i64 (i : Int)), (0, .row n 4 fun i j => .int .i64 (z i j)), (3, .int .i64 passes), (4, .int .i64 limit), (5, .int .i64 a), (6, .bool false), (8, .ptr 0 0), (9, .ptr 1 0)]) (fun _ => ⟨[.live 24 [.int .i64 wl, .int .i64 wh], .live 24 [.int .i64 pl, .int .i64 ph]], []⟩) (fun q => passes.toNat - q.1) (fun _ => ⟨rfl, rfl⟩) ⟨0, by omega, by omega⟩ (by apply sub_of <;> simp only [after, go_sem, ↓reduceIte, Nat.reduceAdd, Nat.reduceSub, Nat.reduceMul, Nat.reduceEqDiff, Nat.reduceLT, Nat.reduceLeDiff, Int.reduceToNat, Int.reduceLE, Int.reduceLT, Int.reduceEq, Int.reduceNeg, reduceCtorEq] <;> (try simp)) ?_
      rintro ⟨q, hq1, hq2⟩
      simp only [side_eq, Try.f50, go_sem, ↓reduceIte, Nat.reduceAdd, Nat.reduceSub, Nat.reduceMul, Nat.reduceEqDiff, Nat.reduceLT, Nat.reduceLeDiff, Int.reduceToNat, Int.reduceLE, Int.reduceLT, Int.reduceEq, Int.reduceNeg, reduceCtorEq]
      have hwq := hw q
      have hwp : IntKind.i64.wrap (max 0 (IntKind.i64.wrap (max 0 (IntKind.i64.wrap (after wl pl a (z i 1) q - wl)) - pl)) + a) = after wl pl a (z i 1) (q + 1) := pass_wrap (by omega) (by omega) (by omega) (by omega) (by omega) (by omega) (by omega) (by omega)
      simp only [hwp]
      refine ⟨fun f1 => ⟨fun f2 => ?_, fun f2 => ?_⟩, fun f1 => ?_⟩
      · simp only [decide_eq_true_eq] at f1
        have f3 : ¬ (after wl pl a (z i 1) (q + 1) ≤ limit) := by simpa using f2
        rw [goesR, all2_false (p := fun i k => decide (after wl pl a (z i 1) (k + 1) ≤ limit)) e1' (q := q) (by omega) (by simpa using f3)]
      · simp only [decide_eq_true_eq] at f1
        have f3 : after wl pl a (z i 1) (q + 1) ≤ limit := by simpa using f2
        rw [wrap_id (x := (q : Int) + 1) (by omega) (by omega)]
        refine ⟨⟨q + 1, by omega, fun k hk => ?_⟩, by simp only []; omega, by apply sub_of <;> simp only [after, go_sem, ↓reduceIte, Nat.reduceAdd, Nat.reduceSub, Nat.reduceMul, Nat.reduceEqDiff, Nat.reduceLT, Nat.reduceLeDiff, Int.reduceToNat, Int.reduceLE, Int.reduceLT, Int.reduceEq, Int.reduceNeg, reduceCtorEq] <;> (try simp)⟩
        by_cases e : k = q
        · subst e; exact f3
        · exact hq2 k (by omega)
      · simp only [decide_eq_false_iff_not] at f1
        rw [wrap_id (x := (i : Int) + 1) (by omega) (by omega)]
        refine ⟨⟨i + 1, by omega, fun b hb1 k hk => ?_⟩, by simp only []; omega, by apply sub_of <;> simp only [after, go_sem, ↓reduceIte, Nat.reduceAdd, Nat.reduceSub, Nat.reduceMul, Nat.reduceEqDiff, Nat.reduceLT, Nat.reduceLeDiff, Int.reduceToNat, Int.reduceLE, Int.reduceLT, Int.reduceEq, Int.reduceNeg, reduceCtorEq] <;> (try simp)⟩
        by_cases e : b = i
        · subst e; exact hq2 k (by omega)
        · exact hb b (by omega) k hk
    · simp only [decide_eq_false_iff_not] at e1
      have : i = n := by omega
      subst this
      rw [goesR, all2_true (p := fun i k => decide (after wl pl a (z i 1) (k + 1) ≤ limit)) |>.2 fun b hb1 k hk => by simpa using hb b hb1 k hk]
  · simp only [side_eq, Try.f50, go_sem, ↓reduceIte, Nat.reduceAdd, Nat.reduceSub, Nat.reduceMul, Nat.reduceEqDiff, Nat.reduceLT, Nat.reduceLeDiff, Int.reduceToNat, Int.reduceLE, Int.reduceLT, Int.reduceEq, Int.reduceNeg, reduceCtorEq]
    refine loop_of { i : Nat // i ≤ n ∧ ∀ b, b < i → ∀ k, k < passes.toNat → limit ≤ after wh ph a (z b 0) (k + 1) } (fun i => [(15, .int .i64 (i.1 : Int)), (0, .row n 4 fun i j => .int .i64 (z i j)), (3, .int .i64 passes), (4, .int .i64 limit), (5, .int .i64 a), (6, .bool true), (8, .ptr 0 0), (9, .ptr 1 0)]) (fun _ => ⟨[.live 24 [.int .i64 wl, .int .i64 wh], .live 24 [.int .i64 pl, .int .i64 ph]], []⟩) (fun i => n - i.1) (fun _ => ⟨rfl, rfl⟩) ⟨0, by omega, by omega⟩ (by apply sub_of <;> simp only [after, go_sem, ↓reduceIte, Nat.reduceAdd, Nat.reduceSub, Nat.reduceMul, Nat.reduceEqDiff, Nat.reduceLT, Nat.reduceLeDiff, Int.reduceToNat, Int.reduceLE, Int.reduceLT, Int.reduceEq, Int.reduceNeg, reduceCtorEq] <;> (try simp)) ?_
    rintro ⟨i, hi, hb⟩
    simp only [side_eq, Try.f50, go_sem, ↓reduceIte, Nat.reduceAdd, Nat.reduceSub, Nat.reduceMul, Nat.reduceEqDiff, Nat.reduceLT, Nat.reduceLeDiff, Int.reduceToNat, Int.reduceLE, Int.reduceLT, Int.reduceEq, Int.reduceNeg, reduceCtorEq]
    refine ⟨fun e1 => ?_, fun e1 => ?_⟩
    · simp only [decide_eq_true_eq] at e1
      have e1' : i < n := by omega
      have hok := b1.2 i e1'
      simp only [okZ, Bool.and_eq_true, sp3_iff] at hok
      have hw := fun k => after_bd (w := wh) (p := ph) (a := a) (x := (z i 0)) (by omega) (by omega) (by omega) (by omega) (by omega) (by omega) k
      refine ⟨⟨by omega, by omega⟩, ⟨by omega, by omega⟩, ?_⟩
      refine loop_of { q : Nat // q ≤ passes.toNat ∧ ∀ k, k < q → limit ≤ after wh ph a (z i 0) (k + 1) } (fun q => [(17, .int .i64 (q.1 : Int)), (16, .int .i64 (after wh ph a (z i 0) q.1)), (15, .int .i64 (i : Int)), (0, .row n 4 fun i j => .int .i64 (z i j)), (3, .int .i64 passes), (4, .int .i64 limit), (5, .int .i64 a), (6, .bool true), (8, .ptr 0 0), (9, .ptr 1 0)]) (fun _ => ⟨[.live 24 [.int .i64 wl, .int .i64 wh], .live 24 [.int .i64 pl, .int .i64 ph]], []⟩) (fun q => passes.toNat - q.1) (fun _ => ⟨rfl, rfl⟩) ⟨0, by omega, by omega⟩ (by apply sub_of <;> simp only [after, go_sem, ↓reduceIte, Nat.reduceAdd, Nat.reduceSub, Nat.reduceMul, Nat.reduceEqDiff, Nat.reduceLT, Nat.reduceLeDiff, Int.reduceToNat, Int.reduceLE, Int.reduceLT, Int.reduceEq, Int.reduceNeg, reduceCtorEq] <;> (try simp)) ?_
      rintro ⟨q, hq1, hq2⟩
      simp only [side_eq, Try.f50, go_sem, ↓reduceIte, Nat.reduceAdd, Nat.reduceSub, Nat.reduceMul, Nat.reduceEqDiff, Nat.reduceLT, Nat.reduceLeDiff, Int.reduceToNat, Int.reduceLE, Int.reduceLT, Int.reduceEq, Int.reduceNeg, reduceCtorEq]
      have hwq := hw q
      have hwp : IntKind.i64.wrap (max 0 (IntKind.i64.wrap (max 0 (IntKind.i64.wrap (after wh ph a (z i 0) q - wh)) - ph)) + a) = after wh ph a (z i 0) (q + 1) := pass_wrap (by omega) (by omega) (by omega) (by omega) (by omega) (by omega) (by omega) (by omega)
      simp only [hwp]
      refine ⟨fun f1 => ⟨fun f2 => ?_, fun f2 => ?_⟩, fun f1 => ?_⟩
      · simp only [decide_eq_true_eq] at f1
        have f3 : ¬ (limit ≤ after wh ph a (z i 0) (q + 1)) := by simpa using f2
        rw [goesR, all2_false (p := fun i k => decide (limit ≤ after wh ph a (z i 0) (k + 1))) e1' (q := q) (by omega) (by simpa using f3)]
      · simp only [decide_eq_true_eq] at f1
        have f3 : limit ≤ after wh ph a (z i 0) (q + 1) := by simpa using f2
        rw [wrap_id (x := (q : Int) + 1) (by omega) (by omega)]
        refine ⟨⟨q + 1, by omega, fun k hk => ?_⟩, by simp only []; omega, by apply sub_of <;> simp only [after, go_sem, ↓reduceIte, Nat.reduceAdd, Nat.reduceSub, Nat.reduceMul, Nat.reduceEqDiff, Nat.reduceLT, Nat.reduceLeDiff, Int.reduceToNat, Int.reduceLE, Int.reduceLT, Int.reduceEq, Int.reduceNeg, reduceCtorEq] <;> (try simp)⟩
        by_cases e : k = q
        · subst e; exact f3
        · exact hq2 k (by omega)
      · simp only [decide_eq_false_iff_not] at f1
        rw [wrap_id (x := (i : Int) + 1) (by omega) (by omega)]
        refine ⟨⟨i + 1, by omega, fun b hb1 k hk => ?_⟩, by simp only []; omega, by apply sub_of <;> simp only [after, go_sem, ↓reduceIte, Nat.reduceAdd, Nat.reduceSub, Nat.reduceMul, Nat.reduceEqDiff, Nat.reduceLT, Nat.reduceLeDiff, Int.reduceToNat, Int.reduceLE, Int.reduceLT, Int.reduceEq, Int.reduceNeg, reduceCtorEq] <;> (try simp)⟩
        by_cases e : b = i
        · subst e; exact hq2 k (by omega)
        · exact hb b (by omega) k hk
    · simp only [decide_eq_false_iff_not] at e1
      have : i = n := by omega
      subst this
      rw [goesR, all2_true (p := fun i k => decide (limit ≤ after wh ph a (z i 0) (k + 1))) |>.2 fun b hb1 k hk => by simpa using hb b hb1 k hk]

/-- The least and the greatest amount, tried one by one. -/
def tried (g : Nat → Bool) : Nat → Int × Int
  | 0 => (20001, -1)
  | a + 1 => if g a = true then (min (tried g a).1 (a : Int), (a : Int)) else tried g a
def goodB (n passes : Nat) (z : Nat → Nat → Int) (wl wh pl ph least most : Int) (a : Nat) : Bool := goesR n passes z wl wh pl ph least (a : Int) true && goesR n passes z wl wh pl ph most (a : Int) false
def rwaterR (n : Nat) (z : Nat → Nat → Int) (wl wh pl ph : Int) (passes : Int) (least most : Int) : SV :=
  if rinkB n z = true ∧ sp3 wl wh 20000 = true ∧ sp3 pl ph 20000 = true then
    if in3 passes 1 100 = true ∧ in3 most 0 20000 = true ∧ in3 least 0 most = true then
      if (tried (goodB n passes.toNat z wl wh pl ph least most) 20001).2 < 0 then .tup [.agg [.int .i64 0, .int .i64 0], .int .i64 4]
      else .tup [.agg [.int .i64 (tried (goodB n passes.toNat z wl wh pl ph least most) 20001).1, .int .i64 (tried (goodB n passes.toNat z wl wh pl ph least most) 20001).2], .int .i64 0]
    else .tup [.agg [.int .i64 0, .int .i64 0], .int .i64 2]
  else .tup [.agg [.int .i64 0, .int .i64 0], .int .i64 1]
def rwaterBase : BaseF := fun args => match args with
  | [.row n sz f, .agg [.int .i64 wl, .int .i64 wh], .agg [.int .i64 pl, .int .i64 ph], .int .i64 passes, .int .i64 least, .int .i64 most] => some (sz = 4 ∧ IntR n 4 f, rwaterR n (fun i j => iv (f i j)) wl wh pl ph passes least most)
  | _ => none
theorem rwater_base : Base Try.prog 15 rwaterBase := by
  intro args p v hq hp
  unfold rwaterBase at hq
  split at hq
  rotate_left
  · cases hq
  rename_i n sz f wl wh pl ph passes least most
  cases hq
  obtain ⟨rfl, hf⟩ := hp
  refine base_of (C := cx [] [] [(16, rinkBase), (48, withinBase), (49, inBase), (50, goesBase)] [] none) (cx_ok trivial ⟨rink_base, within_base, in_base, goes_base, trivial⟩) rfl (g := 15) (fn := Try.f15)
      (args' := [.row n 4 fun i j => .int .i64 (iv (f i j)), .agg [.int .i64 wl, .int .i64 wh], .agg [.int .i64 pl, .int .i64 ph], .int .i64 passes, .int .i64 least, .int .i64 most]) (fn_15) rfl 1000 (by simp only [BdL, Bd, and_true]; intro i j hi hj; rw [hf i j hi hj]; trivial) ⟨SameD.int hf, SameD.rfl' _, SameD.rfl' _, SameD.rfl' _, SameD.rfl' _, SameD.rfl' _, trivial⟩ ?_
  generalize hz : (fun i j => iv (f i j)) = z
  have hz' : ∀ i j, iv (f i j) = z i j := fun i j => by rw [← hz]
  simp only [hz']
  simp only [in_eq, rink_eq, within_eq, Try.f15, go_sem, ↓reduceIte, Nat.reduceAdd, Nat.reduceSub, Nat.reduceMul, Nat.reduceEqDiff, Nat.reduceLT, Nat.reduceLeDiff, Int.reduceToNat, Int.reduceLE, Int.reduceLT, Int.reduceEq, Int.reduceNeg, reduceCtorEq]
  have no1 : rinkB n z = false ∨ sp3 wl wh 20000 = false ∨ sp3 pl ph 20000 = false → SV.tup [.agg [.int .i64 0, .int .i64 0], .int .i64 1] = rwaterR n z wl wh pl ph passes least most := fun h => by
    unfold rwaterR; rw [if_neg]; rintro ⟨h1, h2, h3⟩; rw [h1, h2, h3] at h; simp at h
  refine ⟨fun c1 => no1 (by simp at c1; simp [c1]), fun c1 => ⟨fun c2 => no1 (by simp at c2; simp [c2]), fun c2 => ⟨fun c3 => no1 (by simp at c3; simp [c3]), fun c3 => ?_⟩⟩⟩
  simp only [Bool.not_eq_false'] at c1 c2 c3
  have no2 : in3 passes 1 100 = false ∨ in3 most 0 20000 = false ∨ in3 least 0 most = false → SV.tup [.agg [.int .i64 0, .int .i64 0], .int .i64 2] = rwaterR n z wl wh pl ph passes least most := fun h => by
    unfold rwaterR; rw [if_pos ⟨c1, c2, c3⟩, if_neg]; rintro ⟨h1, h2, h3⟩; rw [h1, h2, h3] at h; simp at h
  refine ⟨fun c4 => no2 (by simp at c4; simp [c4]), fun c4 => ⟨fun c5 => no2 (by simp at c5; simp [c5]), fun c5 => ⟨fun c6 => no2 (by simp at c6; simp [c6]), fun c6 => ?_⟩⟩⟩
  simp only [Bool.not_eq_false'] at c4 c5 c6
  refine loop_of { a : Nat // a ≤ 20001 } (fun a => [(15, .int .i64 (a.1 : Int)), (0, .row n 4 fun i j => .int .i64 (z i j)), (3, .int .i64 passes), (4, .int .i64 least), (5, .int .i64 most), (7, .ptr 0 0), (8, .ptr 1 0), (12, .ptr 2 0), (13, .int .i64 0), (14, .ptr 3 0)])
    (fun a => ⟨[.live 24 [.int .i64 wl, .int .i64 wh], .live 24 [.int .i64 pl, .int .i64 ph], .live 24 [.int .i64 0, .int .i64 0], .live 24 [.int .i64 (tried (goodB n passes.toNat z wl wh pl ph least most) a.1).1, .int .i64 (tried (goodB n passes.toNat z wl wh pl ph least most) a.1).2]], []⟩)
    (fun a => 20001 - a.1) (fun _ => ⟨rfl, rfl⟩) ⟨0, by omega⟩ (by apply sub_of <;> simp only [tried, go_sem, ↓reduceIte, Nat.reduceAdd, Nat.reduceSub, Nat.reduceMul, Nat.reduceEqDiff, Nat.reduceLT, Nat.reduceLeDiff, Int.reduceToNat, Int.reduceLE, Int.reduceLT, Int.reduceEq, Int.reduceNeg, reduceCtorEq] <;> (try simp)) ?_
  rintro ⟨a, ha⟩
  simp only [in_eq, rink_eq, within_eq, goes_eq, Try.f15, go_sem, ↓reduceIte, Nat.reduceAdd, Nat.reduceSub, Nat.reduceMul, Nat.reduceEqDiff, Nat.reduceLT, Nat.reduceLeDiff, Int.reduceToNat, Int.reduceLE, Int.reduceLT, Int.reduceEq, Int.reduceNeg, reduceCtorEq]
  have hgp : a ≤ 20000 → goesPre n (fun i j => z i j) wl wh pl ph passes (a : Int) := fun h => ⟨c1, c2, c3, c4, in3_iff.2 ⟨by omega, by omega⟩⟩
  refine ⟨fun d1 => ?_, fun d1 => ?_⟩
  · simp only [decide_eq_true_eq] at d1
    have hg := hgp (by omega)
    rw [wrap_id (by omega) (by omega)]
    refine ⟨hg, fun g1 => ⟨hg, fun g2 => ?_, fun g2 => ?_⟩, fun g1 => ?_⟩
    · have e : tried (goodB n passes.toNat z wl wh pl ph least most) (a + 1) = (min (tried (goodB n passes.toNat z wl wh pl ph least most) a).1 (a : Int), (a : Int)) := by
        simp only [tried]; rw [if_pos]; simp only [goodB]; rw [g1, g2]; rfl
      exact ⟨⟨a + 1, by omega⟩, by simp only []; omega, by apply sub_of <;> simp only [e, go_sem, ↓reduceIte, Nat.reduceAdd, Nat.reduceSub, Nat.reduceMul, Nat.reduceEqDiff, Nat.reduceLT, Nat.reduceLeDiff, Int.reduceToNat, Int.reduceLE, Int.reduceLT, Int.reduceEq, Int.reduceNeg, reduceCtorEq] <;> (try simp)⟩
    · have e : tried (goodB n passes.toNat z wl wh pl ph least most) (a + 1) = tried (goodB n passes.toNat z wl wh pl ph least most) a := by
        simp only [tried]; rw [if_neg]; simp only [goodB]; rw [g2]; simp
      exact ⟨⟨a + 1, by omega⟩, by simp only []; omega, by apply sub_of <;> simp only [e, go_sem, ↓reduceIte, Nat.reduceAdd, Nat.reduceSub, Nat.reduceMul, Nat.reduceEqDiff, Nat.reduceLT, Nat.reduceLeDiff, Int.reduceToNat, Int.reduceLE, Int.reduceLT, Int.reduceEq, Int.reduceNeg, reduceCtorEq] <;> (try simp)⟩
    · have e : tried (goodB n passes.toNat z wl wh pl ph least most) (a + 1) = tried (goodB n passes.toNat z wl wh pl ph least most) a := by
        simp only [tried]; rw [if_neg]; simp only [goodB]; rw [g1]; simp
      exact ⟨⟨a + 1, by omega⟩, by simp only []; omega, by apply sub_of <;> simp only [e, go_sem, ↓reduceIte, Nat.reduceAdd, Nat.reduceSub, Nat.reduceMul, Nat.reduceEqDiff, Nat.reduceLT, Nat.reduceLeDiff, Int.reduceToNat, Int.reduceLE, Int.reduceLT, Int.reduceEq, Int.reduceNeg, reduceCtorEq] <;> (try simp)⟩
  · simp only [decide_eq_false_iff_not] at d1
    have e : a = 20001 := by omega
    subst e
    unfold rwaterR
    rw [if_pos ⟨c1, c2, c3⟩, if_pos ⟨c4, c5, c6⟩]
    refine ⟨fun g1 => ?_, fun g1 => ?_⟩
    · rw [if_pos (by simpa using g1)]
    · rw [if_neg (by simpa using g1)]
end Go.Eng
end

/- The plain law: both Waters tell the same. -/
section
namespace Go.Eng
theorem pass_mono {w p a b x y : Int} (hab : a ≤ b) (hxy : x ≤ y) : pass w p a x ≤ pass w p b y := by
  unfold pass; omega
theorem after_mono {w p a b x : Int} (hab : a ≤ b) : ∀ k, after w p a x k ≤ after w p b x k
  | 0 => by simp [after]
  | k + 1 => pass_mono hab (after_mono hab k)
theorem srch_mono {p : Nat → Bool} {N : Nat} (hp : ∀ a b, a ≤ b → b < N → p a = true → p b = true) : ∀ (f i j : Nat), j - i ≤ f → i ≤ j → j ≤ N → (∀ k, k < i → p k = false) → (∀ k, j ≤ k → k < N → p k = true) →
    srch p f i j ≤ N ∧ (∀ k, k < srch p f i j → p k = false) ∧ ∀ k, srch p f i j ≤ k → k < N → p k = true
  | 0, i, j, h, hij, hj, h1, h2 => by
    have : i = j := by omega
    subst this
    exact ⟨hj, h1, h2⟩
  | f + 1, i, j, h, hij, hj, h1, h2 => by
    simp only [srch]
    split
    · split
      · rename_i hlt hm
        exact srch_mono hp f i ((i + j) / 2) (by omega) (by omega) (by omega) h1 (fun k hk hkN => hp _ _ hk hkN hm)
      · rename_i hlt hm
        refine srch_mono hp f ((i + j) / 2 + 1) j (by omega) (by omega) hj (fun k hk => ?_) h2
        cases hk2 : p k with
        | false => rfl
        | true => exact absurd (hp k ((i + j) / 2) (by omega) (by omega) hk2) hm
    · have : i = j := by omega
      subst this
      exact ⟨hj, h1, h2⟩
theorem tried_of {g : Nat → Bool} {e m : Nat} : ∀ (N : Nat), N ≤ 20001 → (∀ a, a < N → (g a = true ↔ e ≤ a ∧ a < m)) → tried g N = if N ≤ e ∨ m ≤ e then ((20001 : Int), (-1 : Int)) else ((e : Int), (((min (m - 1) (N - 1) : Nat)) : Int))
  | 0, _, _ => by simp [tried]
  | N + 1, hN, hg => by
    have ih := tried_of N (by omega) (fun a ha => hg a (by omega))
    simp only [tried, ih]
    have hgN := hg N (by omega)
    by_cases h : g N = true
    · rw [if_pos h]
      obtain ⟨h1, h2⟩ := hgN.1 h
      rw [if_neg (show ¬ (N + 1 ≤ e ∨ m ≤ e) by omega)]
      by_cases h3 : N ≤ e
      · rw [if_pos (by omega)]
        have : e = N := by omega
        subst this
        simp only [Prod.mk.injEq]
        constructor <;> omega
      · rw [if_neg (by omega)]
        simp only [Prod.mk.injEq]
        constructor <;> omega
    · rw [if_neg h]
      have h1 : ¬ (e ≤ N ∧ N < m) := fun hc => h (hgN.2 hc)
      by_cases h3 : N ≤ e ∨ m ≤ e
      · rw [if_pos h3, if_pos (by omega)]
      · rw [if_neg h3, if_neg (by omega)]
        simp only [Prod.mk.injEq, true_and]
        omega
theorem waters_same (n : Nat) (z : Nat → Nat → Int) (wl wh pl ph passes least most : Int) : waterR n z wl wh pl ph passes least most = rwaterR n z wl wh pl ph passes least most := by
  unfold waterR rwaterR
  split
  rotate_left
  · rfl
  split
  rotate_left
  · rfl
  have hE : ∀ a, enoughB n passes.toNat (fun i => z i 0) wh ph least a = goesR n passes.toNat z wl wh pl ph least (a : Int) true := fun _ => rfl
  have hM : ∀ a, muchB n passes.toNat (fun i => z i 1) wl pl most a = !goesR n passes.toNat z wl wh pl ph most (a : Int) false := fun _ => rfl
  have mE : ∀ a b, a ≤ b → b < 20001 → enoughB n passes.toNat (fun i => z i 0) wh ph least a = true → enoughB n passes.toNat (fun i => z i 0) wh ph least b = true := by
    intro a b hab _ h
    simp only [enoughB, all2_true, decide_eq_true_eq] at h ⊢
    exact fun i hi q hq => Int.le_trans (h i hi q hq) (after_mono (by omega) _)
  have mM : ∀ a b, a ≤ b → b < 20001 → muchB n passes.toNat (fun i => z i 1) wl pl most a = true → muchB n passes.toNat (fun i => z i 1) wl pl most b = true := by
    intro a b hab _ h
    simp only [muchB, Bool.not_eq_true'] at h ⊢
    cases hc : allU (fun i => allU (fun k => decide (after wl pl (b : Int) (z i 1) (k + 1) ≤ most)) passes.toNat) n with
    | false => rfl
    | true =>
      exfalso
      have h2 : allU (fun i => allU (fun k => decide (after wl pl (a : Int) (z i 1) (k + 1) ≤ most)) passes.toNat) n = true := by
        simp only [all2_true, decide_eq_true_eq] at hc ⊢
        exact fun i hi q hq => Int.le_trans (after_mono (by omega) _) (hc i hi q hq)
      rw [h2] at h
      cases h
  obtain ⟨e1, e2, e3⟩ := srch_mono mE 20001 0 20001 (by omega) (by omega) (by omega) (fun k hk => by omega) (fun k hk hk2 => by omega)
  obtain ⟨m1, m2, m3⟩ := srch_mono mM 20001 0 20001 (by omega) (by omega) (by omega) (fun k hk => by omega) (fun k hk hk2 => by omega)
  generalize srch (enoughB n passes.toNat (fun i => z i 0) wh ph least) 20001 0 20001 = e at *
  generalize srch (muchB n passes.toNat (fun i => z i 1) wl pl most) 20001 0 20001 = m at *
  have hg : ∀ a, a < 20001 → (goodB n passes.toNat z wl wh pl ph least most a = true ↔ e ≤ a ∧ a < m) := by
    intro a ha
    simp only [goodB, ← hE, Bool.and_eq_true]
    have hM' : goesR n passes.toNat z wl wh pl ph most (a : Int) false = !muchB n passes.toNat (fun i => z i 1) wl pl most a := by rw [hM]; simp
    rw [hM']
    constructor
    · rintro ⟨h1, h2⟩
      refine ⟨?_, ?_⟩
      · rcases Nat.lt_or_ge a e with h | h
        · rw [e2 a h] at h1; cases h1
        · exact h
      · rcases Nat.lt_or_ge a m with h | h
        · exact h
        · rw [m3 a h ha] at h2; cases h2
    · rintro ⟨h1, h2⟩
      exact ⟨e3 a h1 ha, by rw [m2 a h2]; rfl⟩
  have ht := tried_of 20001 (by omega) hg
  rw [ht]
  simp only []
  by_cases h : m ≤ e
  · have h5 : 20001 ≤ e ∨ m ≤ e := Or.inr h
    rw [if_pos h, if_pos h5]
    simp
  · have h5 : ¬ (20001 ≤ e ∨ m ≤ e) := by omega
    rw [if_neg h, if_neg h5]
    simp only []
    rw [if_neg (by omega)]
    have : ((min (m - 1) (20001 - 1) : Nat) : Int) = (m : Int) - 1 := by omega
    rw [this]
end Go.Eng
end
