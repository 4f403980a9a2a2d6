/-
  IceTrue: for every input the law returns true, and each argument reads afterwards as it read before. No condition.
-/
import Derived.Test.YtmpcdcphgepeiaaRows
import Derived.WalkKit
import Derived.Test.YtmpcdcphgepeiaaBR
set_option linter.unusedSimpArgs false
set_option linter.unusedVariables false
/- Tables, and where a machine breaks in: the plain words. -/
section
namespace Go.Eng
open Go Go.RowKit Go.Proofs
set_option maxRecDepth 100000
set_option maxHeartbeats 4000000
attribute [local irreducible] OwnT DefS
def okT (t : Nat → Nat → Int) (i : Nat) : Bool := (in3 (t i 0) 1 100000 && in3 (t i 1) 0 20000) && (decide (i = 0) || (decide (t (i - 1) 0 < t i 0) && decide (t (i - 1) 1 < t i 1)))
def tableB (k : Nat) (t : Nat → Nat → Int) : Bool := in3 k 1 16 && allU (okT t) k
def rtableBase : BaseF := fun args => match args with
  | [.row k sz_t f_t] => some ((sz_t = 2 ∧ IntR k 2 f_t), .bool (tableB k (fun i j => iv (f_t i j))))
  | _ => none
theorem rtable_eq (k : Nat) (t : Nat → Nat → Int) : rtableBase [.row k 2 (fun i j => .int .i64 (t i j))] = some ((2 = 2 ∧ IntR k 2 (fun i j => .int .i64 (t i j))), .bool (tableB k t)) := rfl
theorem rtable_base : Base Try.prog 63 rtableBase := by
  intro args p v hq hp
  unfold rtableBase at hq
  split at hq
  rotate_left
  · cases hq
  rename_i k sz_t f_t
  cases hq
  obtain ⟨rfl, i_t⟩ := hp
  refine base_of (C := cx [] [] [(49, inBase)] [(63, 6, p63_6)] none) (cx_ok trivial ⟨in_base, trivial⟩) rfl (g := 63) (fn := Try.f63)
    (args' := [.row k 2 (rowF .i64 (fun i j => iv (f_t i j)))]) (fn_63) rfl 1000 (by simp only [BdL, Bd, and_self, and_true, true_and]; exact fun i j hi hj => by rw [i_t i j hi hj]; trivial) ⟨SameD.int i_t, trivial⟩ ?_
  generalize (fun i j => iv (f_t i j)) = t
  simp only [rowF_eq]
  simp only [in_eq, p63_6, Try.f63, go_sem, ↓reduceIte, Nat.reduceAdd, Nat.reduceSub, Nat.reduceMul, Nat.reduceEqDiff, Nat.reduceLT, Nat.reduceLeDiff, Int.reduceToNat, Int.reduceLE, Int.reduceLT, Int.reduceEq, Int.reduceNeg, reduceCtorEq]
  refine loop_of { i : Nat // i ≤ k ∧ i ≤ 17 ∧ ∀ j, j < i → okT t j = true } (fun i => [(3, .int .i64 (i.1 : Int)), (0, .row k 2 fun i j => .int .i64 (t i j))]) (fun _ => ⟨[], []⟩) (fun i => k - i.1) (fun _ => ⟨rfl, rfl⟩) ⟨0, by omega, by omega, by omega⟩ (by (apply sub_of <;> simp only [go_sem, ↓reduceIte, Nat.reduceAdd, Nat.reduceSub, Nat.reduceMul, Nat.reduceEqDiff, Nat.reduceLT, Nat.reduceLeDiff, Int.reduceToNat, Int.reduceLE, Int.reduceLT, Int.reduceEq, Int.reduceNeg, reduceCtorEq] <;> (try simp [catF]))) ?_
  rintro ⟨i, h1, h2, h3⟩
  simp only [in_eq, p63_6, Try.f63, go_sem, ↓reduceIte, Nat.reduceAdd, Nat.reduceSub, Nat.reduceMul, Nat.reduceEqDiff, Nat.reduceLT, Nat.reduceLeDiff, Int.reduceToNat, Int.reduceLE, Int.reduceLT, Int.reduceEq, Int.reduceNeg, reduceCtorEq]
  have hw3 : IntKind.i64.wrap ((i : Int) + 1) = ((i + 1 : Nat) : Int) := by rw [wrap_id (by omega) (by omega)]; omega
  have hw4 : 0 < i → IntKind.i64.wrap ((i : Int) - 1) = ((i - 1 : Nat) : Int) := fun h => by rw [wrap_id (by omega) (by omega)]; omega
  have bad : i < k → okT t i = false → SV.bool false = .bool (tableB k t) := fun hi h => by unfold tableB; rw [allU_false hi h, Bool.and_false]
  have fin : (i = k ∨ i = 17) → SV.bool (in3 k 1 16) = .bool (tableB k t) := fun h => by
    congr 1
    unfold tableB
    cases hc : in3 (k : Int) 1 16 with
    | false => rfl
    | true =>
      have := in3_iff.1 hc
      rw [Bool.true_and]
      exact (allU_iff.2 fun j hj => h3 j (by omega)).symm
  refine ⟨fun e1 => ⟨fun e2 => ?_, fun e2 => ?_⟩, fun e1 => ?_⟩
  · simp only [decide_eq_true_eq] at e1 e2
    have ik : i < k := by omega
    refine ⟨⟨by omega, by omega⟩, fun e3 => bad ik (by simp only [Bool.not_eq_true'] at e3; simp [okT, e3]), fun e3 => ⟨⟨by omega, by omega⟩, fun e4 => bad ik (by simp only [Bool.not_eq_true'] at e4; simp [okT, e4]), fun e4 => ⟨⟨by kernel_rfl, by kernel_rfl⟩, fun e5 => ?_, fun e5 => ?_⟩⟩⟩
    · simp only [decide_eq_true_eq] at e5
      simp only [Bool.not_eq_false'] at e3 e4
      have i0 : 0 < i := by omega
      simp only [hw4 i0, Int.toNat_natCast]
      refine ⟨⟨by omega, by omega⟩, ⟨by omega, by omega⟩, fun e6 => bad ik ?_, fun e6 => ⟨⟨by omega, by omega⟩, ⟨by omega, by omega⟩, fun e7 => bad ik ?_, fun e7 => ?_⟩⟩
      · simp only [decide_eq_true_eq] at e6
        have h0 : i ≠ 0 := by omega
        have h6 : ¬ t (i - 1) 0 < t i 0 := by omega
        simp [okT, h0, h6]
      · simp only [decide_eq_true_eq] at e7
        have h0 : i ≠ 0 := by omega
        have h6 : ¬ t (i - 1) 1 < t i 1 := by omega
        simp [okT, h0, h6]
      · simp only [decide_eq_false_iff_not] at e6 e7
        refine ⟨⟨i + 1, by omega, by omega, fun j hj => ?_⟩, by simp only []; omega, ?_⟩
        · rcases Nat.lt_or_ge j i with h | h
          · exact h3 j h
          · obtain rfl : j = i := by omega
            have h6 : t (j - 1) 0 < t j 0 := by omega
            have h7 : t (j - 1) 1 < t j 1 := by omega
            simp [okT, e3, e4, h6, h7]
        · apply sub_of <;> simp only [hw3, go_sem, ↓reduceIte, Nat.reduceAdd, Nat.reduceSub, Nat.reduceMul, Nat.reduceEqDiff, Nat.reduceLT, Nat.reduceLeDiff, Int.reduceToNat, Int.reduceLE, Int.reduceLT, Int.reduceEq, Int.reduceNeg, reduceCtorEq] <;> (try simp)
    · simp only [decide_eq_false_iff_not] at e5
      simp only [Bool.not_eq_false'] at e3 e4
      obtain rfl : i = 0 := by omega
      refine ⟨⟨1, by omega, by omega, fun j hj => ?_⟩, by simp only []; omega, ?_⟩
      · obtain rfl : j = 0 := by omega
        simp [okT, e3, e4]
      · apply sub_of <;> simp only [hw3, go_sem, ↓reduceIte, Nat.reduceAdd, Nat.reduceSub, Nat.reduceMul, Nat.reduceEqDiff, Nat.reduceLT, Nat.reduceLeDiff, Int.reduceToNat, Int.reduceLE, Int.reduceLT, Int.reduceEq, Int.reduceNeg, reduceCtorEq] <;> (try simp)
  · simp only [decide_eq_false_iff_not] at e2
    exact fin (.inr (by omega))
  · simp only [decide_eq_false_iff_not] at e1
    exact fin (.inl (by omega))
def tableBase : BaseF := fun args => match args with
  | [.row k sz_t f_t] => some ((sz_t = 2 ∧ IntR k 2 f_t), .bool (tableB k (fun i j => iv (f_t i j))))
  | _ => none
theorem table_eq (k : Nat) (t : Nat → Nat → Int) : tableBase [.row k 2 (fun i j => .int .i64 (t i j))] = some ((2 = 2 ∧ IntR k 2 (fun i j => .int .i64 (t i j))), .bool (tableB k t)) := rfl
theorem table_base : Base Try.prog 57 tableBase := by
  intro args p v hq hp
  unfold tableBase at hq
  split at hq
  rotate_left
  · cases hq
  rename_i k sz_t f_t
  cases hq
  obtain ⟨rfl, i_t⟩ := hp
  refine base_of (C := cx [] [] [(39, inBase)] [(78, 4, p78_4)] none) (cx_ok trivial ⟨in2_base, trivial⟩) rfl (g := 57) (fn := Try.f57)
    (args' := [.row k 2 (rowF .i64 (fun i j => iv (f_t i j)))]) (fn_57) rfl 1000 (by simp only [BdL, Bd, and_self, and_true, true_and]; exact fun i j hi hj => by rw [i_t i j hi hj]; trivial) ⟨SameD.int i_t, trivial⟩ ?_
  generalize (fun i j => iv (f_t i j)) = t
  simp only [rowF_eq]
  simp only [in_eq, p78_4, Try.f75, Try.f76, Try.f77, Try.f78, Try.f79, Try.f89, Try.f57, go_sem, ↓reduceIte, Nat.reduceAdd, Nat.reduceSub, Nat.reduceMul, Nat.reduceEqDiff, Nat.reduceLT, Nat.reduceLeDiff, Int.reduceToNat, Int.reduceLE, Int.reduceLT, Int.reduceEq, Int.reduceNeg, reduceCtorEq]
  refine ⟨fun c1 => ?_, fun c1 => ?_⟩
  rotate_left
  · unfold tableB; rw [c1]; rfl
  have hk := in3_iff.1 c1
  refine loop_of { i : Nat // 1 ≤ i ∧ i ≤ k ∧ ∀ j, 1 ≤ j → j < i → t (j - 1) 0 < t j 0 } (fun i => [(5, .int .i64 (i.1 : Int)), (1, .func 75 []), (0, .row k 2 fun i j => .int .i64 (t i j))]) (fun _ => ⟨[], []⟩) (fun i => k - i.1) (fun _ => ⟨rfl, rfl⟩) ⟨1, by omega, by omega, by omega⟩ (by (apply sub_of <;> simp only [go_sem, ↓reduceIte, Nat.reduceAdd, Nat.reduceSub, Nat.reduceMul, Nat.reduceEqDiff, Nat.reduceLT, Nat.reduceLeDiff, Int.reduceToNat, Int.reduceLE, Int.reduceLT, Int.reduceEq, Int.reduceNeg, reduceCtorEq] <;> (try simp [catF]))) ?_
  rintro ⟨i, h1, h2, h3⟩
  simp only [in_eq, p78_4, Try.f75, Try.f76, Try.f77, Try.f78, Try.f79, Try.f89, Try.f57, go_sem, ↓reduceIte, Nat.reduceAdd, Nat.reduceSub, Nat.reduceMul, Nat.reduceEqDiff, Nat.reduceLT, Nat.reduceLeDiff, Int.reduceToNat, Int.reduceLE, Int.reduceLT, Int.reduceEq, Int.reduceNeg, reduceCtorEq]
  have hw3 : IntKind.i64.wrap ((i : Int) + 1) = ((i + 1 : Nat) : Int) := by rw [wrap_id (by omega) (by omega)]; omega
  have hw4 : IntKind.i64.wrap ((i : Int) - 1) = ((i - 1 : Nat) : Int) := by rw [wrap_id (by omega) (by omega)]; omega
  simp only [hw4]
  have bad : ∀ {i}, i < k → okT t i = false → SV.bool false = .bool (tableB k t) := fun hi h => by unfold tableB; rw [allU_false hi h, Bool.and_false]
  refine ⟨fun e1 => ?_, fun e1 => ?_⟩
  · simp only [decide_eq_true_eq] at e1
    simp only [Int.toNat_natCast]
    refine ⟨⟨by kernel_rfl, by kernel_rfl⟩, ⟨by omega, by omega⟩, ⟨by omega, by omega⟩, ⟨by omega, by omega⟩, fun e2 => bad (show i < k by omega) ?_, fun e2 => ?_⟩
    · simp only [decide_eq_true_eq] at e2
      have h0 : i ≠ 0 := by omega
      have h6 : ¬ t (i - 1) 0 < t i 0 := by omega
      simp [okT, h0, h6]
    · simp only [decide_eq_false_iff_not] at e2
      refine ⟨⟨i + 1, by omega, by omega, fun j hj1 hj2 => ?_⟩, by simp only []; omega, ?_⟩
      · rcases Nat.lt_or_ge j i with h | h
        · exact h3 j hj1 h
        · obtain rfl : j = i := by omega
          omega
      · apply sub_of <;> simp only [hw3, go_sem, ↓reduceIte, Nat.reduceAdd, Nat.reduceSub, Nat.reduceMul, Nat.reduceEqDiff, Nat.reduceLT, Nat.reduceLeDiff, Int.reduceToNat, Int.reduceLE, Int.reduceLT, Int.reduceEq, Int.reduceNeg, reduceCtorEq] <;> (try simp)
  · simp only [decide_eq_false_iff_not] at e1
    have up0 : ∀ j, 1 ≤ j → j < k → t (j - 1) 0 < t j 0 := fun j a b => h3 j a (by omega)
    clear h3 hw3 hw4
    refine loop_of { i : Nat // 1 ≤ i ∧ i ≤ k ∧ ∀ j, 1 ≤ j → j < i → t (j - 1) 1 < t j 1 } (fun i => [(5, .int .i64 (i.1 : Int)), (1, .func 76 []), (0, .row k 2 fun i j => .int .i64 (t i j))]) (fun _ => ⟨[], []⟩) (fun i => k - i.1) (fun _ => ⟨rfl, rfl⟩) ⟨1, by omega, by omega, by omega⟩ (by (apply sub_of <;> simp only [go_sem, ↓reduceIte, Nat.reduceAdd, Nat.reduceSub, Nat.reduceMul, Nat.reduceEqDiff, Nat.reduceLT, Nat.reduceLeDiff, Int.reduceToNat, Int.reduceLE, Int.reduceLT, Int.reduceEq, Int.reduceNeg, reduceCtorEq] <;> (try simp [catF]))) ?_
    clear e1 h2 h1 i
    rintro ⟨i, h1, h2, h3⟩
    simp only [in_eq, p78_4, Try.f75, Try.f76, Try.f77, Try.f78, Try.f79, Try.f89, Try.f57, go_sem, ↓reduceIte, Nat.reduceAdd, Nat.reduceSub, Nat.reduceMul, Nat.reduceEqDiff, Nat.reduceLT, Nat.reduceLeDiff, Int.reduceToNat, Int.reduceLE, Int.reduceLT, Int.reduceEq, Int.reduceNeg, reduceCtorEq]
    have hw3 : IntKind.i64.wrap ((i : Int) + 1) = ((i + 1 : Nat) : Int) := by rw [wrap_id (by omega) (by omega)]; omega
    have hw4 : IntKind.i64.wrap ((i : Int) - 1) = ((i - 1 : Nat) : Int) := by rw [wrap_id (by omega) (by omega)]; omega
    simp only [hw4]
    refine ⟨fun e1 => ?_, fun e1 => ?_⟩
    · simp only [decide_eq_true_eq] at e1
      simp only [Int.toNat_natCast]
      refine ⟨⟨by kernel_rfl, by kernel_rfl⟩, ⟨by omega, by omega⟩, ⟨by omega, by omega⟩, ⟨by omega, by omega⟩, fun e2 => bad (show i < k by omega) ?_, fun e2 => ?_⟩
      · simp only [decide_eq_true_eq] at e2
        have h0 : i ≠ 0 := by omega
        have h6 : ¬ t (i - 1) 1 < t i 1 := by omega
        simp [okT, h0, h6]
      · simp only [decide_eq_false_iff_not] at e2
        refine ⟨⟨i + 1, by omega, by omega, fun j hj1 hj2 => ?_⟩, by simp only []; omega, ?_⟩
        · rcases Nat.lt_or_ge j i with h | h
          · exact h3 j hj1 h
          · obtain rfl : j = i := by omega
            omega
        · apply sub_of <;> simp only [hw3, go_sem, ↓reduceIte, Nat.reduceAdd, Nat.reduceSub, Nat.reduceMul, Nat.reduceEqDiff, Nat.reduceLT, Nat.reduceLeDiff, Int.reduceToNat, Int.reduceLE, Int.reduceLT, Int.reduceEq, Int.reduceNeg, reduceCtorEq] <;> (try simp)
    · simp only [decide_eq_false_iff_not] at e1
      have up1 : ∀ j, 1 ≤ j → j < k → t (j - 1) 1 < t j 1 := fun j a b => h3 j a (by omega)
      clear h3 hw3 hw4
      refine loop_of { i : Nat // i ≤ k ∧ ∀ j, j < i → (in3 (t j 0) 1 100000 && in3 (t j 1) 0 20000) = true } (fun i => [(8, .int .i64 (i.1 : Int)), (7, .int .i64 (k : Int)), (1, .func 77 []), (0, .row k 2 fun i j => .int .i64 (t i j))]) (fun _ => ⟨[], []⟩) (fun i => k - i.1) (fun _ => ⟨rfl, rfl⟩) ⟨0, by omega, by omega⟩ (by (apply sub_of <;> simp only [go_sem, ↓reduceIte, Nat.reduceAdd, Nat.reduceSub, Nat.reduceMul, Nat.reduceEqDiff, Nat.reduceLT, Nat.reduceLeDiff, Int.reduceToNat, Int.reduceLE, Int.reduceLT, Int.reduceEq, Int.reduceNeg, reduceCtorEq] <;> (try simp [catF]))) ?_
      clear e1 h2 h1 i
      rintro ⟨i, h2, h3⟩
      simp only [in_eq, p78_4, Try.f75, Try.f76, Try.f77, Try.f78, Try.f79, Try.f89, Try.f57, go_sem, ↓reduceIte, Nat.reduceAdd, Nat.reduceSub, Nat.reduceMul, Nat.reduceEqDiff, Nat.reduceLT, Nat.reduceLeDiff, Int.reduceToNat, Int.reduceLE, Int.reduceLT, Int.reduceEq, Int.reduceNeg, reduceCtorEq]
      have hw3 : IntKind.i64.wrap ((i : Int) + 1) = ((i + 1 : Nat) : Int) := by rw [wrap_id (by omega) (by omega)]; omega
      have h0 : (!decide ((0 : Int) ≤ (i : Int))) = false := by simp
      rw [h0]
      refine ⟨fun e1 => ?_, fun e1 => ?_⟩
      · simp only [decide_eq_true_eq] at e1
        refine ⟨⟨by omega, by omega⟩, fun e2 => bad (show i < k by omega) (by simp only [Bool.not_eq_true'] at e2; simp [okT, e2]), fun e2 => ⟨fun e3 => bad (show i < k by omega) (by simp only [Bool.not_eq_true'] at e3; simp [okT, e3]), fun e3 => ?_⟩⟩
        simp only [Bool.not_eq_false'] at e2 e3
        refine ⟨⟨i + 1, by omega, fun j hj => ?_⟩, by simp only []; omega, ?_⟩
        · rcases Nat.lt_or_ge j i with h | h
          · exact h3 j h
          · obtain rfl : j = i := by omega
            rw [e2, e3]; rfl
        · apply sub_of <;> simp only [hw3, go_sem, ↓reduceIte, Nat.reduceAdd, Nat.reduceSub, Nat.reduceMul, Nat.reduceEqDiff, Nat.reduceLT, Nat.reduceLeDiff, Int.reduceToNat, Int.reduceLE, Int.reduceLT, Int.reduceEq, Int.reduceNeg, reduceCtorEq] <;> (try simp)
      · simp only [decide_eq_false_iff_not] at e1
        congr 1
        unfold tableB
        rw [c1, Bool.true_and]
        refine (allU_iff.2 fun j hj => ?_).symm
        have h4 := h3 j (by omega)
        unfold okT
        rw [h4, Bool.true_and]
        by_cases hj0 : j = 0
        · simp [hj0]
        · have := up0 j (by omega) hj
          have := up1 j (by omega) hj
          simp [*]
end Go.Eng
end

/- Breaks and its twin. -/
section
namespace Go.Eng
open Go Go.RowKit Go.Proofs
set_option maxRecDepth 100000
set_option maxHeartbeats 4000000
attribute [local irreducible] OwnT DefS
/-- The first bearing that holds so much. -/
def firstT (k : Nat) (t : Nat → Nat → Int) (w : Int) : Nat := (fstI (fun i => decide (w ≤ t i 0)) k 0).toNat
def offP (n : Nat) (p : Nat → Nat → Int) : Nat → Bool := fun i => !in3 (p i 0) 0 (n - 1)
def thinP' (z : Nat → Nat → Int) (p : Nat → Nat → Int) (need : Int) : Nat → Bool := fun i => decide (z (p i 0).toNat 0 < need)
def breaksO (n k m : Nat) (z t p : Nat → Nat → Int) (w : Int) : Int × Int :=
  if rinkB n z = true ∧ tableB k t = true then
    if fstI (offP n p) m 0 = -1 ∧ in3 w 1 (t (k - 1) 0) = true then
      (if 0 ≤ fstI (thinP' z p (t (firstT k t w) 1)) m 0 then (fstI (thinP' z p (t (firstT k t w) 1)) m 0, 0) else (0, 4))
    else (0, 2)
  else (0, 1)
def bTup (v : Int × Int) : SV := .tup [.int .i64 v.1, .int .i64 v.2]
theorem table_iff {k : Nat} {t : Nat → Nat → Int} : tableB k t = true ↔ (1 ≤ k ∧ k ≤ 16) ∧ ∀ i, i < k → okT t i = true := by
  simp only [tableB, Bool.and_eq_true, in3_iff, allU_iff]
  constructor
  · rintro ⟨⟨a, b⟩, c⟩; exact ⟨⟨by omega, by omega⟩, c⟩
  · rintro ⟨⟨a, b⟩, c⟩; exact ⟨⟨by omega, by omega⟩, c⟩
theorem table_up {k : Nat} {t : Nat → Nat → Int} (h : ∀ i, i < k → okT t i = true) (c : Nat) (hc : c < 2) : ∀ d i, i + d < k → t i c ≤ t (i + d) c
  | 0, i, _ => Int.le_refl _
  | d + 1, i, hi => by
    have h1 := table_up h c hc d i (by omega)
    have h2 := h (i + d + 1) (by omega)
    simp only [okT, Bool.and_eq_true, Bool.or_eq_true, decide_eq_true_eq, Nat.add_sub_cancel] at h2
    have hc' : c = 0 ∨ c = 1 := by omega
    rcases hc' with rfl | rfl
    · have : t (i + d) 0 < t (i + d + 1) 0 := by omega
      rw [show i + (d + 1) = i + d + 1 by omega]; omega
    · have : t (i + d) 1 < t (i + d + 1) 1 := by omega
      rw [show i + (d + 1) = i + d + 1 by omega]; omega
theorem firstT_spec {k : Nat} {t : Nat → Nat → Int} {w : Int} (h : tableB k t = true) (hw : w ≤ t (k - 1) 0) : firstT k t w < k ∧ ∀ i, i < k → (w ≤ t i 0 ↔ firstT k t w ≤ i) := by
  obtain ⟨hk, ht⟩ := table_iff.1 h
  unfold firstT
  rcases fstI_range (fun i => decide (w ≤ t i 0)) k 0 with h1 | ⟨j, h1, h2, h3, h4, h5⟩
  · have := fstI_none h1 (k - 1) (by omega) (by omega)
    simp only [decide_eq_false_iff_not] at this
    exact absurd hw this
  · rw [h1]
    simp only [decide_eq_true_eq] at h4
    refine ⟨by omega, fun i hi => ⟨fun h6 => ?_, fun h6 => ?_⟩⟩
    · rcases Nat.lt_or_ge i j with h7 | h7
      · have := h5 i (by omega) h7
        simp only [decide_eq_false_iff_not] at this
        exact absurd h6 this
      · omega
    · have := table_up ht 0 (by omega) (i - j) j (by omega)
      rw [show j + (i - j) = i by omega] at this
      omega
def rbreaksBase : BaseF := fun args => match args with
  | [.row n sz_z f_z, .row k sz_t f_t, .row m sz_p f_p, .int .i64 w] => some ((sz_z = 4 ∧ IntR n 4 f_z) ∧ (sz_t = 2 ∧ IntR k 2 f_t) ∧ (sz_p = 1 ∧ IntR m 1 f_p) ∧ (m ≤ 1000000), bTup (breaksO n k m (fun i j => iv (f_z i j)) (fun i j => iv (f_t i j)) (fun i j => iv (f_p i j)) w))
  | _ => none
theorem rbreaks_eq (n : Nat) (z : Nat → Nat → Int) (k : Nat) (t : Nat → Nat → Int) (m : Nat) (p : Nat → Nat → Int) (w : Int) : rbreaksBase [.row n 4 (fun i j => .int .i64 (z i j)), .row k 2 (fun i j => .int .i64 (t i j)), .row m 1 (fun i j => .int .i64 (p i j)), .int .i64 w] = some ((4 = 4 ∧ IntR n 4 (fun i j => .int .i64 (z i j))) ∧ (2 = 2 ∧ IntR k 2 (fun i j => .int .i64 (t i j))) ∧ (1 = 1 ∧ IntR m 1 (fun i j => .int .i64 (p i j))) ∧ (m ≤ 1000000), bTup (breaksO n k m z t p w)) := rfl
theorem rbreaks_base : Base Try.prog 34 rbreaksBase := by
  intro args p v hq hp
  unfold rbreaksBase at hq
  split at hq
  rotate_left
  · cases hq
  rename_i n sz_z f_z k sz_t f_t m sz_p f_p w
  cases hq
  obtain ⟨⟨rfl, i_z⟩, ⟨rfl, i_t⟩, ⟨rfl, i_p⟩, pre⟩ := hp
  refine base_of (C := cx [] [] [(16, rinkBase), (49, inBase), (63, rtableBase)] [] none) (cx_ok trivial ⟨rink_base, in_base, rtable_base, trivial⟩) rfl (g := 34) (fn := Try.f34)
    (args' := [.row n 4 (rowF .i64 (fun i j => iv (f_z i j))), .row k 2 (rowF .i64 (fun i j => iv (f_t i j))), .row m 1 (rowF .i64 (fun i j => iv (f_p i j))), .int .i64 w]) (fn_34) rfl 1000 (by simp only [BdL, Bd, and_self, and_true, true_and]; exact ⟨fun i j hi hj => by rw [i_z i j hi hj]; trivial, fun i j hi hj => by rw [i_t i j hi hj]; trivial, fun i j hi hj => by rw [i_p i j hi hj]; trivial⟩) ⟨SameD.int i_z, SameD.int i_t, SameD.int i_p, SameD.rfl' _, trivial⟩ ?_
  generalize (fun i j => iv (f_z i j)) = z at *
  generalize (fun i j => iv (f_t i j)) = t at *
  generalize (fun i j => iv (f_p i j)) = p at *
  simp only [rowF_eq]
  simp only [rink_eq, in_eq, rtable_eq, bTup, Try.f34, go_sem, ↓reduceIte, Nat.reduceAdd, Nat.reduceSub, Nat.reduceMul, Nat.reduceEqDiff, Nat.reduceLT, Nat.reduceLeDiff, Int.reduceToNat, Int.reduceLE, Int.reduceLT, Int.reduceEq, Int.reduceNeg, reduceCtorEq]
  refine ⟨fun c1 => ?_, fun c1 => ⟨fun c2 => ?_, fun c2 => ?_⟩⟩
  · rw [show breaksO n k m z t p w = (0, 1) by simp at c1; simp [breaksO, c1]]
  · rw [show breaksO n k m z t p w = (0, 1) by simp at c1 c2; simp [breaksO, c1, c2]]
  simp only [Bool.not_eq_false'] at c1 c2
  have hb := rinkB_iff.1 c1
  obtain ⟨hk, ht⟩ := table_iff.1 c2
  have hn1 : IntKind.i64.wrap ((n : Int) - 1) = (n : Int) - 1 := wrap_id (by omega) (by omega)
  have hk1 : IntKind.i64.wrap ((k : Int) - 1) = (k : Int) - 1 := wrap_id (by omega) (by omega)
  have hk2 : ((k : Int) - 1).toNat = k - 1 := by omega
  have no : (fstI (offP n p) m 0 = -1 ∧ in3 w 1 (t (k - 1) 0) = true) ∨ breaksO n k m z t p w = (0, 2) := by
    by_cases h : fstI (offP n p) m 0 = -1 ∧ in3 w 1 (t (k - 1) 0) = true
    · exact .inl h
    · exact .inr (by unfold breaksO; rw [if_pos ⟨c1, c2⟩, if_neg h])
  refine loop_of { i : Nat // i ≤ m ∧ fstI (offP n p) (m - i) i = fstI (offP n p) m 0 } (fun i => [(10, .int .i64 (i.1 : Int)), (3, .int .i64 w), (2, .row m 1 fun i j => .int .i64 (p i j)), (1, .row k 2 fun i j => .int .i64 (t i j)), (0, .row n 4 fun i j => .int .i64 (z i j))]) (fun _ => ⟨[], []⟩) (fun i => m - i.1) (fun _ => ⟨rfl, rfl⟩) ⟨0, by omega, rfl⟩ (by (apply sub_of <;> simp only [go_sem, ↓reduceIte, Nat.reduceAdd, Nat.reduceSub, Nat.reduceMul, Nat.reduceEqDiff, Nat.reduceLT, Nat.reduceLeDiff, Int.reduceToNat, Int.reduceLE, Int.reduceLT, Int.reduceEq, Int.reduceNeg, reduceCtorEq] <;> (try simp [catF]))) ?_
  rintro ⟨i, hi, hf⟩
  simp only [rink_eq, in_eq, rtable_eq, bTup, Try.f34, go_sem, ↓reduceIte, Nat.reduceAdd, Nat.reduceSub, Nat.reduceMul, Nat.reduceEqDiff, Nat.reduceLT, Nat.reduceLeDiff, Int.reduceToNat, Int.reduceLE, Int.reduceLT, Int.reduceEq, Int.reduceNeg, reduceCtorEq]
  have hw2 : IntKind.i64.wrap ((i : Int) + 1) = ((i + 1 : Nat) : Int) := by rw [wrap_id (by omega) (by omega)]; omega
  simp only [hn1, hk1, hk2]
  refine ⟨fun e1 => ?_, fun e1 => ⟨⟨by omega, by omega⟩, fun e2 => ?_, fun e2 => ?_⟩⟩
  · simp only [decide_eq_true_eq] at e1
    rw [fstI_cons (by omega)] at hf
    refine ⟨⟨by omega, by omega⟩, fun e2 => ?_, fun e2 => ?_⟩
    · rw [if_pos (show offP n p i = true from e2)] at hf
      have : breaksO n k m z t p w = (0, 2) := by
        rcases no with h | h
        · omega
        · exact h
      rw [this]
    · rw [if_neg (show ¬ offP n p i = true by unfold offP; rw [e2]; simp)] at hf
      refine ⟨⟨i + 1, by omega, by rw [← hf]; congr 1⟩, by simp only []; omega, ?_⟩
      apply sub_of <;> simp only [hw2, go_sem, ↓reduceIte, Nat.reduceAdd, Nat.reduceSub, Nat.reduceMul, Nat.reduceEqDiff, Nat.reduceLT, Nat.reduceLeDiff, Int.reduceToNat, Int.reduceLE, Int.reduceLT, Int.reduceEq, Int.reduceNeg, reduceCtorEq] <;> (try simp)
  · have : breaksO n k m z t p w = (0, 2) := by
      rcases no with h | h
      · rw [h.2] at e2; simp at e2
      · exact h
    rw [this]
  simp only [Bool.not_eq_false'] at e2
  simp only [decide_eq_false_iff_not] at e1
  have hf1 : fstI (offP n p) m 0 = -1 := by rw [← hf, show m - i = 0 by omega]; rfl
  have hw := in3_iff.1 e2
  obtain ⟨hs, hsp⟩ := firstT_spec c2 hw.2
  have hB : breaksO n k m z t p w = if 0 ≤ fstI (thinP' z p (t (firstT k t w) 1)) m 0 then (fstI (thinP' z p (t (firstT k t w) 1)) m 0, 0) else (0, 4) := by
    unfold breaksO; rw [if_pos ⟨c1, c2⟩, if_pos ⟨hf1, e2⟩]
  generalize firstT k t w = s at *
  have hpt : ∀ j, j < m → 0 ≤ p j 0 ∧ p j 0 ≤ (n : Int) - 1 := fun j hj => by
    have := fstI_none hf1 j (by omega) (by omega)
    simp only [offP, Bool.not_eq_false'] at this
    exact in3_iff.1 this
  clear no hf hi e1 hw2
  refine loop_of { c : Nat // c ≤ k } (fun c => [(12, .int .i64 ((k : Int) - 1 - (c.1 : Int))), (11, .int .i64 (if c.1 = 0 then 0 else t (max (k - c.1) s) 1)), (3, .int .i64 w), (2, .row m 1 fun i j => .int .i64 (p i j)), (1, .row k 2 fun i j => .int .i64 (t i j)), (0, .row n 4 fun i j => .int .i64 (z i j))]) (fun _ => ⟨[], []⟩) (fun c => k - c.1) (fun _ => ⟨rfl, rfl⟩) ⟨0, by omega⟩ (by (apply sub_of <;> simp only [go_sem, ↓reduceIte, Nat.reduceAdd, Nat.reduceSub, Nat.reduceMul, Nat.reduceEqDiff, Nat.reduceLT, Nat.reduceLeDiff, Int.reduceToNat, Int.reduceLE, Int.reduceLT, Int.reduceEq, Int.reduceNeg, reduceCtorEq] <;> (try simp [catF]))) ?_
  rintro ⟨c, hc⟩
  simp only [rink_eq, in_eq, rtable_eq, bTup, Try.f34, go_sem, ↓reduceIte, Nat.reduceAdd, Nat.reduceSub, Nat.reduceMul, Nat.reduceEqDiff, Nat.reduceLT, Nat.reduceLeDiff, Int.reduceToNat, Int.reduceLE, Int.reduceLT, Int.reduceEq, Int.reduceNeg, reduceCtorEq]
  have hw2 : IntKind.i64.wrap ((k : Int) - 1 - (c : Int) - 1) = (k : Int) - 1 - ((c + 1 : Nat) : Int) := by rw [wrap_id (by omega) (by omega)]; omega
  refine ⟨fun e3 => ?_, fun e3 => ?_⟩
  · simp only [decide_eq_true_eq] at e3
    have hcn : ((k : Int) - 1 - (c : Int)).toNat = k - 1 - c := by omega
    simp only [hcn]
    refine ⟨⟨by omega, by omega⟩, fun e4 => ⟨⟨by omega, by omega⟩, ?_⟩, fun e4 => ?_⟩
    · simp only [decide_eq_true_eq] at e4
      have := (hsp (k - 1 - c) (by omega)).1 e4
      have hm : max (k - (c + 1)) s = k - 1 - c := by omega
      refine ⟨⟨c + 1, by omega⟩, by simp only []; omega, ?_⟩
      apply sub_of <;> simp only [hw2, hm, go_sem, ↓reduceIte, Nat.reduceAdd, Nat.reduceSub, Nat.reduceMul, Nat.reduceEqDiff, Nat.reduceLT, Nat.reduceLeDiff, Int.reduceToNat, Int.reduceLE, Int.reduceLT, Int.reduceEq, Int.reduceNeg, reduceCtorEq] <;> (try simp)
    · simp only [decide_eq_false_iff_not] at e4
      have : ¬ s ≤ k - 1 - c := fun h => e4 ((hsp (k - 1 - c) (by omega)).2 h)
      have hm : max (k - (c + 1)) s = max (k - c) s := by omega
      have hc0 : c ≠ 0 := by omega
      refine ⟨⟨c + 1, by omega⟩, by simp only []; omega, ?_⟩
      apply sub_of <;> simp only [hw2, hm, go_sem, ↓reduceIte, Nat.reduceAdd, Nat.reduceSub, Nat.reduceMul, Nat.reduceEqDiff, Nat.reduceLT, Nat.reduceLeDiff, Int.reduceToNat, Int.reduceLE, Int.reduceLT, Int.reduceEq, Int.reduceNeg, reduceCtorEq] <;> (try simp [hc0])
  · simp only [decide_eq_false_iff_not] at e3
    obtain rfl : c = k := by omega
    have hm : (if c = 0 then 0 else t (max (c - c) s) 1) = t s 1 := by rw [if_neg (by omega)]; congr 2; omega
    simp only [hm]
    refine loop_of { i : Nat // i ≤ m ∧ fstI (thinP' z p (t s 1)) (m - i) i = fstI (thinP' z p (t s 1)) m 0 } (fun i => [(13, .int .i64 (i.1 : Int)), (11, .int .i64 (t s 1)), (2, .row m 1 fun i j => .int .i64 (p i j)), (0, .row n 4 fun i j => .int .i64 (z i j))]) (fun _ => ⟨[], []⟩) (fun i => m - i.1) (fun _ => ⟨rfl, rfl⟩) ⟨0, by omega, rfl⟩ (by (apply sub_of <;> simp only [go_sem, ↓reduceIte, Nat.reduceAdd, Nat.reduceSub, Nat.reduceMul, Nat.reduceEqDiff, Nat.reduceLT, Nat.reduceLeDiff, Int.reduceToNat, Int.reduceLE, Int.reduceLT, Int.reduceEq, Int.reduceNeg, reduceCtorEq] <;> (try simp [catF]))) ?_
    rintro ⟨i, hi, hf⟩
    simp only [rink_eq, in_eq, rtable_eq, bTup, Try.f34, go_sem, ↓reduceIte, Nat.reduceAdd, Nat.reduceSub, Nat.reduceMul, Nat.reduceEqDiff, Nat.reduceLT, Nat.reduceLeDiff, Int.reduceToNat, Int.reduceLE, Int.reduceLT, Int.reduceEq, Int.reduceNeg, reduceCtorEq]
    have hw2 : IntKind.i64.wrap ((i : Int) + 1) = ((i + 1 : Nat) : Int) := by rw [wrap_id (by omega) (by omega)]; omega
    refine ⟨fun e1 => ?_, fun e1 => ?_⟩
    · simp only [decide_eq_true_eq] at e1
      rw [fstI_cons (by omega)] at hf
      have hpi := hpt i (by omega)
      refine ⟨⟨by omega, by omega⟩, ⟨by omega, by omega⟩, fun e2 => ?_, fun e2 => ?_⟩
      · rw [if_pos (show thinP' z p (t s 1) i = true from e2)] at hf
        rw [← hf, if_pos (by omega)] at hB
        rw [hB]
      · rw [if_neg (show ¬ thinP' z p (t s 1) i = true by unfold thinP'; rw [e2]; simp)] at hf
        refine ⟨⟨i + 1, by omega, by rw [← hf]; congr 1⟩, by simp only []; omega, ?_⟩
        apply sub_of <;> simp only [hw2, go_sem, ↓reduceIte, Nat.reduceAdd, Nat.reduceSub, Nat.reduceMul, Nat.reduceEqDiff, Nat.reduceLT, Nat.reduceLeDiff, Int.reduceToNat, Int.reduceLE, Int.reduceLT, Int.reduceEq, Int.reduceNeg, reduceCtorEq] <;> (try simp)
    · simp only [decide_eq_false_iff_not] at e1
      have hf1 : fstI (thinP' z p (t s 1)) m 0 = -1 := by rw [← hf, show m - i = 0 by omega]; rfl
      rw [hf1, if_neg (by omega)] at hB
      rw [hB]
def breaksBase : BaseF := fun args => match args with
  | [.row n sz_z f_z, .row k sz_t f_t, .row m sz_p f_p, .int .i64 w] => some ((sz_z = 4 ∧ IntR n 4 f_z) ∧ (sz_t = 2 ∧ IntR k 2 f_t) ∧ (sz_p = 1 ∧ IntR m 1 f_p) ∧ (m ≤ 1000000), bTup (breaksO n k m (fun i j => iv (f_z i j)) (fun i j => iv (f_t i j)) (fun i j => iv (f_p i j)) w))
  | _ => none
theorem breaks_eq (n : Nat) (z : Nat → Nat → Int) (k : Nat) (t : Nat → Nat → Int) (m : Nat) (p : Nat → Nat → Int) (w : Int) : breaksBase [.row n 4 (fun i j => .int .i64 (z i j)), .row k 2 (fun i j => .int .i64 (t i j)), .row m 1 (fun i j => .int .i64 (p i j)), .int .i64 w] = some ((4 = 4 ∧ IntR n 4 (fun i j => .int .i64 (z i j))) ∧ (2 = 2 ∧ IntR k 2 (fun i j => .int .i64 (t i j))) ∧ (1 = 1 ∧ IntR m 1 (fun i j => .int .i64 (p i j))) ∧ (m ≤ 1000000), bTup (breaksO n k m z t p w)) := rfl
theorem breaks_base : Base Try.prog 33 breaksBase := by
  intro args p v hq hp
  unfold breaksBase at hq
  split at hq
  rotate_left
  · cases hq
  rename_i n sz_z f_z k sz_t f_t m sz_p f_p w
  cases hq
  obtain ⟨⟨rfl, i_z⟩, ⟨rfl, i_t⟩, ⟨rfl, i_p⟩, pre⟩ := hp
  refine base_of (C := cx [] [] [(37, rinkBase), (39, inBase), (57, tableBase)] [(33, 4, p33_4), (33, 6, p33_6), (60, 1, p60_1), (62, 1, p62_1)] none) (cx_ok trivial ⟨isRink_base, in2_base, table_base, trivial⟩) rfl (g := 33) (fn := Try.f33)
    (args' := [.row n 4 (rowF .i64 (fun i j => iv (f_z i j))), .row k 2 (rowF .i64 (fun i j => iv (f_t i j))), .row m 1 (rowF .i64 (fun i j => iv (f_p i j))), .int .i64 w]) (fn_33) rfl 1000 (by simp only [BdL, Bd, and_self, and_true, true_and]; exact ⟨fun i j hi hj => by rw [i_z i j hi hj]; trivial, fun i j hi hj => by rw [i_t i j hi hj]; trivial, fun i j hi hj => by rw [i_p i j hi hj]; trivial⟩) ⟨SameD.int i_z, SameD.int i_t, SameD.int i_p, SameD.rfl' _, trivial⟩ ?_
  generalize (fun i j => iv (f_z i j)) = z at *
  generalize (fun i j => iv (f_t i j)) = t at *
  generalize (fun i j => iv (f_p i j)) = p at *
  simp only [rowF_eq]
  simp only [rink_eq, in_eq, table_eq, p33_4, p33_6, p60_1, p62_1, bTup, Try.f42, Try.f58, Try.f59, Try.f60, Try.f61, Try.f62, Try.f33, go_sem, ↓reduceIte, Nat.reduceAdd, Nat.reduceSub, Nat.reduceMul, Nat.reduceEqDiff, Nat.reduceLT, Nat.reduceLeDiff, Int.reduceToNat, Int.reduceLE, Int.reduceLT, Int.reduceEq, Int.reduceNeg, reduceCtorEq]
  refine ⟨fun c1 => ?_, fun c1 => ⟨fun c2 => ?_, fun c2 => ?_⟩⟩
  · rw [show breaksO n k m z t p w = (0, 1) by simp at c1; simp [breaksO, c1]]
  · rw [show breaksO n k m z t p w = (0, 1) by simp at c1 c2; simp [breaksO, c1, c2]]
  simp only [Bool.not_eq_false'] at c1 c2
  have hb := rinkB_iff.1 c1
  obtain ⟨hk, ht⟩ := table_iff.1 c2
  have hn1 : IntKind.i64.wrap ((n : Int) - 1) = (n : Int) - 1 := wrap_id (by omega) (by omega)
  have hk1 : IntKind.i64.wrap ((k : Int) - 1) = (k : Int) - 1 := wrap_id (by omega) (by omega)
  have hk2 : ((k : Int) - 1).toNat = k - 1 := by omega
  have no : (fstI (offP n p) m 0 = -1 ∧ in3 w 1 (t (k - 1) 0) = true) ∨ breaksO n k m z t p w = (0, 2) := by
    by_cases h : fstI (offP n p) m 0 = -1 ∧ in3 w 1 (t (k - 1) 0) = true
    · exact .inl h
    · exact .inr (by unfold breaksO; rw [if_pos ⟨c1, c2⟩, if_neg h])
  refine ⟨⟨by kernel_rfl, by kernel_rfl⟩, ?_⟩
  refine loop_of { i : Nat // i ≤ m ∧ fstI (offP n p) (m - i) i = fstI (offP n p) m 0 } (fun i => [(8, .int .i64 (i.1 : Int)), (7, .int .i64 (m : Int)), (6, .row m 1 fun i j => .int .i64 (p i j)), (1, .func 58 [.ptr 0 0]), (0, .row m 1 fun i j => .int .i64 (p i j))]) (fun _ => ⟨[.live 22 [.row n 4 fun i j => .int .i64 (z i j)], .live 68 [.row k 2 fun i j => .int .i64 (t i j)], .live 3 [.int .i64 w]], []⟩) (fun i => m - i.1) (fun _ => ⟨rfl, rfl⟩) ⟨0, by omega, rfl⟩ (by (apply sub_of <;> simp only [go_sem, ↓reduceIte, Nat.reduceAdd, Nat.reduceSub, Nat.reduceMul, Nat.reduceEqDiff, Nat.reduceLT, Nat.reduceLeDiff, Int.reduceToNat, Int.reduceLE, Int.reduceLT, Int.reduceEq, Int.reduceNeg, reduceCtorEq] <;> (try simp [catF]))) ?_
  rintro ⟨i, hi, hf⟩
  simp only [rink_eq, in_eq, table_eq, p33_4, p33_6, p60_1, p62_1, bTup, Try.f42, Try.f58, Try.f59, Try.f60, Try.f61, Try.f62, Try.f33, go_sem, ↓reduceIte, Nat.reduceAdd, Nat.reduceSub, Nat.reduceMul, Nat.reduceEqDiff, Nat.reduceLT, Nat.reduceLeDiff, Int.reduceToNat, Int.reduceLE, Int.reduceLT, Int.reduceEq, Int.reduceNeg, reduceCtorEq]
  have hw2 : IntKind.i64.wrap ((i : Int) + 1) = ((i + 1 : Nat) : Int) := by rw [wrap_id (by omega) (by omega)]; omega
  simp only [hn1, hk1, hk2]
  refine ⟨fun e1 => ?_, fun e1 => ?_⟩
  · simp only [decide_eq_true_eq] at e1
    rw [fstI_cons (by omega)] at hf
    refine ⟨⟨by omega, by omega⟩, fun e2 => ?_, fun e2 => ?_⟩
    · rw [if_pos (by simpa [offP] using e2)] at hf
      refine ⟨fun _ => ?_, fun h => by simp at h⟩
      rcases no with h | h
      · rw [h.1] at hf; omega
      · rw [h]
    · rw [if_neg (by simpa [offP] using e2)] at hf
      refine ⟨⟨i + 1, by omega, by rw [← hf]; congr 1⟩, by simp only []; omega, ?_⟩
      apply sub_of <;> simp only [hw2, go_sem, ↓reduceIte, Nat.reduceAdd, Nat.reduceSub, Nat.reduceMul, Nat.reduceEqDiff, Nat.reduceLT, Nat.reduceLeDiff, Int.reduceToNat, Int.reduceLE, Int.reduceLT, Int.reduceEq, Int.reduceNeg, reduceCtorEq] <;> (try simp)
  simp only [decide_eq_false_iff_not] at e1
  have e0 : m - i = 0 := by omega
  rw [e0] at hf
  simp only [fstI] at hf
  refine ⟨by omega, fun e3 => ?_, fun e3 => ?_⟩
  · rcases no with h | h
    · rw [h.2] at e3; simp at e3
    · rw [h]
  simp only [Bool.not_eq_false'] at e3
  have hB : breaksO n k m z t p w = if 0 ≤ fstI (thinP' z p (t (firstT k t w) 1)) m 0 then (fstI (thinP' z p (t (firstT k t w) 1)) m 0, 0) else (0, 4) := by
    unfold breaksO
    rw [if_pos ⟨c1, c2⟩, if_pos ⟨hf.symm, e3⟩]
  have hp := fstI_none hf.symm
  rw [hB]
  obtain ⟨hs1, hs2⟩ := firstT_spec c2 (in3_iff.1 e3).2
  generalize hS : firstT k t w = S at *
  clear hf hB no hw2 hi e0 e1
  refine ⟨⟨by kernel_rfl, by kernel_rfl⟩, ?_, ?_⟩
  all_goals
    refine loop_ofH { q : Nat × Nat // q.1 ≤ S ∧ S ≤ q.2 ∧ q.2 ≤ k } (fun q => [(6, .int .i64 (q.1.2 : Int)), (5, .int .i64 (q.1.1 : Int)), (1, .func 60 [.ptr 1 0, .ptr 2 0])]) (fun h _ => h) (fun q => q.1.2 - q.1.1) (fun _ => ⟨rfl, rfl⟩) ⟨(0, k), by omega, by omega, by omega⟩ (by (apply sub_of <;> simp only [go_sem, ↓reduceIte, Nat.reduceAdd, Nat.reduceSub, Nat.reduceMul, Nat.reduceEqDiff, Nat.reduceLT, Nat.reduceLeDiff, Int.reduceToNat, Int.reduceLE, Int.reduceLT, Int.reduceEq, Int.reduceNeg, reduceCtorEq] <;> (try simp [catF]))) ?_
    rintro ⟨⟨a, b⟩, q1, q2, q3⟩
    simp only [] at q1 q2 q3
    simp only [rink_eq, in_eq, table_eq, p33_4, p33_6, p60_1, p62_1, bTup, Try.f42, Try.f58, Try.f59, Try.f60, Try.f61, Try.f62, Try.f33, go_sem, ↓reduceIte, Nat.reduceAdd, Nat.reduceSub, Nat.reduceMul, Nat.reduceEqDiff, Nat.reduceLT, Nat.reduceLeDiff, Int.reduceToNat, Int.reduceLE, Int.reduceLT, Int.reduceEq, Int.reduceNeg, reduceCtorEq]
    simp only [mid_eq (show a + b ≤ 100000 by omega)]
    refine ⟨fun d1 => ?_, fun d1 => ?_⟩
    · simp only [decide_eq_true_eq] at d1
      generalize hm : (a + b) / 2 = x
      have hx : a ≤ x ∧ x < b := by omega
      have hxk := hs2 x (by omega)
      have hw2 : IntKind.i64.wrap ((x : Int) + 1) = ((x + 1 : Nat) : Int) := by rw [wrap_id (by omega) (by omega)]; omega
      refine ⟨⟨by kernel_rfl, by kernel_rfl⟩, ⟨by omega, by omega⟩, fun d2 => ?_, fun d2 => ?_⟩
      · simp only [Bool.not_eq_true', decide_eq_false_iff_not, Int.toNat_natCast] at d2
        refine ⟨⟨(x + 1, b), by simp only []; omega, by simp only []; omega, by simp only []; omega⟩, by simp only []; omega, ?_⟩
        apply sub_of <;> simp only [hw2, go_sem, ↓reduceIte, Nat.reduceAdd, Nat.reduceSub, Nat.reduceMul, Nat.reduceEqDiff, Nat.reduceLT, Nat.reduceLeDiff, Int.reduceToNat, Int.reduceLE, Int.reduceLT, Int.reduceEq, Int.reduceNeg, reduceCtorEq] <;> (try simp)
      · simp only [Bool.not_eq_false', decide_eq_true_eq, Int.toNat_natCast] at d2
        refine ⟨⟨(a, x), by simp only []; omega, by simp only []; omega, by simp only []; omega⟩, by simp only []; omega, ?_⟩
        apply sub_of <;> simp only [go_sem, ↓reduceIte, Nat.reduceAdd, Nat.reduceSub, Nat.reduceMul, Nat.reduceEqDiff, Nat.reduceLT, Nat.reduceLeDiff, Int.reduceToNat, Int.reduceLE, Int.reduceLT, Int.reduceEq, Int.reduceNeg, reduceCtorEq] <;> (try simp)
    · simp only [decide_eq_false_iff_not] at d1
      obtain rfl : a = S := by omega
      have hpt : ∀ j, j < m → 0 ≤ p j 0 ∧ p j 0 ≤ (n : Int) - 1 := fun j hj => by
        have := hp j (by omega) (by omega)
        simp only [offP, Bool.not_eq_false'] at this
        exact in3_iff.1 this
      first | refine ⟨⟨by omega, by omega⟩, ⟨by omega, by omega⟩, ?_⟩ | refine ⟨⟨by omega, by omega⟩, ?_⟩
      refine loop_ofH { i : Nat // i ≤ m ∧ fstI (thinP' z p (t a 1)) (m - i) i = fstI (thinP' z p (t a 1)) m 0 } (fun i => [(8, .int .i64 (i.1 : Int)), (7, .int .i64 (m : Int)), (6, .row m 1 fun i j => .int .i64 (p i j)), (1, .func 62 [.ptr 0 0, .ptr 3 0]), (0, .row m 1 fun i j => .int .i64 (p i j))]) (fun h _ => h) (fun i => m - i.1) (fun _ => ⟨rfl, rfl⟩) ⟨0, by omega, rfl⟩ (by (apply sub_of <;> simp only [go_sem, ↓reduceIte, Nat.reduceAdd, Nat.reduceSub, Nat.reduceMul, Nat.reduceEqDiff, Nat.reduceLT, Nat.reduceLeDiff, Int.reduceToNat, Int.reduceLE, Int.reduceLT, Int.reduceEq, Int.reduceNeg, reduceCtorEq] <;> (try simp [catF]))) ?_
      rintro ⟨i, hi, hf⟩
      simp only [rink_eq, in_eq, table_eq, p33_4, p33_6, p60_1, p62_1, bTup, Try.f42, Try.f58, Try.f59, Try.f60, Try.f61, Try.f62, Try.f33, go_sem, ↓reduceIte, Nat.reduceAdd, Nat.reduceSub, Nat.reduceMul, Nat.reduceEqDiff, Nat.reduceLT, Nat.reduceLeDiff, Int.reduceToNat, Int.reduceLE, Int.reduceLT, Int.reduceEq, Int.reduceNeg, reduceCtorEq]
      have hw2 : IntKind.i64.wrap ((i : Int) + 1) = ((i + 1 : Nat) : Int) := by rw [wrap_id (by omega) (by omega)]; omega
      refine ⟨fun e1 => ?_, fun e1 => ?_⟩
      · simp only [decide_eq_true_eq] at e1
        rw [fstI_cons (by omega)] at hf
        have hpi := hpt i (by omega)
        refine ⟨⟨by omega, by omega⟩, ⟨by kernel_rfl, by kernel_rfl⟩, ⟨by omega, by omega⟩, fun e2 => ?_, fun e2 => ?_⟩
        · rw [if_pos (show thinP' z p (t a 1) i = true from e2)] at hf
          rw [← hf, if_pos (by omega)]
          refine ⟨fun _ => rfl, fun h => by simp at h⟩
        · rw [if_neg (show ¬ thinP' z p (t a 1) i = true by unfold thinP'; rw [e2]; simp)] at hf
          refine ⟨⟨i + 1, by omega, by rw [← hf]; congr 1⟩, by simp only []; omega, ?_⟩
          apply sub_of <;> simp only [hw2, go_sem, ↓reduceIte, Nat.reduceAdd, Nat.reduceSub, Nat.reduceMul, Nat.reduceEqDiff, Nat.reduceLT, Nat.reduceLeDiff, Int.reduceToNat, Int.reduceLE, Int.reduceLT, Int.reduceEq, Int.reduceNeg, reduceCtorEq] <;> (try simp)
      · simp only [decide_eq_false_iff_not] at e1
        have hf1 : fstI (thinP' z p (t a 1)) m 0 = -1 := by rw [← hf, show m - i = 0 by omega]; rfl
        rw [hf1, if_neg (by omega)]
end Go.Eng
end

/- IceOwns: its call returns true. -/
section
namespace Go.Eng
open Go Go.RowKit Go.Proofs
set_option maxRecDepth 100000
set_option maxHeartbeats 4000000
attribute [local irreducible] OwnT DefS
theorem keeps_at (n : Nat) (z : Nat → Nat → Int) (m : Nat) (l : Nat → Nat → Int) (days least most : Int) : keepsBase [.row n 4 (fun i j => .int .i64 (z i j)), .row m 5 (fun i j => .int .i64 (l i j)), .int .i64 days, .int .i64 least, .int .i64 most] =
    some ((4 = 4 ∧ IntR n 4 (fun i j => .int .i64 (z i j))) ∧ (5 = 5 ∧ IntR m 5 (fun i j => .int .i64 (l i j))), kTup (keepsO n m z l days least most)) := rfl
theorem rkeeps_at (n : Nat) (z : Nat → Nat → Int) (m : Nat) (l : Nat → Nat → Int) (days least most : Int) : rkeepsBase [.row n 4 (fun i j => .int .i64 (z i j)), .row m 5 (fun i j => .int .i64 (l i j)), .int .i64 days, .int .i64 least, .int .i64 most] =
    some ((4 = 4 ∧ IntR n 4 (fun i j => .int .i64 (z i j))) ∧ (5 = 5 ∧ IntR m 5 (fun i j => .int .i64 (l i j))), kTup (keepsO n m z l days least most)) := rfl
theorem own_upd (i a b : Nat) (z : Nat → Nat → Int) : (if a = i ∧ b = 0 then nth [SV.int .i64 (-1)] b else SV.int .i64 (if a < i ∧ b = 0 then -1 else z a b)) = .int .i64 (if a < i + 1 ∧ b = 0 then -1 else z a b) := by
  by_cases h : a = i ∧ b = 0
  · obtain ⟨rfl, rfl⟩ := h
    simp [nth]
  · rw [if_neg h]
    have : (a < i ∧ b = 0) ↔ (a < i + 1 ∧ b = 0) := by omega
    simp [this]
def iceOwnsBase : BaseF := fun args => match args with
  | [.row n sz_z f_z, .row m sz_l f_l, .int .i64 days, .int .i64 least, .int .i64 most] => some ((sz_z = 4 ∧ IntR n 4 f_z) ∧ (sz_l = 5 ∧ IntR m 5 f_l), .bool true)
  | _ => none
theorem iceOwns_eq (n : Nat) (z : Nat → Nat → Int) (m : Nat) (l : Nat → Nat → Int) (days : Int) (least : Int) (most : Int) : iceOwnsBase [.row n 4 (fun i j => .int .i64 (z i j)), .row m 5 (fun i j => .int .i64 (l i j)), .int .i64 days, .int .i64 least, .int .i64 most] = some ((4 = 4 ∧ IntR n 4 (fun i j => .int .i64 (z i j))) ∧ (5 = 5 ∧ IntR m 5 (fun i j => .int .i64 (l i j))), .bool true) := rfl
theorem iceOwns_base : Base Try.prog 9 iceOwnsBase := by
  intro args p v hq hp
  unfold iceOwnsBase at hq
  split at hq
  rotate_left
  · cases hq
  rename_i n sz_z f_z m sz_l f_l days least most
  cases hq
  obtain ⟨⟨rfl, i_z⟩, ⟨rfl, i_l⟩⟩ := hp
  refine base_of (C := cx [] [(19, 37, playBase)] [(13, aliveBase), (25, sameBase), (32, keepsBase)] [(9, 16, p9_16)] none) (cx_ok ⟨play_base, trivial⟩ ⟨alive_base, same_base, keeps_base, trivial⟩) rfl (g := 9) (fn := Try.f9)
    (args' := [.row n 4 (rowF .i64 (fun i j => iv (f_z i j))), .row m 5 (rowF .i64 (fun i j => iv (f_l i j))), .int .i64 days, .int .i64 least, .int .i64 most]) (fn_9) rfl 1000 (by simp only [BdL, Bd, and_self, and_true, true_and]; exact ⟨fun i j hi hj => by rw [i_z i j hi hj]; trivial, fun i j hi hj => by rw [i_l i j hi hj]; trivial⟩) ⟨SameD.int i_z, SameD.int i_l, SameD.rfl' _, SameD.rfl' _, SameD.rfl' _, trivial⟩ ?_
  generalize (fun i j => iv (f_z i j)) = z
  generalize (fun i j => iv (f_l i j)) = l
  simp only [rowF_eq]
  simp only [alive_eq, same_eq, p9_16, play_at, pTup, keeps_at, kTup, Try.f9, go_sem, ↓reduceIte, Nat.reduceAdd, Nat.reduceSub, Nat.reduceMul, Nat.reduceEqDiff, Nat.reduceLT, Nat.reduceLeDiff, Int.reduceToNat, Int.reduceLE, Int.reduceLT, Int.reduceEq, Int.reduceNeg, reduceCtorEq]
  have hpn := playT_n n m z l
  refine ⟨fun _ => True.intro, fun c1 => ⟨fun _ => True.intro, fun c2 => ?_⟩⟩
  simp only [decide_eq_false_iff_not] at c1 c2
  generalize hP : playT n m z l = P at *
  refine ⟨by omega, by omega, by omega, ?_⟩
  refine loop_of { i : Nat // i ≤ P.n } (fun i => [(52, .int .i64 (i.1 : Int)), (51, .int .i64 (P.n : Int)), (17, .vec 3 1), (16, .int .i64 P.e), (15, .int .i64 P.i), (13, .vec 2 0), (14, .ptr 0 0), (12, .vec 1 1), (11, .vec 0 1), (4, .int .i64 most), (3, .int .i64 least), (2, .int .i64 days), (1, .row m 5 fun i j => .int .i64 (l i j)), (0, .row n 4 fun i j => .int .i64 (z i j))])
    (fun i => ⟨[.live 44 [.int .i64 (P.s 0), .int .i64 (P.s 1), .int .i64 (P.s 2), .int .i64 (P.s 3), .int .i64 (P.s 4), .int .i64 (P.s 5)]], [.live 1 37 4 n fun a b => .int .i64 (z a b), .live 1 41 5 m fun a b => .int .i64 (l a b), .live 0 37 4 P.n fun a b => .int .i64 (if a < i.1 ∧ b = 0 then -1 else P.z a b), .live 1 37 4 P.n fun a b => .int .i64 (P.z a b)]⟩) (fun i => P.n - i.1) (fun _ => ⟨rfl, rfl⟩) ⟨0, by omega⟩ (by (apply sub_of <;> simp only [go_sem, ↓reduceIte, Nat.reduceAdd, Nat.reduceSub, Nat.reduceMul, Nat.reduceEqDiff, Nat.reduceLT, Nat.reduceLeDiff, Int.reduceToNat, Int.reduceLE, Int.reduceLT, Int.reduceEq, Int.reduceNeg, reduceCtorEq] <;> (try simp [catF]))) ?_
  rintro ⟨i, hi⟩
  simp only [alive_eq, same_eq, p9_16, play_at, pTup, keeps_at, kTup, Try.f9, go_sem, ↓reduceIte, Nat.reduceAdd, Nat.reduceSub, Nat.reduceMul, Nat.reduceEqDiff, Nat.reduceLT, Nat.reduceLeDiff, Int.reduceToNat, Int.reduceLE, Int.reduceLT, Int.reduceEq, Int.reduceNeg, reduceCtorEq]
  have hw2 : IntKind.i64.wrap ((i : Int) + 1) = ((i + 1 : Nat) : Int) := by rw [wrap_id (by omega) (by omega)]; omega
  refine ⟨fun d1 => ?_, fun d1 => ?_⟩
  · simp only [decide_eq_true_eq] at d1
    refine ⟨⟨by omega, by omega⟩, by omega, ⟨i + 1, by omega⟩, by simp only []; omega, ?_⟩
    apply sub_of <;> simp only [hw2, go_sem, ↓reduceIte, Nat.reduceAdd, Nat.reduceSub, Nat.reduceMul, Nat.reduceEqDiff, Nat.reduceLT, Nat.reduceLeDiff, Int.reduceToNat, Int.reduceLE, Int.reduceLT, Int.reduceEq, Int.reduceNeg, reduceCtorEq] <;> (try simp)
    exact fun a b _ _ => own_upd i a b P.z
  · simp only [decide_eq_false_iff_not] at d1
    simp only [hP]
    refine loop_of { j : Nat // j ≤ m } (fun j => [(78, .int .i64 (j.1 : Int)), (77, .int .i64 (m : Int)), (22, .int .i64 P.e), (21, .int .i64 P.i), (19, .vec 4 0), (20, .ptr 1 0), (17, .vec 3 1), (16, .int .i64 P.e), (15, .int .i64 P.i), (14, .ptr 0 0), (12, .vec 1 1), (11, .vec 0 1), (1, .row m 5 fun i j => .int .i64 (l i j)), (0, .row n 4 fun i j => .int .i64 (z i j))])
      (fun j => ⟨[.live 44 [.int .i64 (P.s 0), .int .i64 (P.s 1), .int .i64 (P.s 2), .int .i64 (P.s 3), .int .i64 (P.s 4), .int .i64 (P.s 5)], .live 44 [.int .i64 (P.s 0), .int .i64 (P.s 1), .int .i64 (P.s 2), .int .i64 (P.s 3), .int .i64 (P.s 4), .int .i64 (P.s 5)]], [.live 1 37 4 n fun a b => .int .i64 (z a b), .live 1 41 5 m fun a b => .int .i64 (l a b), .dead, .live 1 37 4 P.n fun a b => .int .i64 (P.z a b), .live 0 37 4 P.n fun a b => .int .i64 (P.z a b)]⟩) (fun j => m - j.1) (fun _ => ⟨rfl, rfl⟩) ⟨0, by omega⟩ (by (apply sub_of <;> simp only [go_sem, ↓reduceIte, Nat.reduceAdd, Nat.reduceSub, Nat.reduceMul, Nat.reduceEqDiff, Nat.reduceLT, Nat.reduceLeDiff, Int.reduceToNat, Int.reduceLE, Int.reduceLT, Int.reduceEq, Int.reduceNeg, reduceCtorEq] <;> (try simp [catF]))) ?_
    rintro ⟨j, hj⟩
    have hw3 : IntKind.i64.wrap ((j : Int) + 1) = ((j + 1 : Nat) : Int) := by rw [wrap_id (by omega) (by omega)]; omega
    simp only [sameB_self, alive_eq, same_eq, p9_16, play_at, pTup, keeps_at, kTup, Try.f9, go_sem, ↓reduceIte, Nat.reduceAdd, Nat.reduceSub, Nat.reduceMul, Nat.reduceEqDiff, Nat.reduceLT, Nat.reduceLeDiff, Int.reduceToNat, Int.reduceLE, Int.reduceLT, Int.reduceEq, Int.reduceNeg, reduceCtorEq]
    refine ⟨fun e1 => ?_, fun e1 => ⟨by omega, by omega⟩⟩
    simp only [decide_eq_true_eq] at e1
    refine ⟨⟨by kernel_rfl, by kernel_rfl⟩, ⟨by omega, by omega⟩, by omega, ⟨by omega, by omega⟩, ⟨j + 1, by omega⟩, by simp only []; omega, ?_⟩
    apply sub_of <;> simp only [hw3, go_sem, ↓reduceIte, Nat.reduceAdd, Nat.reduceSub, Nat.reduceMul, Nat.reduceEqDiff, Nat.reduceLT, Nat.reduceLeDiff, Int.reduceToNat, Int.reduceLE, Int.reduceLT, Int.reduceEq, Int.reduceNeg, reduceCtorEq] <;> (try simp)
end Go.Eng
end

/- IceKeeps: its call returns true. -/
section
namespace Go.Eng
open Go Go.RowKit Go.Proofs
set_option maxRecDepth 100000
set_option maxHeartbeats 4000000
attribute [local irreducible] OwnT DefS
def iceKeepsBase : BaseF := fun args => match args with
  | [.row n sz_z f_z, .row k sz_t f_t, .row m sz_p f_p, .int .i64 w, .row q sz_l f_l, .int .i64 days, .int .i64 least, .int .i64 most] => some ((sz_z = 4 ∧ IntR n 4 f_z) ∧ (sz_t = 2 ∧ IntR k 2 f_t) ∧ (sz_p = 1 ∧ IntR m 1 f_p) ∧ (sz_l = 5 ∧ IntR q 5 f_l), .bool true)
  | _ => none
theorem iceKeeps_eq (n : Nat) (z : Nat → Nat → Int) (k : Nat) (t : Nat → Nat → Int) (m : Nat) (p : Nat → Nat → Int) (w : Int) (q : Nat) (l : Nat → Nat → Int) (days : Int) (least : Int) (most : Int) : iceKeepsBase [.row n 4 (fun i j => .int .i64 (z i j)), .row k 2 (fun i j => .int .i64 (t i j)), .row m 1 (fun i j => .int .i64 (p i j)), .int .i64 w, .row q 5 (fun i j => .int .i64 (l i j)), .int .i64 days, .int .i64 least, .int .i64 most] = some ((4 = 4 ∧ IntR n 4 (fun i j => .int .i64 (z i j))) ∧ (2 = 2 ∧ IntR k 2 (fun i j => .int .i64 (t i j))) ∧ (1 = 1 ∧ IntR m 1 (fun i j => .int .i64 (p i j))) ∧ (5 = 5 ∧ IntR q 5 (fun i j => .int .i64 (l i j))), .bool true) := rfl
theorem iceKeeps_base : Base Try.prog 10 iceKeepsBase := by
  intro args p v hq hp
  unfold iceKeepsBase at hq
  split at hq
  rotate_left
  · cases hq
  rename_i n sz_z f_z k sz_t f_t m sz_p f_p w q sz_l f_l days least most
  cases hq
  obtain ⟨⟨rfl, i_z⟩, ⟨rfl, i_t⟩, ⟨rfl, i_p⟩, ⟨rfl, i_l⟩⟩ := hp
  refine base_of (C := cx [] [] [(27, manyBase), (13, aliveBase), (33, breaksBase), (34, rbreaksBase), (32, keepsBase), (35, rkeepsBase)] [] none) (cx_ok trivial ⟨many_base, alive_base, breaks_base, rbreaks_base, keeps_base, rkeeps_base, trivial⟩) rfl (g := 10) (fn := Try.f10)
    (args' := [.row n 4 (rowF .i64 (fun i j => iv (f_z i j))), .row k 2 (rowF .i64 (fun i j => iv (f_t i j))), .row m 1 (rowF .i64 (fun i j => iv (f_p i j))), .int .i64 w, .row q 5 (rowF .i64 (fun i j => iv (f_l i j))), .int .i64 days, .int .i64 least, .int .i64 most]) (fn_10) rfl 1000 (by simp only [BdL, Bd, and_self, and_true, true_and]; exact ⟨fun i j hi hj => by rw [i_z i j hi hj]; trivial, fun i j hi hj => by rw [i_t i j hi hj]; trivial, fun i j hi hj => by rw [i_p i j hi hj]; trivial, fun i j hi hj => by rw [i_l i j hi hj]; trivial⟩) ⟨SameD.int i_z, SameD.int i_t, SameD.int i_p, SameD.rfl' _, SameD.int i_l, SameD.rfl' _, SameD.rfl' _, SameD.rfl' _, trivial⟩ ?_
  generalize (fun i j => iv (f_z i j)) = z
  generalize (fun i j => iv (f_t i j)) = t
  generalize (fun i j => iv (f_p i j)) = p
  generalize (fun i j => iv (f_l i j)) = l
  simp only [rowF_eq]
  simp only [many_eq, alive_eq, breaks_eq, rbreaks_eq, kTup, bTup, keeps_at, rkeeps_at, Try.f10, go_sem, ↓reduceIte, Nat.reduceAdd, Nat.reduceSub, Nat.reduceMul, Nat.reduceEqDiff, Nat.reduceLT, Nat.reduceLeDiff, Int.reduceToNat, Int.reduceLE, Int.reduceLT, Int.reduceEq, Int.reduceNeg, reduceCtorEq]
  exact ⟨fun _ => trivial, fun _ => ⟨fun _ => trivial, fun _ => ⟨fun _ => trivial, fun c3 => ⟨fun _ => trivial, fun _ => by simp only [decide_eq_false_iff_not] at c3; omega⟩⟩⟩⟩
end Go.Eng
end

/- IceNames: its call returns true. -/
section
namespace Go.Eng
open Go Go.RowKit Go.Proofs
set_option maxRecDepth 100000
set_option maxHeartbeats 4000000
attribute [local irreducible] OwnT DefS
theorem thin_gen (n : Nat) (f : Nat → Nat → SV) (c : Int) : thinBase [.row n 4 f, .int .i64 c] = some ((4 = 4 ∧ IntR n 4 f), tTup (thinO n (fun i j => iv (f i j)) c)) := rfl
theorem breaks_gen (n k m : Nat) (f t p : Nat → Nat → SV) (w : Int) : breaksBase [.row n 4 f, .row k 2 t, .row m 1 p, .int .i64 w] = some ((4 = 4 ∧ IntR n 4 f) ∧ (2 = 2 ∧ IntR k 2 t) ∧ (1 = 1 ∧ IntR m 1 p) ∧ m ≤ 1000000, bTup (breaksO n k m (fun i j => iv (f i j)) (fun i j => iv (t i j)) (fun i j => iv (p i j)) w)) := rfl
theorem keeps_gen (n m : Nat) (f l : Nat → Nat → SV) (days least most : Int) : keepsBase [.row n 4 f, .row m 5 l, .int .i64 days, .int .i64 least, .int .i64 most] = some ((4 = 4 ∧ IntR n 4 f) ∧ (5 = 5 ∧ IntR m 5 l), kTup (keepsO n m (fun i j => iv (f i j)) (fun i j => iv (l i j)) days least most)) := rfl
theorem ints_gen (n m : Nat) (f l : Nat → Nat → SV) : intsBase [.row n 1 f, .row m 1 l] = some ((1 = 1 ∧ IntR n 1 f) ∧ (1 = 1 ∧ IntR m 1 l) ∧ n ≤ 1000000, .bool (intsB n m (fun i j => iv (f i j)) (fun i j => iv (l i j)))) := rfl
def iceNamesBase : BaseF := fun args => match args with
  | [] => some (True, .bool true)
  | _ => none
theorem iceNames_eq  : iceNamesBase [] = some (True, .bool true) := rfl
theorem iceNames_base : Base Try.prog 12 iceNamesBase := by
  intro args p v hq hp
  unfold iceNamesBase at hq
  split at hq
  rotate_left
  · cases hq
  cases hq
  refine base_of (C := cx [] [(19, 37, playBase), (29, 3, thinBase)] [(13, aliveBase), (14, waterBase), (23, spanBase), (31, intsBase), (32, keepsBase), (33, breaksBase)] [] none) (cx_ok ⟨play_base, thin_base, trivial⟩ ⟨alive_base, water_base, span_base, ints_base, keeps_base, breaks_base, trivial⟩) rfl (g := 12) (fn := Try.f12)
    (args' := []) (fn_12) rfl 1000 (by simp only [BdL, Bd, and_self]) trivial ?_
  simp only [alive_eq, span_eq, kTup, bTup, breaks_gen, keeps_gen, ints_gen, play_gen, thin_gen, water_gen, pTup, tTup, spanT, Try.f36, Try.f12, go_sem, ↓reduceIte, Nat.reduceAdd, Nat.reduceSub, Nat.reduceMul, Nat.reduceEqDiff, Nat.reduceLT, Nat.reduceLeDiff, Int.reduceToNat, Int.reduceLE, Int.reduceLT, Int.reduceEq, Int.reduceNeg, reduceCtorEq]
  repeat' first | exact intR_of (by kernel_rfl) | refine spl_t (by kernel_rfl) ?_ | refine And.intro ?_ ?_ | exact congrArg SV.bool (by kernel_rfl) | exact of_decide_eq_true (by kernel_rfl)
end Go.Eng
end

/- IceApart: its call returns true. -/
section
namespace Go.Eng
open Go Go.RowKit Go.Proofs
set_option maxRecDepth 100000
set_option maxHeartbeats 4000000
attribute [local irreducible] OwnT DefS
theorem wf_u8 {w : Int} (h : (Lit.int .u8 w).wf = true) : 0 ≤ w ∧ w ≤ 255 := by
  have : (decide (IntKind.min .u8 ≤ w) && decide (w ≤ IntKind.max .u8)) = true := h
  have h1 : IntKind.min .u8 = 0 := by decide
  have h2 : IntKind.max .u8 = 255 := by decide
  rw [h1, h2] at this
  simpa using this
theorem tmod_nat {c : Int} {m : Nat} (hc : 0 ≤ c) (hm : 0 < m) : c.tmod (m : Int) = ((c.toNat % m : Nat) : Int) := by
  obtain ⟨k, rfl⟩ := Int.eq_ofNat_of_zero_le hc
  rw [Int.tmod_eq_emod_of_nonneg hc]
  simp
theorem takeB_iff (w : Int) (e : Nat → Int) : takeB w e = true ↔ e 1 ≤ w ∧ ((e 0 = 3 ∧ e 1 = w) ∨ (e 0 ≠ 3 ∧ w ≤ e 2)) := by
  have h : takeB w e = true ↔ e 1 ≤ w ∧ w ≤ toOf e := by simp [takeB]
  rw [h]
  by_cases h3 : e 0 = 3
  · have : toOf e = e 1 := by simp [toOf, h3]
    rw [this]
    exact ⟨fun ⟨a, b⟩ => ⟨a, .inl ⟨h3, by omega⟩⟩, fun ⟨a, b⟩ => ⟨a, by omega⟩⟩
  · have : toOf e = e 2 := by simp [toOf, h3]
    rw [this]
    exact ⟨fun ⟨a, b⟩ => ⟨a, .inr ⟨h3, by omega⟩⟩, fun ⟨a, b⟩ => ⟨a, by omega⟩⟩
theorem own_snoc {k : Nat} {z : Nat → Nat → Int} {e : Nat → Int} {a b : Nat} (ha : a < k + 1) (hb : b < 5) : catF k (fun i j => SV.int .i64 (z i j)) (oneF [.int .i64 (e 0), .int .i64 0, .int .i64 0, .int .i64 (e 3), .int .i64 (e 4)]) a b = .int .i64 (if a < k then z a b else e0 e b) := by
  unfold catF oneF
  split
  · rfl
  · have : a = k := by omega
    subst this
    have hc4 : b = 0 ∨ b = 1 ∨ b = 2 ∨ b = 3 ∨ b = 4 := by omega
    rcases hc4 with rfl | rfl | rfl | rfl | rfl <;> first | rfl | (simp [e0]; rfl)
def iceApartBase : BaseF := fun args => match args with
  | [.row n sz_z f_z, .row m sz_l f_l, .int .u8 c, .int .u8 w] => some ((sz_z = 4 ∧ IntR n 4 f_z) ∧ (sz_l = 5 ∧ IntR m 5 f_l) ∧ ((Lit.int .u8 c).wf = true) ∧ ((Lit.int .u8 w).wf = true), .bool true)
  | _ => none
theorem iceApart_eq (n : Nat) (z : Nat → Nat → Int) (m : Nat) (l : Nat → Nat → Int) (c : Int) (w : Int) : iceApartBase [.row n 4 (fun i j => .int .i64 (z i j)), .row m 5 (fun i j => .int .i64 (l i j)), .int .u8 c, .int .u8 w] = some ((4 = 4 ∧ IntR n 4 (fun i j => .int .i64 (z i j))) ∧ (5 = 5 ∧ IntR m 5 (fun i j => .int .i64 (l i j))) ∧ ((Lit.int .u8 c).wf = true) ∧ ((Lit.int .u8 w).wf = true), .bool true) := rfl
theorem iceApart_base : Base Try.prog 6 iceApartBase := by
  intro args p v hq hp
  unfold iceApartBase at hq
  split at hq
  rotate_left
  · cases hq
  rename_i n sz_z f_z m sz_l f_l c w
  cases hq
  obtain ⟨⟨rfl, i_z⟩, ⟨rfl, i_l⟩, wf_c, wf_w⟩ := hp
  refine base_of (C := cx [] [(19, 37, playBase)] [(13, aliveBase), (16, rinkBase), (25, sameBase), (23, spanBase)] [(6, 12, p6_12), (6, 26, p6_26)] none) (cx_ok ⟨play_base, trivial⟩ ⟨alive_base, rink_base, same_base, span_base, trivial⟩) rfl (g := 6) (fn := Try.f6)
    (args' := [.row n 4 (rowF .i64 (fun i j => iv (f_z i j))), .row m 5 (rowF .i64 (fun i j => iv (f_l i j))), .int .u8 c, .int .u8 w]) (fn_6) rfl 1000 (by simp only [BdL, Bd, and_self, and_true, true_and]; exact ⟨fun i j hi hj => by rw [i_z i j hi hj]; trivial, fun i j hi hj => by rw [i_l i j hi hj]; trivial⟩) ⟨SameD.int i_z, SameD.int i_l, SameD.rfl' _, SameD.rfl' _, trivial⟩ ?_
  generalize (fun i j => iv (f_z i j)) = z
  generalize (fun i j => iv (f_l i j)) = l
  simp only [rowF_eq]
  simp only [alive_eq, rink_eq, same_eq, span_eq, p6_12, p6_26, play_at, pTup, Try.f24, Try.f6, go_sem, ↓reduceIte, Nat.reduceAdd, Nat.reduceSub, Nat.reduceMul, Nat.reduceEqDiff, Nat.reduceLT, Nat.reduceLeDiff, Int.reduceToNat, Int.reduceLE, Int.reduceLT, Int.reduceEq, Int.reduceNeg, reduceCtorEq]
  have hc0 := wf_u8 wf_c
  have hw0 := wf_u8 wf_w
  have hcc : IntKind.i64.wrap c = c := wrap_id (by omega) (by omega)
  have hww : IntKind.i64.wrap w = w := wrap_id (by omega) (by omega)
  simp only [hcc, hww]
  refine ⟨fun _ => True.intro, fun c1 => ⟨fun c2 => ?_, fun c2 => ⟨fun c3 => ?_, fun c3 => ⟨fun c4 => ?_, fun c4 => ?_⟩⟩⟩⟩
  · simp at c2
    obtain ⟨q1, q2, q3⟩ := playT_bad c2
    exact ⟨fun _ => ⟨fun _ => True.intro, fun h => by simp [q3] at h⟩, fun h => by simp at h; omega⟩
  · simp at c2
    obtain ⟨hr, _⟩ := playT_ok c2
    simp [hr] at c3
  · simp at c2
    obtain ⟨_, _, hn, _⟩ := playT_ok c2
    simp [hn] at c4
  simp at c1 c2
  obtain ⟨hr, hm, hn, _⟩ := playT_ok c2
  have hb := rinkB_iff.1 hr
  have hm1 : IntKind.i64.wrap ((m : Int) + 1) = ((m + 1 : Nat) : Int) := by rw [wrap_id (by omega) (by omega)]; omega
  have hK : c.tmod ((m + 1 : Nat) : Int) = ((c.toNat % (m + 1) : Nat) : Int) := tmod_nat hc0.1 (by omega)
  have hKm : c.toNat % (m + 1) ≤ m := by have := Nat.mod_lt c.toNat (show 0 < m + 1 by omega); omega
  have hW : w.tmod (n : Int) = ((w.toNat % n : Nat) : Int) := tmod_nat hw0.1 (by omega)
  have hWn : w.toNat % n < n := Nat.mod_lt _ (by omega)
  simp only [hm1, hK, hW, Int.toNat_natCast]
  generalize c.toNat % (m + 1) = K at *
  generalize w.toNat % n = W at *
  have hmk : IntKind.i64.wrap ((m : Int) - (K : Int)) = ((m - K : Nat) : Int) := by rw [wrap_id (by omega) (by omega)]; omega
  obtain ⟨h1, h2, s1, s2, p1, p2, p3, p4⟩ := play_split hKm c2
  obtain ⟨z1, t1, p5, p6⟩ := play_alone hWn c2
  simp only [hmk, p1, p2, decide_true, Bool.not_true]
  have hnm : 20000 * (n : Int) * (m : Int) ≤ 20000 * 24 * 40 := Int.mul_le_mul (by omega) (by omega) (by omega) (by omega)
  have hsm : ∀ j, IntKind.i64.wrap (s1 j + s2 j) = (playT n m z l).s j := fun j => by
    have := p4 j
    rw [wrap_id (by omega) (by omega)]; exact this.1.symm
  simp only [hsm, hn, p3, sameB_self, decide_true, Bool.and_self, Bool.not_true]
  subst p3
  generalize hP : playT n m z l = P at *
  repeat' (first | refine And.intro ?_ ?_ | intro _)
  all_goals try (first | (as_aux_lemma => (first | (show planOk _ _ = true; kernel_rfl) | (show keepOk _ _ = true; kernel_rfl))) | exact True.intro)
  all_goals try contradiction
  all_goals try omega
  all_goals
    refine loop_of { i : Nat // i ≤ m } (fun i => [(149, .int .i64 (i.1 : Int)), (148, .int .i64 (m : Int)), (147, .row m 5 fun i j => .int .i64 (l i j)), (25, .vec 3 (ownC (W : Int) l i.1)), (24, .int .i64 (W : Int)), (9, .vec 0 0), (0, .row n 4 fun i j => .int .i64 (z i j))])
      (fun i => ⟨[.dead, .dead, .dead, .dead, .dead, .dead, .dead, .dead, .dead, .dead, .dead, .dead, .dead], [.live 0 37 4 n fun i j => .int .i64 (P.z i j), .dead, .dead, .live (ownC (W : Int) l i.1) 41 5 (ownC (W : Int) l i.1) fun a b => .int .i64 (ownA (W : Int) l i.1 a b)]⟩) (fun i => m - i.1) (fun _ => ⟨rfl, rfl⟩) ⟨0, by omega⟩ (by apply sub_of <;> simp only [go_sem, ↓reduceIte, Nat.reduceAdd, Nat.reduceSub, Nat.reduceMul, Nat.reduceEqDiff, Nat.reduceLT, Nat.reduceLeDiff, Int.reduceToNat, Int.reduceLE, Int.reduceLT, Int.reduceEq, Int.reduceNeg, reduceCtorEq] <;> (try simp [catF, ownC])) ?_
    rintro ⟨i, hi⟩
    simp only [alive_eq, rink_eq, same_eq, span_eq, p6_12, p6_26, play_at, pTup, Try.f24, Try.f6, go_sem, ↓reduceIte, Nat.reduceAdd, Nat.reduceSub, Nat.reduceMul, Nat.reduceEqDiff, Nat.reduceLT, Nat.reduceLeDiff, Int.reduceToNat, Int.reduceLE, Int.reduceLT, Int.reduceEq, Int.reduceNeg, reduceCtorEq]
    have hle := ownC_le (W : Int) l i
    have hw2 : IntKind.i64.wrap ((i : Int) + 1) = ((i + 1 : Nat) : Int) := by rw [wrap_id (by omega) (by omega)]; omega
    refine ⟨fun d1 => ?_, fun d1 => ?_⟩
    · simp only [decide_eq_true_eq] at d1
      repeat' (first | refine And.intro ?_ ?_ | intro _)
      all_goals try (first | (as_aux_lemma => (first | (show planOk _ _ = true; kernel_rfl) | (show keepOk _ _ = true; kernel_rfl))) | exact True.intro)
      all_goals try omega
      all_goals simp only [decide_eq_true_eq, decide_eq_false_iff_not, Bool.not_eq_true', Bool.not_eq_false'] at *
      all_goals try omega
      all_goals refine ⟨⟨i + 1, by omega⟩, by simp only []; omega, ?_⟩
      all_goals by_cases ht : takeB (W : Int) (l i) = true
      all_goals try (exfalso; rw [takeB_iff] at ht; omega)
      all_goals
        have hC : ownC (W : Int) l (i + 1) = if takeB (W : Int) (l i) = true then ownC (W : Int) l i + 1 else ownC (W : Int) l i := rfl
        have hA : ownA (W : Int) l (i + 1) = if takeB (W : Int) (l i) = true then fun a b => if a < ownC (W : Int) l i then ownA (W : Int) l i a b else e0 (l i) b else ownA (W : Int) l i := rfl
        first | rw [if_pos ht] at hC hA | rw [if_neg ht] at hC hA
        apply sub_of <;> simp only [hw2, hC, hA, go_sem, ↓reduceIte, Nat.reduceAdd, Nat.reduceSub, Nat.reduceMul, Nat.reduceEqDiff, Nat.reduceLT, Nat.reduceLeDiff, Int.reduceToNat, Int.reduceLE, Int.reduceLT, Int.reduceEq, Int.reduceNeg, reduceCtorEq] <;> (try simp)
      all_goals exact fun a b ha hb => own_snoc (k := ownC (W : Int) l i) (z := ownA (W : Int) l i) (e := l i) ha hb
    · simp only [decide_eq_false_iff_not] at d1
      obtain rfl : m = i := by omega
      have hw3 : IntKind.i64.wrap ((W : Int) + 1) = ((W + 1 : Nat) : Int) := by rw [wrap_id (by omega) (by omega)]; omega
      have hsub : W + 1 - W = 1 := by omega
      simp only [hw3, Int.toNat_natCast, hsub, p5, p6, decide_true, Bool.and_self]
      repeat' (first | refine And.intro ?_ ?_ | intro _)
      all_goals try (first | (as_aux_lemma => (first | (show planOk _ _ = true; kernel_rfl) | (show keepOk _ _ = true; kernel_rfl))) | exact True.intro)
      all_goals try contradiction
      all_goals omega
end Go.Eng
end

/- IceTrue: the plain words and the plain law. -/
section
namespace Go.Eng
structure TSt where
  ice : Nat → Int
  paint : Nat → Int
  f : Int
  p : Int
  w : Int
def updN (g : Nat → Int) (k : Nat) (v : Int) : Nat → Int := fun i => if i = k then v else g i
theorem updN_same (g : Nat → Int) (k : Nat) (v : Int) : updN g k v k = v := by simp [updN]
theorem updN_ne {g : Nat → Int} {k i : Nat} {v : Int} (h : i ≠ k) : updN g k v i = g i := by simp [updN, h]
def tz (e : Nat → Int) (v : Int) (k : Nat) (x : TSt) : TSt :=
  if e 0 = 4 then { x with paint := updN x.paint k (x.ice k) }
  else if e 0 = 3 then x
  else if e 0 = 0 then { x with ice := updN x.ice k (x.ice k + v), f := x.f + v }
  else if e 0 = 1 then { x with ice := updN x.ice k (x.ice k - min v (x.ice k)), p := x.p + min v (x.ice k) }
  else { x with ice := updN x.ice k (x.ice k - min v (x.ice k)), w := x.w + min v (x.ice k) }
def inr3 (lo hi b : Int) : Int := lo + b % (hi - lo + 1)
def tRun (e : Nat → Int) (b : Nat → Int) (nb i : Nat) : Nat → Nat → TSt → TSt
  | 0, _, x => x
  | c + 1, k, x => tRun e b nb i c (k + 1) (tz e (inr3 (e 3) (e 4) (b ((i + k) % nb))) k x)
theorem tRun_cons {e b : Nat → Int} {nb i c k : Nat} {x : TSt} (h : 0 < c) : tRun e b nb i c k x = tRun e b nb i (c - 1) (k + 1) (tz e (inr3 (e 3) (e 4) (b ((i + k) % nb))) k x) := by
  cases c with
  | zero => omega
  | succ c => rfl
/-- The event as it truly is. -/
def evT (e : Nat → Int) (x : TSt) : Nat → Int := fun j => if e 0 = 3 then (if j = 3 then max 0 (x.ice (e 1).toNat - e 3) else if j = 4 then min 20000 (x.ice (e 1).toNat + e 4 - e 3) else e j) else e j
def tAt (l : Nat → Nat → Int) (b : Nat → Int) (nb : Nat) (x0 : TSt) : Nat → TSt
  | 0 => x0
  | i + 1 => tRun (l i) b nb i (toOf (l i) - l i 1 + 1).toNat (l i 1).toNat (tAt l b nb x0 i)
def lT (l : Nat → Nat → Int) (b : Nat → Int) (nb : Nat) (x0 : TSt) : Nat → Nat → Int := fun i => evT (l i) (tAt l b nb x0 i)
def tRng (n : Nat) (s : Int) (x : TSt) : Prop := (∀ k, k < n → 0 ≤ x.ice k ∧ x.ice k ≤ 20000 * (s + 1)) ∧ (0 ≤ x.f ∧ x.f ≤ 20000 * s) ∧ (0 ≤ x.p ∧ x.p ≤ 20000 * s) ∧ (0 ≤ x.w ∧ x.w ≤ 20000 * s)
def tIn (n : Nat) (y : PSt) (x : TSt) : Prop := (∀ k, k < n → (y.z k 0 ≤ x.ice k ∧ x.ice k ≤ y.z k 1) ∧ y.z k 2 ≤ x.paint k ∧ x.paint k ≤ y.z k 3) ∧ (y.s 0 ≤ x.f ∧ x.f ≤ y.s 1) ∧ (y.s 2 ≤ x.p ∧ x.p ≤ y.s 3) ∧ (y.s 4 ≤ x.w ∧ x.w ≤ y.s 5)
def sumN (g : Nat → Int) : Nat → Int
  | 0 => 0
  | n + 1 => sumN g n + g n
theorem sumN_congr {g h : Nat → Int} : ∀ n, (∀ i, i < n → g i = h i) → sumN g n = sumN h n
  | 0, _ => rfl
  | n + 1, hh => by simp only [sumN]; rw [sumN_congr n (fun i hi => hh i (by omega)), hh n (by omega)]
theorem sumN_upd {g : Nat → Int} {k : Nat} {v : Int} : ∀ n, k < n → sumN (updN g k v) n = sumN g n + v - g k
  | 0, h => by omega
  | n + 1, h => by
    simp only [sumN]
    by_cases e : k = n
    · subst e
      rw [updN_same, sumN_congr (h := g) k (fun i hi => updN_ne (by omega))]; omega
    · rw [sumN_upd n (by omega), updN_ne (by omega)]; omega
def bal (n : Nat) (x : TSt) : Int := sumN x.ice n + x.p + x.w - x.f
theorem tz_bal {n k : Nat} {e : Nat → Int} {v : Int} {x : TSt} (hk : k < n) : bal n (tz e v k x) = bal n x := by
  unfold bal tz
  split
  · rfl
  split
  · rfl
  split
  · simp only [sumN_upd n hk]; omega
  split
  · simp only [sumN_upd n hk]; omega
  · simp only [sumN_upd n hk]; omega
theorem tz_rng {n k : Nat} {e : Nat → Int} {v s : Int} {x : TSt} (hv : e 0 ≠ 4 → 0 ≤ v ∧ v ≤ 20000) (hk : k < n) (hs : 0 ≤ s) (h : tRng n s x) : tRng n (s + 1) (tz e v k x) := by
  obtain ⟨h1, h2, h3, h4⟩ := h
  have wk : ∀ i, i < n → 0 ≤ x.ice i ∧ x.ice i ≤ 20000 * (s + 1 + 1) := fun i hi => by have := h1 i hi; omega
  unfold tz
  split
  · exact ⟨wk, by simp only []; omega, by simp only []; omega, by simp only []; omega⟩
  split
  · exact ⟨wk, by omega, by omega, by omega⟩
  have hv := hv (by assumption)
  have hx := h1 k hk
  split
  · refine ⟨fun i hi => ?_, by simp only []; omega, by simp only []; omega, by simp only []; omega⟩
    by_cases e : i = k
    · subst e; simp only [updN_same]; omega
    · simp only [updN_ne e]; exact wk i hi
  split
  all_goals
    refine ⟨fun i hi => ?_, by simp only []; omega, by simp only []; omega, by simp only []; omega⟩
    by_cases e : i = k
    · subst e; simp only [updN_same]; omega
    · simp only [updN_ne e]; exact wk i hi
theorem inr3_in {lo hi b : Int} (h : lo ≤ hi) : lo ≤ inr3 lo hi b ∧ inr3 lo hi b ≤ hi := by
  unfold inr3
  have h1 := Int.emod_nonneg b (show hi - lo + 1 ≠ 0 by omega)
  have h2 := Int.emod_lt_of_pos b (show 0 < hi - lo + 1 by omega)
  omega
theorem tz_in {n k : Nat} {e : Nat → Int} {v : Int} {x : TSt} {y : PSt} (he : EvB e) (hv : e 0 ≠ 4 → e 0 ≠ 3 → e 3 ≤ v ∧ v ≤ e 4) (hd : e 0 = 3 → e 3 ≤ x.ice k ∧ x.ice k ≤ e 4) (hk : k < n) (hx : tIn n y x) :
    (zErr e (y.z k) = 0 → tIn n (stepZ e k y) (tz e v k x)) ∧ (zErr e (y.z k) ≠ 0 → zErr e (y.z k) = 12) := by
  obtain ⟨h1, h2, h3, h4⟩ := hx
  obtain ⟨he1, he2⟩ := he
  obtain ⟨hk1, hk2⟩ := h1 k hk
  have hz : ∀ i, i ≠ k → (stepZ e k y).z i = y.z i := fun i hi => by rw [stepZ_z, if_neg hi]
  have hzk : (stepZ e k y).z k = dZ e (y.z k) := by rw [stepZ_z, if_pos rfl]
  have hs : ∀ j, (stepZ e k y).s j = y.s j + dS e (y.z k) j := fun j => rfl
  have c : e 0 = 0 ∨ e 0 = 1 ∨ e 0 = 2 ∨ e 0 = 3 ∨ e 0 = 4 := by omega
  rcases c with c | c | c | c | c
  · have hv := hv (by omega) (by omega)
    refine ⟨fun _ => ⟨fun i hi => ?_, ?_⟩, fun h => ?_⟩
    · by_cases e' : i = k
      · subst e'; rw [hzk]; simp [tz, c, updN_same, dZ, dA, dB]; omega
      · rw [hz i e']; simp only [tz, c]; simp [updN_ne e']; exact ⟨(h1 i hi).1, (h1 i hi).2⟩
    · simp only [hs, dS, tz, c]; simp; omega
    · simp only [zErr, dErr, c] at h ⊢; simp only [if_true] at h ⊢; split at h <;> simp_all
  · have hv := hv (by omega) (by omega)
    have hb := he2 (by omega)
    refine ⟨fun _ => ⟨fun i hi => ?_, ?_⟩, fun h => ?_⟩
    · by_cases e' : i = k
      · subst e'; rw [hzk]; simp [tz, c, updN_same, dZ, dA, dB]; omega
      · rw [hz i e']; simp only [tz, c]; simp [updN_ne e']; exact ⟨(h1 i hi).1, (h1 i hi).2⟩
    · simp only [hs, dS, tz, c]; simp; omega
    · simp [zErr, dErr, c] at h
  · have hv := hv (by omega) (by omega)
    have hb := he2 (by omega)
    refine ⟨fun _ => ⟨fun i hi => ?_, ?_⟩, fun h => ?_⟩
    · by_cases e' : i = k
      · subst e'; rw [hzk]; simp [tz, c, updN_same, dZ, dA, dB]; omega
      · rw [hz i e']; simp only [tz, c]; simp [updN_ne e']; exact ⟨(h1 i hi).1, (h1 i hi).2⟩
    · simp only [hs, dS, tz, c]; simp; omega
    · simp [zErr, dErr, c] at h
  · have hd := hd c
    refine ⟨fun _ => ⟨fun i hi => ?_, ?_⟩, fun h => ?_⟩
    · by_cases e' : i = k
      · subst e'; rw [hzk]; simp [tz, c, dZ, dA, dB]; omega
      · rw [hz i e']; simp only [tz, c]; simp; exact ⟨(h1 i hi).1, (h1 i hi).2⟩
    · simp only [hs, dS, tz, c]; simp; omega
    · exfalso; apply h; simp only [zErr, dErr, c]; simp; omega
  · refine ⟨fun _ => ⟨fun i hi => ?_, ?_⟩, fun h => ?_⟩
    · by_cases e' : i = k
      · subst e'; rw [hzk]; simp [tz, c, updN_same, dZ, dA, dB]; omega
      · rw [hz i e']; simp only [tz, c]; simp [updN_ne e']; exact ⟨(h1 i hi).1, (h1 i hi).2⟩
    · simp only [hs, dS, tz, c]; simp; omega
    · simp [zErr, dErr, c] at h
theorem tz_drill {e : Nat → Int} {v : Int} {k : Nat} {x : TSt} (h : e 0 = 3) : tz e v k x = x := by simp [tz, h]
/-- Zone by zone. -/
theorem tRun_in {n nb i : Nat} {e e' b : Nat → Int} (he : EvB e') (h0 : e' 0 = e 0) (h34 : e 0 ≠ 3 → e' 3 = e 3 ∧ e' 4 = e 4) : ∀ (c k : Nat) (x : TSt) (y : PSt), k + c ≤ n → (e 0 = 3 → ∀ j, k ≤ j → j < k + c → e' 3 ≤ x.ice j ∧ x.ice j ≤ e' 4) → tIn n y x →
    (∀ y', zRun e' c k y = .inr y' → tIn n y' (tRun e b nb i c k x)) ∧ (∀ q, zRun e' c k y = .inl q → q = 12)
  | 0, k, x, y, _, _, hx => ⟨fun y' h => by simp only [zRun] at h; cases h; exact hx, fun q h => by simp only [zRun] at h; cases h⟩
  | c + 1, k, x, y, hk, hd, hx => by
    have hvv : e' 0 ≠ 4 → e' 0 ≠ 3 → e' 3 ≤ inr3 (e 3) (e 4) (b ((i + k) % nb)) ∧ inr3 (e 3) (e 4) (b ((i + k) % nb)) ≤ e' 4 := fun h4 h3 => by
      obtain ⟨k3, k4⟩ := h34 (by omega)
      have := he.2 h4
      rw [k3, k4] at *
      exact inr3_in this.2.1
    have htz : tz e' (inr3 (e 3) (e 4) (b ((i + k) % nb))) k x = tz e (inr3 (e 3) (e 4) (b ((i + k) % nb))) k x := by unfold tz; rw [h0]
    have key := tz_in he hvv (fun h => hd (by omega) k (Nat.le_refl _) (by omega)) (show k < n by omega) hx
    simp only [zRun]
    by_cases hz : zErr e' (y.z k) = 0
    · simp only [if_pos hz, tRun]
      refine tRun_in he h0 h34 c (k + 1) _ _ (by omega) (fun h3 j h1 h2 => ?_) (by rw [← htz]; exact key.1 hz)
      rw [tz_drill h3]
      exact hd h3 j (by omega) (by omega)
    · simp only [if_neg hz]
      exact ⟨fun y' h => (by cases h), fun q h => (by cases h; exact key.2 hz)⟩
theorem tRun_rng {n nb i : Nat} {e b : Nat → Int} (he : EvB e) : ∀ (c k : Nat) (x : TSt) (s : Int), k + c ≤ n → 0 ≤ s → tRng n s x → tRng n (s + c) (tRun e b nb i c k x)
  | 0, k, x, s, _, _, h => by simpa [tRun] using h
  | c + 1, k, x, s, hk, hs, h => by
    simp only [tRun]
    have := tRun_rng (nb := nb) (i := i) (b := b) he c (k + 1) (tz e (inr3 (e 3) (e 4) (b ((i + k) % nb))) k x) (s + 1) (by omega) (by omega) (tz_rng (fun h4 => by
      have h5 := he.2 h4
      have := inr3_in (lo := e 3) (hi := e 4) (b := b ((i + k) % nb)) (by omega)
      omega) (by omega) hs h)
    rw [show s + ((c + 1 : Nat) : Int) = s + 1 + (c : Int) by omega]
    exact this
theorem tRun_bal {n nb i : Nat} {e b : Nat → Int} : ∀ (c k : Nat) (x : TSt), k + c ≤ n → bal n (tRun e b nb i c k x) = bal n x
  | 0, k, x, _ => rfl
  | c + 1, k, x, hk => by
    simp only [tRun]
    rw [tRun_bal c (k + 1) _ (by omega), tz_bal (by omega)]
section
variable {n nb m : Nat} {l : Nat → Nat → Int} {b : Nat → Int} {x0 : TSt}
theorem ev_len {e : Nat → Int} (hn : 1 ≤ n) (h : evOk n e = true) : (e 1).toNat + (toOf e - e 1 + 1).toNat ≤ n ∧ EvB e ∧ 0 ≤ e 1 ∧ e 1 ≤ (n : Int) - 1 := by
  obtain ⟨h1, h2⟩ := evOk_iff.1 h
  exact ⟨by omega, h2, by omega, by omega⟩
theorem tAt_rng (hn : 1 ≤ n) (hl : ∀ i, i < m → evOk n (l i) = true) (h0 : tRng n 0 x0) : ∀ i, i ≤ m → tRng n ((n * i : Nat) : Int) (tAt l b nb x0 i)
  | 0, _ => by simpa [tAt] using h0
  | i + 1, hi => by
    have ih := tAt_rng hn hl h0 i (by omega)
    obtain ⟨k1, k2, _⟩ := ev_len hn (hl i (by omega))
    have := tRun_rng (nb := nb) (i := i) (b := b) k2 _ _ _ _ k1 (by omega) ih
    simp only [tAt]
    obtain ⟨a1, a2, a3, a4⟩ := this
    have hle : ((n * i : Nat) : Int) + ((toOf (l i) - l i 1 + 1).toNat : Int) ≤ ((n * (i + 1) : Nat) : Int) := by rw [Nat.mul_succ]; omega
    exact ⟨fun k hk => by have := a1 k hk; omega, by omega, by omega, by omega⟩
theorem tAt_bal (hn : 1 ≤ n) (hl : ∀ i, i < m → evOk n (l i) = true) : ∀ i, i ≤ m → bal n (tAt l b nb x0 i) = bal n x0
  | 0, _ => rfl
  | i + 1, hi => by
    simp only [tAt]
    rw [tRun_bal _ _ _ (ev_len hn (hl i (by omega))).1, tAt_bal hn hl i (by omega)]
theorem tAt_in (hn : 1 ≤ n) (hl : ∀ i, i < m → evOk n (l i) = true) (h0 : tRng n 0 x0) : ∀ (c i : Nat) (y : PSt), i + c = m → AllOk n y → tIn n y (tAt l b nb x0 i) →
    (∀ y', evRun (n : Int) (lT l b nb x0) c i y = .inr y' → AllOk n y' ∧ tIn n y' (tAt l b nb x0 m)) ∧ (∀ j q, evRun (n : Int) (lT l b nb x0) c i y = .inl (j, q) → q = 12 ∧ j < m)
  | 0, i, y, hc, hy, hx => by
    obtain rfl : i = m := by omega
    exact ⟨fun y' h => by simp only [evRun] at h; cases h; exact ⟨hy, hx⟩, fun j q h => by simp only [evRun] at h; cases h⟩
  | c + 1, i, y, hc, hy, hx => by
    have hi := hl i (by omega)
    obtain ⟨k1, k2, k3, k4⟩ := ev_len hn hi
    have hr := tAt_rng (b := b) (nb := nb) hn hl h0 i (by omega)
    have e0 : (lT l b nb x0 i) 0 = l i 0 := by simp [lT, evT]
    have e1 : (lT l b nb x0 i) 1 = l i 1 := by simp [lT, evT]
    have e2 : (lT l b nb x0 i) 2 = l i 2 := by simp [lT, evT]
    have e34 : l i 0 ≠ 3 → (lT l b nb x0 i) 3 = l i 3 ∧ (lT l b nb x0 i) 4 = l i 4 := fun h => by simp [lT, evT, h]
    have e34' : l i 0 = 3 → (lT l b nb x0 i) 3 = max 0 ((tAt l b nb x0 i).ice (l i 1).toNat - l i 3) ∧ (lT l b nb x0 i) 4 = min 20000 ((tAt l b nb x0 i).ice (l i 1).toNat + l i 4 - l i 3) := fun h => by simp [lT, evT, h]
    have et : toOf (lT l b nb x0 i) = toOf (l i) := by simp only [toOf, e0, e1, e2]
    have hice := hx.1 (l i 1).toNat (by omega)
    have hok := okZ_iff.1 (hy (l i 1).toNat (by omega))
    have hB : EvB (lT l b nb x0 i) := by
      obtain ⟨b1, b2⟩ := k2
      refine ⟨by rw [e0]; exact b1, fun h => ?_⟩
      rw [e0] at h
      have := b2 h
      by_cases h3 : l i 0 = 3
      · obtain ⟨q3, q4⟩ := e34' h3
        rw [q3, q4]; omega
      · obtain ⟨q3, q4⟩ := e34 h3
        rw [q3, q4]; exact this
    have hok' : evOk n (lT l b nb x0 i) = true := evOk_iff.2 ⟨by rw [et, e1]; exact (evOk_iff.1 hi).1, hB⟩
    have hd : l i 0 = 3 → ∀ j, (l i 1).toNat ≤ j → j < (l i 1).toNat + (toOf (l i) - l i 1 + 1).toNat → (lT l b nb x0 i) 3 ≤ (tAt l b nb x0 i).ice j ∧ (tAt l b nb x0 i).ice j ≤ (lT l b nb x0 i) 4 := fun h3 j h1 h2 => by
      have : toOf (l i) = l i 1 := by simp [toOf, h3]
      obtain rfl : j = (l i 1).toNat := by omega
      obtain ⟨q3, q4⟩ := e34' h3
      have := k2.2 (by omega)
      rw [q3, q4]; omega
    obtain ⟨r1, r2⟩ := tRun_in (b := b) (nb := nb) (i := i) hB e0 e34 (toOf (l i) - l i 1 + 1).toNat (l i 1).toNat (tAt l b nb x0 i) y k1 hd hx
    simp only [evRun, if_pos hok', et, e1]
    cases hz : zRun (lT l b nb x0 i) (toOf (l i) - l i 1 + 1).toNat (l i 1).toNat y with
    | inl q =>
      simp only []
      exact ⟨fun y' h => (by cases h), fun j q' h => by cases h; exact ⟨r2 _ hz, by omega⟩⟩
    | inr y' =>
      simp only []
      have hy' : AllOk n y' := by
        rcases evRun_any (n := (n : Int)) (l := lT l b nb x0) (c := 1) (i := i) y with ⟨q, q1, q2⟩ | ⟨w, q1, q2⟩
        · simp only [evRun, if_pos hok', et, e1, hz] at q2; cases q2
        · simp only [evRun, if_pos hok', et, e1, hz] at q2
          cases q2
          exact (evRun_inv 1 i ⟨y.z, fun _ => 0⟩ w 0 hy (fun j => ⟨Int.le_refl _, Int.le_refl _⟩) q1).1
      exact tAt_in hn hl h0 c (i + 1) y' (by omega) hy' (by simp only [tAt]; exact r1 _ hz)
end
end Go.Eng
end

/- IceTrue: small functions. -/
section
namespace Go.Eng
open Go Go.RowKit Go.Proofs
set_option maxRecDepth 100000
set_option maxHeartbeats 4000000
attribute [local irreducible] OwnT DefS
theorem wf_u32 {w : Int} (h : (Lit.int .u32 w).wf = true) : 0 ≤ w ∧ w ≤ 4294967295 := by
  have : (decide (IntKind.min .u32 ≤ w) && decide (w ≤ IntKind.max .u32)) = true := h
  have h1 : IntKind.min .u32 = 0 := by decide
  have h2 : IntKind.max .u32 = 4294967295 := by decide
  rw [h1, h2] at this
  simpa using this
def innerBase : BaseF := fun args => match args with
  | [.agg [.int .i64 lo, .int .i64 hi], .int .u32 b] => some (((Lit.int .u32 b).wf = true) ∧ (0 ≤ lo ∧ lo ≤ hi ∧ hi ≤ 20000), .int .i64 (inr3 lo hi b))
  | _ => none
theorem inner_eq (lo : Int) (hi : Int) (b : Int) : innerBase [.agg [.int .i64 lo, .int .i64 hi], .int .u32 b] = some (((Lit.int .u32 b).wf = true) ∧ (0 ≤ lo ∧ lo ≤ hi ∧ hi ≤ 20000), .int .i64 (inr3 lo hi b)) := rfl
theorem inner_base : Base Try.prog 17 innerBase := by
  intro args p v hq hp
  unfold innerBase at hq
  split at hq
  rotate_left
  · cases hq
  rename_i lo hi b
  cases hq
  obtain ⟨wf_b, pre⟩ := hp
  refine base_of (C := cx [] [] [] [(17, 1, p17_1)] none) (cx_ok trivial trivial) rfl (g := 17) (fn := Try.f17)
    (args' := [.agg [.int .i64 lo, .int .i64 hi], .int .u32 b]) (fn_17) rfl 1000 (by simp only [BdL, Bd, and_self]) ⟨SameD.rfl' _, SameD.rfl' _, trivial⟩ ?_
  simp only [p17_1, Try.f17, go_sem, ↓reduceIte, Nat.reduceAdd, Nat.reduceSub, Nat.reduceMul, Nat.reduceEqDiff, Nat.reduceLT, Nat.reduceLeDiff, Int.reduceToNat, Int.reduceLE, Int.reduceLT, Int.reduceEq, Int.reduceNeg, reduceCtorEq]
  have hb := wf_u32 wf_b
  have e1 : IntKind.i64.wrap (hi - lo) = hi - lo := wrap_id (by omega) (by omega)
  have e2 : IntKind.i64.wrap (hi - lo + 1) = hi - lo + 1 := wrap_id (by omega) (by omega)
  have e3 : IntKind.i64.wrap b = b := wrap_id (by omega) (by omega)
  rw [e1, e2, e3, Int.tmod_eq_emod_of_nonneg hb.1]
  have h1 := Int.emod_nonneg b (show hi - lo + 1 ≠ 0 by omega)
  have h2 := Int.emod_lt_of_pos b (show 0 < hi - lo + 1 by omega)
  rw [wrap_id (by omega) (by omega)]
  exact ⟨⟨by kernel_rfl, by kernel_rfl⟩, by omega, rfl⟩
end Go.Eng
end

/- IceTrue: its call returns true. -/
section
namespace Go.Eng
open Go Go.RowKit Go.Proofs
set_option maxRecDepth 100000
set_option maxHeartbeats 4000000
attribute [local irreducible] OwnT DefS
set_option maxHeartbeats 100000000
theorem row_one {k : Nat} {g : Nat → Int} {v : Int} {a c : Nat} (ha : a < k + 1) (hc : c < 1) (hv : v = g k) : catF k (fun i _ => SV.int .i64 (g i)) (oneF [.int .i64 v]) a c = .int .i64 (g a) := by
  unfold catF oneF
  split
  · rfl
  · have : a = k := by omega
    subst this
    have : c = 0 := by omega
    subst this
    rw [hv]; rfl
theorem row_ev {k : Nat} {g : Nat → Nat → Int} {v0 v1 v2 v3 v4 : Int} {a c : Nat} (ha : a < k + 1) (hc : c < 5) (h0 : v0 = g k 0) (h1 : v1 = g k 1) (h2 : v2 = g k 2) (h3 : v3 = g k 3) (h4 : v4 = g k 4) : catF k (fun i j => SV.int .i64 (g i j)) (oneF [.int .i64 v0, .int .i64 v1, .int .i64 v2, .int .i64 v3, .int .i64 v4]) a c = .int .i64 (g a c) := by
  unfold catF oneF
  split
  · rfl
  · have : a = k := by omega
    subst this
    have hc4 : c = 0 ∨ c = 1 ∨ c = 2 ∨ c = 3 ∨ c = 4 := by omega
    rcases hc4 with rfl | rfl | rfl | rfl | rfl
    · rw [h0]; rfl
    · rw [h1]; rfl
    · rw [h2]; rfl
    · rw [h3]; rfl
    · rw [h4]; rfl
theorem row_upd {N : Nat} {g : Nat → Int} {k : Nat} {v : Int} {a c : Nat} : (if a = k ∧ c = 0 then SV.int .i64 v else .int .i64 (g a)) = (if c = 0 then SV.int .i64 (updN g k v a) else .int .i64 (g a)) := by
  by_cases h : a = k <;> by_cases h' : c = 0 <;> simp [h, h', updN]
theorem catF_self (n : Nat) (f g : Nat → Nat → SV) (j : Nat) : catF n f g n j = g 0 j := by simp [catF]
theorem oneF_at (l : List SV) (i j : Nat) : oneF l i j = nth l j := rfl
def ice0 (z b : Nat → Nat → Int) (nb : Nat) : Nat → Int := fun a => inr3 (z a 0) (z a 1) (b (a % nb) 0)
def paint0 (z b : Nat → Nat → Int) (nb : Nat) : Nat → Int := fun a => inr3 (z a 2) (z a 3) (b ((a + 1) % nb) 0)
def x00 (z b : Nat → Nat → Int) (nb : Nat) : TSt := ⟨ice0 z b nb, paint0 z b nb, 0, 0, 0⟩
theorem sumN_bd {g : Nat → Int} {B : Int} (hB : 0 ≤ B) : ∀ n, (∀ i, i < n → 0 ≤ g i ∧ g i ≤ B) → 0 ≤ sumN g n ∧ sumN g n ≤ B * n
  | 0, _ => by simp [sumN]
  | n + 1, h => by
    have := sumN_bd hB n (fun i hi => h i (by omega))
    have := h n (by omega)
    simp only [sumN]
    have e : B * ((n + 1 : Nat) : Int) = B * n + B := by rw [Int.natCast_succ, Int.mul_add, Int.mul_one]
    omega
theorem evRun_all {n : Int} {l : Nat → Nat → Int} : ∀ (c i : Nat) (x : PSt), (∀ y, evRun n l c i x = .inr y → ∀ a, i ≤ a → a < i + c → evOk n (l a) = true) ∧ (∀ j q, evRun n l c i x = .inl (j, q) → j < i + c ∧ q ≠ 0)
  | 0, i, x => ⟨fun y _ a h1 h2 => by omega, fun j q h => by simp only [evRun] at h; cases h⟩
  | c + 1, i, x => by
    refine ⟨fun y h a h1 h2 => ?_, fun j q h => ⟨?_, evRun_err h⟩⟩
    · simp only [evRun] at h
      split at h
      · rename_i h0
        split at h
        · cases h
        · rcases Nat.lt_or_ge i a with h3 | h3
          · exact (evRun_all c (i + 1) _).1 y h a (by omega) (by omega)
          · obtain rfl : a = i := by omega
            exact h0
      · cases h
    · simp only [evRun] at h
      split at h
      · split at h
        · cases h; omega
        · have := ((evRun_all c (i + 1) _).2 j q h).1; omega
      · cases h; omega
theorem play_bad {n m j : Nat} {z l : Nat → Nat → Int} (hr : rinkB n z = true) (hm : m ≤ 256) (hj : j < m) (h : evOk n (l j) = false) : (playT n m z l).e ≠ 0 ∧ (playT n m z l).i < m := by
  have hP : playT n m z l = pRes n m (evRun (n : Int) l m 0 ⟨z, fun _ => 0⟩) := by unfold playT playO; rw [if_pos hr, if_pos hm]
  rw [hP]
  cases hx : evRun (n : Int) l m 0 ⟨z, fun _ => 0⟩ with
  | inl q =>
    obtain ⟨i, e⟩ := q
    have := (evRun_all m 0 _).2 i e hx
    exact ⟨this.2, by have := this.1; simp only [pRes, pErr]; omega⟩
  | inr y =>
    have := (evRun_all m 0 _).1 y hx j (by omega) (by omega)
    rw [h] at this; cases this
theorem true_law {n m nb : Nat} {z l : Nat → Nat → Int} {b : Nat → Int} {x0 : TSt} (hr : rinkB n z = true) (hm : m ≤ 256) (hl : ∀ i, i < m → evOk n (l i) = true) (h0 : tRng n 0 x0) (h1 : tIn n ⟨z, fun _ => 0⟩ x0) :
    ((playT n m z (lT l b nb x0)).e ≠ 0 → (playT n m z (lT l b nb x0)).e = 12 ∧ (playT n m z (lT l b nb x0)).i < m ∧ (playT n m z (lT l b nb x0)).n = 0) ∧
    ((playT n m z (lT l b nb x0)).e = 0 → (playT n m z (lT l b nb x0)).n = n ∧ (playT n m z (lT l b nb x0)).i = m ∧ ∃ y, (playT n m z (lT l b nb x0)).z = y.z ∧ (playT n m z (lT l b nb x0)).s = y.s ∧ AllOk n y ∧ tIn n y (tAt l b nb x0 m)) := by
  have hb := rinkB_iff.1 hr
  have hP : playT n m z (lT l b nb x0) = pRes n m (evRun (n : Int) (lT l b nb x0) m 0 ⟨z, fun _ => 0⟩) := by unfold playT playO; rw [if_pos hr, if_pos hm]
  rw [hP]
  obtain ⟨k1, k2⟩ := tAt_in (b := b) (nb := nb) hb.1.1 hl h0 m 0 ⟨z, fun _ => 0⟩ (by omega) hb.2 h1
  cases hx : evRun (n : Int) (lT l b nb x0) m 0 ⟨z, fun _ => 0⟩ with
  | inl q =>
    obtain ⟨i, e⟩ := q
    obtain ⟨h2, h3⟩ := k2 i e hx
    exact ⟨fun _ => ⟨h2, by simp only [pRes, pErr]; omega, rfl⟩, fun h => by simp only [pRes, pErr] at h; omega⟩
  | inr y =>
    obtain ⟨h2, h3⟩ := k1 y hx
    exact ⟨fun h => absurd rfl h, fun _ => ⟨rfl, rfl, y, rfl, rfl, h2, h3⟩⟩
def iceTrueBase : BaseF := fun args => match args with
  | [.row n sz_z f_z, .row m sz_l f_l, .row nb sz_b f_b] => some ((sz_z = 4 ∧ IntR n 4 f_z) ∧ (sz_l = 5 ∧ IntR m 5 f_l) ∧ (sz_b = 1 ∧ IntK .u32 nb 1 f_b) ∧ (∀ i, i < nb → (Lit.int .u32 ((fun i j => iv (f_b i j)) i 0)).wf = true), .bool true)
  | _ => none
theorem iceTrue_eq (n : Nat) (z : Nat → Nat → Int) (m : Nat) (l : Nat → Nat → Int) (nb : Nat) (b : Nat → Nat → Int) : iceTrueBase [.row n 4 (fun i j => .int .i64 (z i j)), .row m 5 (fun i j => .int .i64 (l i j)), .row nb 1 (fun i j => .int .u32 (b i j))] = some ((4 = 4 ∧ IntR n 4 (fun i j => .int .i64 (z i j))) ∧ (5 = 5 ∧ IntR m 5 (fun i j => .int .i64 (l i j))) ∧ (1 = 1 ∧ IntK .u32 nb 1 (fun i j => .int .u32 (b i j))) ∧ (∀ i, i < nb → (Lit.int .u32 (b i 0)).wf = true), .bool true) := rfl
theorem iceTrue_base : Base Try.prog 4 iceTrueBase := by
  intro args p v hq hp
  unfold iceTrueBase at hq
  split at hq
  rotate_left
  · cases hq
  rename_i n sz_z f_z m sz_l f_l nb sz_b f_b
  cases hq
  obtain ⟨⟨rfl, i_z⟩, ⟨rfl, i_l⟩, ⟨rfl, i_b⟩, pre⟩ := hp
  refine base_of (C := cx [] [(19, 37, playBase)] [(13, aliveBase), (16, rinkBase), (17, innerBase), (18, eventBase), (21, hasBase), (23, spanBase)] [(4, 8, p4_8), (4, 29, p4_29), (20, 8, p20_8), (20, 15, p20_15), (20, 17, p20_17)] none) (cx_ok ⟨play_base, trivial⟩ ⟨alive_base, rink_base, inner_base, event_base, has_base, span_base, trivial⟩) rfl (g := 4) (fn := Try.f4)
    (args' := [.row n 4 (rowF .i64 (fun i j => iv (f_z i j))), .row m 5 (rowF .i64 (fun i j => iv (f_l i j))), .row nb 1 (rowF .u32 (fun i j => iv (f_b i j)))]) (fn_4) rfl 1000 (by simp only [BdL, Bd, and_self, and_true, true_and]; exact ⟨fun i j hi hj => by rw [i_z i j hi hj]; trivial, fun i j hi hj => by rw [i_l i j hi hj]; trivial, fun i j hi hj => by rw [i_b i j hi hj]; trivial⟩) ⟨SameD.int i_z, SameD.int i_l, SameD.intK i_b, trivial⟩ ?_
  generalize (fun i j => iv (f_z i j)) = z at *
  generalize (fun i j => iv (f_l i j)) = l at *
  generalize (fun i j => iv (f_b i j)) = b at *
  simp only [rowF_eq]
  simp only [alive_eq, rink_eq, inner_eq, event_eq, has_eq, span_eq, p4_8, p4_29, p20_8, p20_15, p20_17, play_at, pTup, Try.f20, catF_self, oneF_at, Try.f4, go_sem, ↓reduceIte, Nat.reduceAdd, Nat.reduceSub, Nat.reduceMul, Nat.reduceEqDiff, Nat.reduceLT, Nat.reduceLeDiff, Int.reduceToNat, Int.reduceLE, Int.reduceLT, Int.reduceEq, Int.reduceNeg, reduceCtorEq]
  refine ⟨fun _ => trivial, fun c1 => ⟨fun _ => trivial, fun c2 => ⟨fun _ => trivial, fun c3 => ?_⟩⟩⟩
  simp only [decide_eq_false_iff_not, Bool.not_eq_false'] at c1 c2 c3
  have hb := rinkB_iff.1 c3
  have hnb : 0 < nb := by omega
  have hi0 : ∀ a, a < n → z a 0 ≤ ice0 z b nb a ∧ ice0 z b nb a ≤ z a 1 := fun a ha => inr3_in (by have := okZ_iff.1 (hb.2 a ha); omega)
  have hp0 : ∀ a, a < n → z a 2 ≤ paint0 z b nb a ∧ paint0 z b nb a ≤ z a 3 := fun a ha => inr3_in (by have := okZ_iff.1 (hb.2 a ha); omega)
  have hr0 : ∀ a, a < n → 0 ≤ ice0 z b nb a ∧ ice0 z b nb a ≤ 20000 := fun a ha => by have := okZ_iff.1 (hb.2 a ha); have := hi0 a ha; omega
  refine loop_of { i : Nat // i ≤ n } (fun i => [(43, .int .i64 (i.1 : Int)), (42, .int .i64 (n : Int)), (41, .row n 4 fun i j => .int .i64 (z i j)), (8, .int .i64 (sumN (ice0 z b nb) i.1)), (7, .ptr 0 0), (2, .row nb 1 fun i j => .int .u32 (b i j)), (1, .row m 5 fun i j => .int .i64 (l i j)), (0, .row n 4 fun i j => .int .i64 (z i j))])
    (fun i => ⟨[.live 35 [.vec 0 i.1, .vec 1 i.1, .int .i64 0, .int .i64 0, .int .i64 0]], [.live i.1 3 1 i.1 fun a _ => .int .i64 (ice0 z b nb a), .live i.1 3 1 i.1 fun a _ => .int .i64 (paint0 z b nb a)]⟩) (fun i => n - i.1) (fun _ => ⟨rfl, rfl⟩) ⟨0, by omega⟩ (by (apply sub_of <;> simp only [go_sem, ↓reduceIte, Nat.reduceAdd, Nat.reduceSub, Nat.reduceMul, Nat.reduceEqDiff, Nat.reduceLT, Nat.reduceLeDiff, Int.reduceToNat, Int.reduceLE, Int.reduceLT, Int.reduceEq, Int.reduceNeg, reduceCtorEq] <;> (try simp [catF])); rfl) ?_
  rintro ⟨i, hi⟩
  simp only [alive_eq, rink_eq, inner_eq, event_eq, has_eq, span_eq, p4_8, p4_29, p20_8, p20_15, p20_17, play_at, pTup, Try.f20, catF_self, oneF_at, Try.f4, go_sem, ↓reduceIte, Nat.reduceAdd, Nat.reduceSub, Nat.reduceMul, Nat.reduceEqDiff, Nat.reduceLT, Nat.reduceLeDiff, Int.reduceToNat, Int.reduceLE, Int.reduceLT, Int.reduceEq, Int.reduceNeg, reduceCtorEq]
  have hw1 : IntKind.i64.wrap ((i : Int) + 1) = ((i + 1 : Nat) : Int) := by rw [wrap_id (by omega) (by omega)]; omega
  have hm0 : (i : Int).tmod (nb : Int) = ((i % nb : Nat) : Int) := tmod_nat (by omega) hnb
  have hm1 : ((i + 1 : Nat) : Int).tmod (nb : Int) = (((i + 1) % nb : Nat) : Int) := tmod_nat (by omega) hnb
  have hl0 := Nat.mod_lt i hnb
  have hl1 := Nat.mod_lt (i + 1) hnb
  simp only [hw1, hm0, hm1, Int.toNat_natCast]
  refine ⟨fun d1 => ?_, fun d1 => ?_⟩
  · simp only [decide_eq_true_eq] at d1
    have hok := okZ_iff.1 (hb.2 i (by omega))
    have hs := sumN_bd (B := 20000) (by omega) i (fun a ha => hr0 a (by omega))
    have hri := hr0 i (by omega)
    have hw8 : IntKind.i64.wrap (sumN (ice0 z b nb) i + inr3 (z i 0) (z i 1) (b (i % nb) 0)) = sumN (ice0 z b nb) (i + 1) := by
      rw [show sumN (ice0 z b nb) (i + 1) = sumN (ice0 z b nb) i + inr3 (z i 0) (z i 1) (b (i % nb) 0) from rfl, show inr3 (z i 0) (z i 1) (b (i % nb) 0) = ice0 z b nb i from rfl]
      exact wrap_id (by omega) (by omega)
    simp only [hw8]
    refine ⟨⟨by omega, by omega⟩, ⟨by kernel_rfl, by kernel_rfl⟩, by omega, ⟨by omega, by omega⟩, ⟨pre _ hl0, by omega, by omega, by omega⟩, by omega, ⟨by omega, by omega⟩, ⟨by omega, by omega⟩, ⟨by omega, by omega⟩, ⟨by omega, by omega⟩, ⟨pre _ hl1, by omega, by omega, by omega⟩, ⟨by omega, by omega⟩, ⟨by omega, by omega⟩, by omega, ⟨i + 1, by omega⟩, by simp only []; omega, ?_⟩
    apply sub_of <;> simp only [go_sem, ↓reduceIte, Nat.reduceAdd, Nat.reduceSub, Nat.reduceMul, Nat.reduceEqDiff, Nat.reduceLT, Nat.reduceLeDiff, Int.reduceToNat, Int.reduceLE, Int.reduceLT, Int.reduceEq, Int.reduceNeg, reduceCtorEq] <;> (try simp)
    exact ⟨fun a ha => row_one ha Nat.zero_lt_one rfl, fun a ha => row_one ha Nat.zero_lt_one rfl⟩
  · simp only [decide_eq_false_iff_not] at d1
    obtain rfl : i = n := by omega
    clear hw1 hm0 hm1 hl0 hl1 hi d1
    refine loop_of { j : Nat // j ≤ m ∧ ∀ a, a < j → evOk i (l a) = true } (fun j => [(89, .int .i64 (j.1 : Int)), (88, .int .i64 (m : Int)), (87, .row m 5 fun i j => .int .i64 (l i j)), (8, .int .i64 (sumN (ice0 z b nb) i)), (7, .ptr 0 0), (2, .row nb 1 fun i j => .int .u32 (b i j)), (1, .row m 5 fun i j => .int .i64 (l i j)), (0, .row i 4 fun i j => .int .i64 (z i j))])
      (fun _ => ⟨[.live 35 [.vec 0 i, .vec 1 i, .int .i64 0, .int .i64 0, .int .i64 0]], [.live i 3 1 i fun a _ => .int .i64 (ice0 z b nb a), .live i 3 1 i fun a _ => .int .i64 (paint0 z b nb a)]⟩) (fun j => m - j.1) (fun _ => ⟨rfl, rfl⟩) ⟨0, by omega, by omega⟩ (by (apply sub_of <;> simp only [go_sem, ↓reduceIte, Nat.reduceAdd, Nat.reduceSub, Nat.reduceMul, Nat.reduceEqDiff, Nat.reduceLT, Nat.reduceLeDiff, Int.reduceToNat, Int.reduceLE, Int.reduceLT, Int.reduceEq, Int.reduceNeg, reduceCtorEq] <;> (try simp [catF]))) ?_
    rintro ⟨j, hj, hev⟩
    simp only [alive_eq, rink_eq, inner_eq, event_eq, has_eq, span_eq, p4_8, p4_29, p20_8, p20_15, p20_17, play_at, pTup, Try.f20, catF_self, oneF_at, Try.f4, go_sem, ↓reduceIte, Nat.reduceAdd, Nat.reduceSub, Nat.reduceMul, Nat.reduceEqDiff, Nat.reduceLT, Nat.reduceLeDiff, Int.reduceToNat, Int.reduceLE, Int.reduceLT, Int.reduceEq, Int.reduceNeg, reduceCtorEq]
    have hw1 : IntKind.i64.wrap ((j : Int) + 1) = ((j + 1 : Nat) : Int) := by rw [wrap_id (by omega) (by omega)]; omega
    have hef : evOk i (f5 (l j 0) (l j 1) (l j 2) (l j 3) (l j 4)) = evOk i (l j) := rfl
    simp only [hw1, hef]
    refine ⟨fun d1 => ?_, fun d1 => ?_⟩
    · simp only [decide_eq_true_eq] at d1
      refine ⟨⟨by omega, by omega⟩, ⟨by omega, by omega⟩, fun d2 => ?_, fun d2 => ?_⟩
      · simp only [Bool.not_eq_true'] at d2
        obtain ⟨p1, p2⟩ := play_bad c3 (by omega) (show j < m by omega) d2
        refine ⟨fun _ => ⟨fun _ => trivial, fun h => ?_⟩, fun h => ?_⟩
        · simp only [Bool.not_eq_false', decide_eq_true_eq] at h; exact absurd h p1
        · simp only [decide_eq_false_iff_not] at h; omega
      · simp only [Bool.not_eq_false'] at d2
        refine ⟨⟨j + 1, by omega, fun a ha => ?_⟩, by simp only []; omega, ?_⟩
        · rcases Nat.lt_or_ge a j with h | h
          · exact hev a h
          · obtain rfl : a = j := by omega
            exact d2
        · apply sub_of <;> simp only [go_sem, ↓reduceIte, Nat.reduceAdd, Nat.reduceSub, Nat.reduceMul, Nat.reduceEqDiff, Nat.reduceLT, Nat.reduceLeDiff, Int.reduceToNat, Int.reduceLE, Int.reduceLT, Int.reduceEq, Int.reduceNeg, reduceCtorEq] <;> (try simp)
    · simp only [decide_eq_false_iff_not] at d1
      obtain rfl : j = m := by omega
      clear hw1 hef hj d1
      have hr00 : tRng i 0 (x00 z b nb) := ⟨fun a ha => by simpa [x00] using hr0 a ha, by simp [x00], by simp [x00], by simp [x00]⟩
      have hin0 : tIn i ⟨z, fun _ => 0⟩ (x00 z b nb) := ⟨fun a ha => ⟨hi0 a ha, hp0 a ha⟩, by simp [x00], by simp [x00], by simp [x00]⟩
      have hrg := tAt_rng (b := fun a => b a 0) (nb := nb) hb.1.1 hev hr00
      have hbal := tAt_bal (b := fun a => b a 0) (nb := nb) (x0 := x00 z b nb) hb.1.1 hev j (Nat.le_refl _)
      have hlaw := true_law (b := fun a => b a 0) (nb := nb) c3 (show j ≤ 256 by omega) hev hr00 hin0
      have hX0 : tAt l (fun a => b a 0) nb (x00 z b nb) 0 = x00 z b nb := rfl
      have hXs : ∀ a, tAt l (fun a => b a 0) nb (x00 z b nb) (a + 1) = tRun (l a) (fun a => b a 0) nb a (toOf (l a) - l a 1 + 1).toNat (l a 1).toNat (tAt l (fun a => b a 0) nb (x00 z b nb) a) := fun _ => rfl
      have hR : ∀ a, lT l (fun a => b a 0) nb (x00 z b nb) a = evT (l a) (tAt l (fun a => b a 0) nb (x00 z b nb) a) := fun _ => rfl
      have hbal0 : bal i (x00 z b nb) = sumN (ice0 z b nb) i := by simp [bal, x00]
      generalize hX : tAt l (fun a => b a 0) nb (x00 z b nb) = X at *
      generalize hRR : lT l (fun a => b a 0) nb (x00 z b nb) = R at *
      refine loop_of { q : Nat // q ≤ j } (fun q => [(19, .int .i64 (q.1 : Int)), (18, .int .i64 (j : Int)), (17, .row j 5 fun i j => .int .i64 (l i j)), (8, .vec 3 q.1), (2, .row nb 1 fun i j => .int .u32 (b i j)), (1, .row j 5 fun i j => .int .i64 (l i j)), (0, .ptr 0 0)])
        (fun q => ⟨[.live 35 [.vec 0 i, .vec 1 i, .int .i64 (X q.1).f, .int .i64 (X q.1).p, .int .i64 (X q.1).w]], [.live i 3 1 i fun a _ => .int .i64 ((X q.1).ice a), .live i 3 1 i fun a _ => .int .i64 ((X q.1).paint a), .dead, .live q.1 41 5 q.1 fun a c => .int .i64 (R a c)]⟩) (fun q => j - q.1) (fun _ => ⟨rfl, rfl⟩) ⟨0, by omega⟩ (by (apply sub_of <;> simp only [go_sem, ↓reduceIte, Nat.reduceAdd, Nat.reduceSub, Nat.reduceMul, Nat.reduceEqDiff, Nat.reduceLT, Nat.reduceLeDiff, Int.reduceToNat, Int.reduceLE, Int.reduceLT, Int.reduceEq, Int.reduceNeg, reduceCtorEq] <;> (try simp [catF])) <;> simp [hX0, x00]) ?_
      rintro ⟨q, hq⟩
      simp only [alive_eq, rink_eq, inner_eq, event_eq, has_eq, span_eq, p4_8, p4_29, p20_8, p20_15, p20_17, play_at, pTup, Try.f20, catF_self, oneF_at, Try.f4, go_sem, ↓reduceIte, Nat.reduceAdd, Nat.reduceSub, Nat.reduceMul, Nat.reduceEqDiff, Nat.reduceLT, Nat.reduceLeDiff, Int.reduceToNat, Int.reduceLE, Int.reduceLT, Int.reduceEq, Int.reduceNeg, reduceCtorEq]
      have hw1 : IntKind.i64.wrap ((q : Int) + 1) = ((q + 1 : Nat) : Int) := by rw [wrap_id (by omega) (by omega)]; omega
      refine ⟨fun d1 => ?_, fun d1 => ?_⟩
      · simp only [decide_eq_true_eq] at d1
        obtain ⟨e1, e2, e3, e4⟩ := ev_len hb.1.1 (hev q (by omega))
        have hxq := hrg q (by omega)
        have hRq := hR q
        have hXq := hXs q
        generalize hE : l q = E at *
        obtain ⟨x1, x2, x3, x4⟩ := id hxq
        have hiq : i * q ≤ 24 * 60 := Nat.mul_le_mul hb.1.2 (by omega)
        have r0 : E 0 = R q 0 := by rw [hRq]; simp [evT]
        have r1 : E 1 = R q 1 := by rw [hRq]; simp [evT]
        have r2 : E 2 = R q 2 := by rw [hRq]; simp [evT]
        refine ⟨⟨by omega, by omega⟩, fun d2 => ?_, fun d2 => ?_⟩
        · simp only [decide_eq_true_eq] at d2
          have hx1 := x1 (E 1).toNat (by omega)
          have hev2 := e2.2 (by omega)
          have hwa : IntKind.i64.wrap ((X q).ice (E 1).toNat - E 3) = (X q).ice (E 1).toNat - E 3 := wrap_id (by omega) (by omega)
          have hwb : IntKind.i64.wrap ((X q).ice (E 1).toNat + E 4) = (X q).ice (E 1).toNat + E 4 := wrap_id (by omega) (by omega)
          have hwc : IntKind.i64.wrap ((X q).ice (E 1).toNat + E 4 - E 3) = (X q).ice (E 1).toNat + E 4 - E 3 := wrap_id (by omega) (by omega)
          have r3 : max 0 ((X q).ice (E 1).toNat - E 3) = R q 3 := by rw [hRq]; simp [evT, d2]
          have r4 : min 20000 ((X q).ice (E 1).toNat + E 4 - E 3) = R q 4 := by rw [hRq]; simp [evT, d2]
          have hto : toOf E = E 1 := by simp [toOf, d2]
          have hXe : X (q + 1) = X q := by
            rw [hXq, hto, show (E 1 - E 1 + 1).toNat = 1 by omega]
            simp only [tRun, tz_drill d2]
          simp only [hwa, hwb, hwc, r3, r4]
          refine ⟨⟨by kernel_rfl, by kernel_rfl⟩, ⟨by omega, by omega⟩, by omega, ⟨by omega, by omega⟩, ?_⟩
          refine loop_of { k : Nat // (E 1).toNat ≤ k ∧ k ≤ (E 1).toNat + 1 } (fun k => [(13, .int .i64 (k.1 : Int)), (11, .int .i64 (E 1)), (10, .ptr 1 0), (9, .int .i64 (q : Int)), (19, .int .i64 (q : Int)), (18, .int .i64 (j : Int)), (17, .row j 5 fun i j => .int .i64 (l i j)), (8, .vec 3 (q + 1)), (2, .row nb 1 fun i j => .int .u32 (b i j)), (1, .row j 5 fun i j => .int .i64 (l i j)), (0, .ptr 0 0)])
            (fun _ => ⟨[.live 35 [.vec 0 i, .vec 1 i, .int .i64 (X q).f, .int .i64 (X q).p, .int .i64 (X q).w], .live 41 [.int .i64 (E 0), .int .i64 (E 1), .int .i64 (E 2), .int .i64 (R q 3), .int .i64 (R q 4)]], [.live i 3 1 i fun a _ => .int .i64 ((X q).ice a), .live i 3 1 i fun a _ => .int .i64 ((X q).paint a), .dead, .live (q + 1) 41 5 (q + 1) fun a c => .int .i64 (R a c)]⟩) (fun k => (E 1).toNat + 1 - k.1) (fun _ => ⟨rfl, rfl⟩) ⟨(E 1).toNat, by omega, by omega⟩ (by apply sub_of <;> simp only [go_sem, ↓reduceIte, Nat.reduceAdd, Nat.reduceSub, Nat.reduceMul, Nat.reduceEqDiff, Nat.reduceLT, Nat.reduceLeDiff, Int.reduceToNat, Int.reduceLE, Int.reduceLT, Int.reduceEq, Int.reduceNeg, reduceCtorEq] <;> (try simp) <;> first | omega | exact fun a c ha hc => row_ev ha hc r0 r1 r2 rfl rfl) ?_
          rintro ⟨k, hk1, hk2⟩
          have hwk : IntKind.i64.wrap ((k : Int) + 1) = ((k + 1 : Nat) : Int) := by rw [wrap_id (by omega) (by omega)]; omega
          simp only [alive_eq, rink_eq, inner_eq, event_eq, has_eq, span_eq, p4_8, p4_29, p20_8, p20_15, p20_17, play_at, pTup, Try.f20, catF_self, oneF_at, Try.f4, go_sem, ↓reduceIte, Nat.reduceAdd, Nat.reduceSub, Nat.reduceMul, Nat.reduceEqDiff, Nat.reduceLT, Nat.reduceLeDiff, Int.reduceToNat, Int.reduceLE, Int.reduceLT, Int.reduceEq, Int.reduceNeg, reduceCtorEq]
          refine ⟨fun d3 => ⟨fun d4 => ?_, fun _ => ⟨fun _ => ?_, fun d5 => ?_⟩⟩, fun d3 => ?_⟩
          · simp [d2] at d4
          · simp only [decide_eq_true_eq] at d3
            refine ⟨⟨k + 1, by omega⟩, by simp only []; omega, ?_⟩
            apply sub_of <;> simp only [hwk, go_sem, ↓reduceIte, Nat.reduceAdd, Nat.reduceSub, Nat.reduceMul, Nat.reduceEqDiff, Nat.reduceLT, Nat.reduceLeDiff, Int.reduceToNat, Int.reduceLE, Int.reduceLT, Int.reduceEq, Int.reduceNeg, reduceCtorEq] <;> (try simp)
          · simp [d2] at d5
          · simp only [decide_eq_false_iff_not] at d3
            refine ⟨⟨q + 1, by omega⟩, by simp only []; omega, ?_⟩
            apply sub_of <;> simp only [hw1, hXe, go_sem, ↓reduceIte, Nat.reduceAdd, Nat.reduceSub, Nat.reduceMul, Nat.reduceEqDiff, Nat.reduceLT, Nat.reduceLeDiff, Int.reduceToNat, Int.reduceLE, Int.reduceLT, Int.reduceEq, Int.reduceNeg, reduceCtorEq] <;> (try simp)
        · simp only [decide_eq_false_iff_not] at d2
          have hto : toOf E = E 2 := by simp [toOf, d2]
          have r3 : E 3 = R q 3 := by rw [hRq]; simp [evT, d2]
          have r4 : E 4 = R q 4 := by rw [hRq]; simp [evT, d2]
          rw [hto] at hXq e1
          generalize hcnt : (E 2 - E 1 + 1).toNat = cnt at *
          refine ⟨⟨by omega, by omega⟩, ?_⟩
          refine loop_of { p : Nat × TSt // (E 1).toNat ≤ p.1 ∧ p.1 ≤ (E 1).toNat + cnt ∧ tRng i (((i * q : Nat) : Int) + ((p.1 - (E 1).toNat : Nat) : Int)) p.2 ∧ tRun E (fun a => b a 0) nb q ((E 1).toNat + cnt - p.1) p.1 p.2 = X (q + 1) } (fun p => [(13, .int .i64 (p.1.1 : Int)), (11, .int .i64 (E 2)), (10, .ptr 1 0), (9, .int .i64 (q : Int)), (19, .int .i64 (q : Int)), (18, .int .i64 (j : Int)), (17, .row j 5 fun i j => .int .i64 (l i j)), (8, .vec 3 (q + 1)), (2, .row nb 1 fun i j => .int .u32 (b i j)), (1, .row j 5 fun i j => .int .i64 (l i j)), (0, .ptr 0 0)])
            (fun p => ⟨[.live 35 [.vec 0 i, .vec 1 i, .int .i64 p.1.2.f, .int .i64 p.1.2.p, .int .i64 p.1.2.w], .live 41 [.int .i64 (E 0), .int .i64 (E 1), .int .i64 (E 2), .int .i64 (E 3), .int .i64 (E 4)]], [.live i 3 1 i fun a _ => .int .i64 (p.1.2.ice a), .live i 3 1 i fun a _ => .int .i64 (p.1.2.paint a), .dead, .live (q + 1) 41 5 (q + 1) fun a c => .int .i64 (R a c)]⟩) (fun p => (E 1).toNat + cnt - p.1.1) (fun _ => ⟨rfl, rfl⟩)
            ⟨((E 1).toNat, X q), by omega, by omega, by simpa using hxq, by rw [hXq, show (E 1).toNat + cnt - ((E 1).toNat, X q).1 = cnt by simp only []; omega]⟩ (by apply sub_of <;> simp only [go_sem, ↓reduceIte, Nat.reduceAdd, Nat.reduceSub, Nat.reduceMul, Nat.reduceEqDiff, Nat.reduceLT, Nat.reduceLeDiff, Int.reduceToNat, Int.reduceLE, Int.reduceLT, Int.reduceEq, Int.reduceNeg, reduceCtorEq] <;> (try simp) <;> first | omega | exact fun a c ha hc => row_ev ha hc r0 r1 r2 r3 r4) ?_
          rintro ⟨⟨k, T⟩, hk1, hk2, hT, hrun⟩
          simp only [] at hk1 hk2 hT hrun
          obtain ⟨t1, t2, t3, t4⟩ := id hT
          have hwk : IntKind.i64.wrap ((k : Int) + 1) = ((k + 1 : Nat) : Int) := by rw [wrap_id (by omega) (by omega)]; omega
          have hwq : IntKind.i64.wrap ((q : Int) + (k : Int)) = ((q + k : Nat) : Int) := by rw [wrap_id (by omega) (by omega)]; omega
          have hmk : ((q + k : Nat) : Int).tmod (nb : Int) = (((q + k) % nb : Nat) : Int) := tmod_nat (by omega) hnb
          have hlk := Nat.mod_lt (q + k) hnb
          simp only [alive_eq, rink_eq, inner_eq, event_eq, has_eq, span_eq, p4_8, p4_29, p20_8, p20_15, p20_17, play_at, pTup, Try.f20, catF_self, oneF_at, Try.f4, go_sem, ↓reduceIte, Nat.reduceAdd, Nat.reduceSub, Nat.reduceMul, Nat.reduceEqDiff, Nat.reduceLT, Nat.reduceLeDiff, Int.reduceToNat, Int.reduceLE, Int.reduceLT, Int.reduceEq, Int.reduceNeg, reduceCtorEq]
          simp only [hwq, hmk, Int.toNat_natCast]
          have hkn : k < (E 1).toNat + cnt → k < i := fun h => by omega
          have hrun' : k < (E 1).toNat + cnt → tRun E (fun a => b a 0) nb q ((E 1).toNat + cnt - (k + 1)) (k + 1) (tz E (inr3 (E 3) (E 4) (b ((q + k) % nb) 0)) k T) = X (q + 1) := fun h => by
            rw [← hrun, tRun_cons (c := (E 1).toNat + cnt - k) (by omega), show (E 1).toNat + cnt - k - 1 = (E 1).toNat + cnt - (k + 1) by omega]
          have hrng' : k < (E 1).toNat + cnt → tRng i (((i * q : Nat) : Int) + ((k + 1 - (E 1).toNat : Nat) : Int)) (tz E (inr3 (E 3) (E 4) (b ((q + k) % nb) 0)) k T) := fun h => by
            have := tz_rng (e := E) (v := inr3 (E 3) (E 4) (b ((q + k) % nb) 0)) (fun h4 => by
              have := e2.2 h4
              have := inr3_in (lo := E 3) (hi := E 4) (b := b ((q + k) % nb) 0) (by omega)
              omega) (hkn h) (by omega) hT
            rw [show (((i * q : Nat) : Int) + ((k + 1 - (E 1).toNat : Nat) : Int)) = ((i * q : Nat) : Int) + ((k - (E 1).toNat : Nat) : Int) + 1 by omega]
            exact this
          have hvv : E 0 ≠ 4 → E 3 ≤ inr3 (E 3) (E 4) (b ((q + k) % nb) 0) ∧ inr3 (E 3) (E 4) (b ((q + k) % nb) 0) ≤ E 4 ∧ 0 ≤ E 3 ∧ E 3 ≤ E 4 ∧ E 4 ≤ 20000 := fun h4 => by
            have := e2.2 h4
            have := inr3_in (lo := E 3) (hi := E 4) (b := b ((q + k) % nb) 0) (by omega)
            omega
          generalize inr3 (E 3) (E 4) (b ((q + k) % nb) 0) = v at *
          refine ⟨fun d3 => ?_, fun d3 => ?_⟩
          · simp only [decide_eq_true_eq] at d3
            have hkc : k < (E 1).toNat + cnt := by omega
            have hki := hkn hkc
            have tk := t1 k hki
            have hrun' := hrun' hkc
            have hrng' := hrng' hkc
            refine ⟨fun d4 => ?_, fun d4 => ⟨fun d5 => absurd (by simpa using d5) d2, fun _ => ?_⟩⟩
            · simp only [decide_eq_true_eq] at d4
              have hz : tz E v k T = ⟨T.ice, updN T.paint k (T.ice k), T.f, T.p, T.w⟩ := by simp [tz, d4]
              rw [hz] at hrun' hrng'
              refine ⟨⟨by kernel_rfl, by kernel_rfl⟩, ⟨by omega, by omega⟩, by omega, ⟨by omega, by omega⟩, by omega, ⟨(k + 1, ⟨T.ice, updN T.paint k (T.ice k), T.f, T.p, T.w⟩), by omega, by omega, hrng', hrun'⟩, by simp only []; omega, ?_⟩
              apply sub_of <;> simp only [hwk, go_sem, ↓reduceIte, Nat.reduceAdd, Nat.reduceSub, Nat.reduceMul, Nat.reduceEqDiff, Nat.reduceLT, Nat.reduceLeDiff, Int.reduceToNat, Int.reduceLE, Int.reduceLT, Int.reduceEq, Int.reduceNeg, reduceCtorEq] <;> (try simp)
              intro a ha
              by_cases h : a = k <;> simp [updF, updN, h, nth]
            · simp only [decide_eq_false_iff_not] at d4
              obtain ⟨v1, v2, v3, v4, v5⟩ := hvv d4
              have hwf : IntKind.i64.wrap (T.f + v) = T.f + v := wrap_id (by omega) (by omega)
              have hwi : IntKind.i64.wrap (T.ice k + v) = T.ice k + v := wrap_id (by omega) (by omega)
              have hwm : IntKind.i64.wrap (T.ice k - min v (T.ice k)) = T.ice k - min v (T.ice k) := wrap_id (by omega) (by omega)
              have hwp : IntKind.i64.wrap (T.p + min v (T.ice k)) = T.p + min v (T.ice k) := wrap_id (by omega) (by omega)
              have hww : IntKind.i64.wrap (T.w + min v (T.ice k)) = T.w + min v (T.ice k) := wrap_id (by omega) (by omega)
              simp only [hwf, hwi, hwm, hwp, hww]
              refine ⟨⟨by kernel_rfl, by kernel_rfl⟩, by omega, ⟨by omega, by omega⟩, ⟨pre _ hlk, by omega, by omega, by omega⟩, fun d6 => ?_, fun d6 => ?_⟩
              · simp only [decide_eq_true_eq] at d6
                have hz : tz E v k T = ⟨updN T.ice k (T.ice k + v), T.paint, T.f + v, T.p, T.w⟩ := by simp [tz, d6]
                rw [hz] at hrun' hrng'
                refine ⟨⟨by omega, by omega⟩, by omega, ⟨by omega, by omega⟩, by omega, ⟨(k + 1, ⟨updN T.ice k (T.ice k + v), T.paint, T.f + v, T.p, T.w⟩), by omega, by omega, hrng', hrun'⟩, by simp only []; omega, ?_⟩
                apply sub_of <;> simp only [hwk, go_sem, ↓reduceIte, Nat.reduceAdd, Nat.reduceSub, Nat.reduceMul, Nat.reduceEqDiff, Nat.reduceLT, Nat.reduceLeDiff, Int.reduceToNat, Int.reduceLE, Int.reduceLT, Int.reduceEq, Int.reduceNeg, reduceCtorEq] <;> (try simp)
                intro a ha
                by_cases h : a = k <;> simp [updF, updN, h, nth]
              · simp only [decide_eq_false_iff_not] at d6
                refine ⟨⟨by omega, by omega⟩, by omega, ⟨by omega, by omega⟩, by omega, ⟨by omega, by omega⟩, by omega, fun d7 => ?_, fun d7 => ?_⟩
                · simp only [decide_eq_true_eq] at d7
                  have hz : tz E v k T = ⟨updN T.ice k (T.ice k - min v (T.ice k)), T.paint, T.f, T.p + min v (T.ice k), T.w⟩ := by simp [tz, d7]
                  rw [hz] at hrun' hrng'
                  refine ⟨⟨(k + 1, ⟨updN T.ice k (T.ice k - min v (T.ice k)), T.paint, T.f, T.p + min v (T.ice k), T.w⟩), by omega, by omega, hrng', hrun'⟩, by simp only []; omega, ?_⟩
                  apply sub_of <;> simp only [hwk, go_sem, ↓reduceIte, Nat.reduceAdd, Nat.reduceSub, Nat.reduceMul, Nat.reduceEqDiff, Nat.reduceLT, Nat.reduceLeDiff, Int.reduceToNat, Int.reduceLE, Int.reduceLT, Int.reduceEq, Int.reduceNeg, reduceCtorEq] <;> (try simp)
                  intro a ha
                  by_cases h : a = k <;> simp [updF, updN, h, nth]
                · simp only [decide_eq_false_iff_not] at d7
                  have hz : tz E v k T = ⟨updN T.ice k (T.ice k - min v (T.ice k)), T.paint, T.f, T.p, T.w + min v (T.ice k)⟩ := by simp [tz, d2, d4, d6, d7]
                  rw [hz] at hrun' hrng'
                  refine ⟨⟨(k + 1, ⟨updN T.ice k (T.ice k - min v (T.ice k)), T.paint, T.f, T.p, T.w + min v (T.ice k)⟩), by omega, by omega, hrng', hrun'⟩, by simp only []; omega, ?_⟩
                  apply sub_of <;> simp only [hwk, go_sem, ↓reduceIte, Nat.reduceAdd, Nat.reduceSub, Nat.reduceMul, Nat.reduceEqDiff, Nat.reduceLT, Nat.reduceLeDiff, Int.reduceToNat, Int.reduceLE, Int.reduceLT, Int.reduceEq, Int.reduceNeg, reduceCtorEq] <;> (try simp)
                  intro a ha
                  by_cases h : a = k <;> simp [updF, updN, h, nth]
          · simp only [decide_eq_false_iff_not] at d3
            have hT2 : T = X (q + 1) := by
              rw [← hrun, show (E 1).toNat + cnt - k = 0 by omega]; rfl
            refine ⟨⟨q + 1, by omega⟩, by simp only []; omega, ?_⟩
            apply sub_of <;> simp only [hw1, hT2, go_sem, ↓reduceIte, Nat.reduceAdd, Nat.reduceSub, Nat.reduceMul, Nat.reduceEqDiff, Nat.reduceLT, Nat.reduceLeDiff, Int.reduceToNat, Int.reduceLE, Int.reduceLT, Int.reduceEq, Int.reduceNeg, reduceCtorEq] <;> (try simp)
      · simp only [decide_eq_false_iff_not] at d1
        obtain rfl : q = j := by omega
        clear hw1 hq d1
        have hlaw1 := hlaw.1
        have hlaw2 := hlaw.2
        have hxq := hrg q (Nat.le_refl _)
        obtain ⟨x1, x2, x3, x4⟩ := id hxq
        have hiq : i * q ≤ 24 * 60 := Nat.mul_le_mul hb.1.2 (by omega)
        refine loop_of { a : Nat // a ≤ i ∧ ∀ c, c < a → (X q).ice c ≤ 20000 } (fun a => [(164, .int .i64 (a.1 : Int)), (163, .int .i64 (i : Int)), (162, .vec 0 i), (8, .vec 3 q)])
          (fun a => ⟨[.live 35 [.vec 0 i, .vec 1 i, .int .i64 (X q).f, .int .i64 (X q).p, .int .i64 (X q).w]], [.live i 3 1 i fun a _ => .int .i64 ((X q).ice a), .live i 3 1 i fun a _ => .int .i64 ((X q).paint a), .dead, .live q 41 5 q fun a c => .int .i64 (R a c)]⟩) (fun a => i - a.1) (fun _ => ⟨rfl, rfl⟩) ⟨0, by omega, by omega⟩ (by (apply sub_of <;> simp only [go_sem, ↓reduceIte, Nat.reduceAdd, Nat.reduceSub, Nat.reduceMul, Nat.reduceEqDiff, Nat.reduceLT, Nat.reduceLeDiff, Int.reduceToNat, Int.reduceLE, Int.reduceLT, Int.reduceEq, Int.reduceNeg, reduceCtorEq] <;> (try simp [catF]))) ?_
        rintro ⟨a, ha, hsm⟩
        simp only [alive_eq, rink_eq, inner_eq, event_eq, has_eq, span_eq, p4_8, p4_29, p20_8, p20_15, p20_17, play_at, pTup, Try.f20, catF_self, oneF_at, Try.f4, go_sem, ↓reduceIte, Nat.reduceAdd, Nat.reduceSub, Nat.reduceMul, Nat.reduceEqDiff, Nat.reduceLT, Nat.reduceLeDiff, Int.reduceToNat, Int.reduceLE, Int.reduceLT, Int.reduceEq, Int.reduceNeg, reduceCtorEq]
        have hw1 : IntKind.i64.wrap ((a : Int) + 1) = ((a + 1 : Nat) : Int) := by rw [wrap_id (by omega) (by omega)]; omega
        generalize hPP : playT i q z R = P at *
        have herr : P.e ≠ 0 → P.e = 12 ∧ P.i < (q : Int) ∧ P.n = 0 := fun h => hlaw1 h
        refine ⟨fun d1 => ⟨by simp only [decide_eq_true_eq] at d1; omega, by simp only [decide_eq_true_eq] at d1; omega, fun d2 => ?_, fun d2 => ?_⟩, fun d1 => ?_⟩
        · simp only [decide_eq_true_eq] at d1 d2
          have hne : P.e ≠ 0 := fun h => by
            obtain ⟨_, _, y, _, _, hok, hin⟩ := hlaw2 h
            have := okZ_iff.1 (hok a (by omega))
            have := (hin.1 a (by omega)).1
            omega
          obtain ⟨p1, p2, p3⟩ := herr hne
          simp [spl, p1, p2, p3]
        · simp only [decide_eq_true_eq, decide_eq_false_iff_not] at d1 d2
          refine ⟨⟨a + 1, by omega, fun c hc => ?_⟩, by simp only []; omega, ?_⟩
          · rcases Nat.lt_or_ge c a with h | h
            · exact hsm c h
            · obtain rfl : c = a := by omega
              omega
          · apply sub_of <;> simp only [hw1, go_sem, ↓reduceIte, Nat.reduceAdd, Nat.reduceSub, Nat.reduceMul, Nat.reduceEqDiff, Nat.reduceLT, Nat.reduceLeDiff, Int.reduceToNat, Int.reduceLE, Int.reduceLT, Int.reduceEq, Int.reduceNeg, reduceCtorEq] <;> (try simp)
        · simp only [decide_eq_false_iff_not] at d1
          refine ⟨fun d2 => ?_, fun d2 => ?_⟩
          · obtain ⟨p1, p2, p3⟩ := herr (by simpa using d2)
            simp [spl, p1, p2, p3]
          · obtain ⟨pn, pi, y, pz, ps, hok, hin⟩ := hlaw2 (by simpa using d2)
            refine ⟨fun h => ?_, fun _ => ⟨fun h => ?_, fun _ => ?_⟩⟩
            · rw [pn] at h; simp at h
            · rw [pi] at h; simp at h
            · simp only [pn, pz, ps]
              clear hw1 ha hsm d1
              refine loop_of { c : Nat // c ≤ i } (fun c => [(167, .int .i64 (c.1 : Int)), (166, .int .i64 (i : Int)), (165, .vec 4 0), (23, .int .i64 (sumN (X q).ice c.1)), (20, .ptr 1 0), (8, .int .i64 (sumN (ice0 z b nb) i)), (7, .ptr 0 0)])
                (fun c => ⟨[.live 35 [.vec 0 i, .vec 1 i, .int .i64 (X q).f, .int .i64 (X q).p, .int .i64 (X q).w], .live 44 [.int .i64 (y.s 0), .int .i64 (y.s 1), .int .i64 (y.s 2), .int .i64 (y.s 3), .int .i64 (y.s 4), .int .i64 (y.s 5)]],
                   [.live i 3 1 i fun a _ => .int .i64 ((X q).ice a), .live i 3 1 i fun a _ => .int .i64 ((X q).paint a), .dead, .dead, .live 0 37 4 i fun a c => .int .i64 (y.z a c)]⟩) (fun c => i - c.1) (fun _ => ⟨rfl, rfl⟩) ⟨0, by omega⟩ (by (apply sub_of <;> simp only [go_sem, ↓reduceIte, Nat.reduceAdd, Nat.reduceSub, Nat.reduceMul, Nat.reduceEqDiff, Nat.reduceLT, Nat.reduceLeDiff, Int.reduceToNat, Int.reduceLE, Int.reduceLT, Int.reduceEq, Int.reduceNeg, reduceCtorEq] <;> (try simp [catF])) <;> rfl) ?_
              rintro ⟨c, hc⟩
              simp only [alive_eq, rink_eq, inner_eq, event_eq, has_eq, span_eq, p4_8, p4_29, p20_8, p20_15, p20_17, play_at, pTup, Try.f20, catF_self, oneF_at, Try.f4, go_sem, ↓reduceIte, Nat.reduceAdd, Nat.reduceSub, Nat.reduceMul, Nat.reduceEqDiff, Nat.reduceLT, Nat.reduceLeDiff, Int.reduceToNat, Int.reduceLE, Int.reduceLT, Int.reduceEq, Int.reduceNeg, reduceCtorEq]
              have hw1 : IntKind.i64.wrap ((c : Int) + 1) = ((c + 1 : Nat) : Int) := by rw [wrap_id (by omega) (by omega)]; omega
              have hsb : ∀ c, c ≤ i → 0 ≤ sumN (X q).ice c ∧ sumN (X q).ice c ≤ 20000 * 1441 * c := fun c hc => sumN_bd (by omega) c (fun e he => by have := x1 e (by omega); omega)
              refine ⟨fun e1 => ?_, fun e1 => ?_⟩
              · simp only [decide_eq_true_eq] at e1
                have hci : c < i := by omega
                have ho := okZ_iff.1 (hok c hci)
                obtain ⟨⟨i1, i2⟩, i3, i4⟩ := hin.1 c hci
                have hA : in3 ((X q).ice c) (y.z c 0) (y.z c 1) = true := in3_iff.2 ⟨i1, i2⟩
                have hB : in3 ((X q).paint c) (y.z c 2) (y.z c 3) = true := in3_iff.2 ⟨i3, i4⟩
                have hsc := hsb c hc
                have hxc := x1 c hci
                have hw2 : IntKind.i64.wrap (sumN (X q).ice c + (X q).ice c) = sumN (X q).ice (c + 1) := wrap_id (by omega) (by omega)
                refine ⟨⟨by omega, by omega⟩, hci, ⟨by omega, by omega⟩, hci, ⟨by kernel_rfl, by kernel_rfl⟩, ⟨by omega, by omega⟩, hci, fun h => ?_, fun _ => ⟨⟨by omega, by omega⟩, hci, fun h => ?_, fun _ => ⟨fun h => ?_, fun _ => ⟨fun h => ?_, fun _ => ?_⟩⟩⟩⟩
                · rw [hA] at h; simp at h
                · rw [hB] at h; simp at h
                · simp only [decide_eq_true_eq] at h; omega
                · simp only [decide_eq_true_eq] at h; omega
                · refine ⟨⟨c + 1, by omega⟩, by simp only []; omega, ?_⟩
                  apply sub_of <;> simp only [hw1, hw2, go_sem, ↓reduceIte, Nat.reduceAdd, Nat.reduceSub, Nat.reduceMul, Nat.reduceEqDiff, Nat.reduceLT, Nat.reduceLeDiff, Int.reduceToNat, Int.reduceLE, Int.reduceLT, Int.reduceEq, Int.reduceNeg, reduceCtorEq] <;> (try simp)
              · simp only [decide_eq_false_iff_not] at e1
                obtain rfl : c = i := by omega
                obtain ⟨_, hf, hp, hw⟩ := hin
                have hA : in3 (X q).f (y.s 0) (y.s 1) = true := in3_iff.2 hf
                have hB : in3 (X q).p (y.s 2) (y.s 3) = true := in3_iff.2 hp
                have hC : in3 (X q).w (y.s 4) (y.s 5) = true := in3_iff.2 hw
                have hsc := hsb c hc
                rw [hbal0] at hbal
                have hbal2 : sumN (X q).ice c + (X q).p + (X q).w - (X q).f = sumN (ice0 z b nb) c := hbal
                have hs0 := sumN_bd (B := 20000) (by omega) c hr0
                have w1 : IntKind.i64.wrap (sumN (ice0 z b nb) c + (X q).f) = sumN (ice0 z b nb) c + (X q).f := wrap_id (by omega) (by omega)
                have w2 : IntKind.i64.wrap (sumN (X q).ice c + (X q).p) = sumN (X q).ice c + (X q).p := wrap_id (by omega) (by omega)
                have w3 : IntKind.i64.wrap (sumN (X q).ice c + (X q).p + (X q).w) = sumN (X q).ice c + (X q).p + (X q).w := wrap_id (by omega) (by omega)
                rw [w1, w2, w3, hA, hB, hC]
                simp only [spl_true]
                exact ⟨fun _ => trivial, fun h => by simp only [decide_eq_false_iff_not] at h; omega⟩
end Go.Eng
end

/-
  IceTrue: for every input the law returns true, and each argument reads afterwards as it read before. No condition.
-/
section
namespace Go.Proofs.Ytmpcdcphgepeiaa.iceTrue
open Go.ChangeShapes Go.WideShapes Go.ChangeAt Go.RowKit Go.Eng
set_option linter.unusedVariables false
theorem own : ownKnob Try.prog.godebug = none := by kernel_rfl
theorem laid : laidOutB Try.prog = true := by kernel_rfl
set_option maxRecDepth 100000 in
theorem lifted (os : Os) (started : os.Started) (H : Type) (enc : TypeId × Value → H) :
    ReturnsInHanded {} Try.checked os 4 .any (Rows.iceTrueSpec.pre6 enc Try.prog Try.f4 Rows.iceTrueRow.domain false) (Rows.iceTrueSpec.post enc Try.prog Try.f4 false true false false) := by
  refine returnsInHanded_of_change (C := Try.checked) own started (by kernel_rfl) Try.func4
    (ChangeSpec.witness6 (enc := enc) (C := Try.checked) false ⟨#[], #[.slice none 0 0, .slice none 0 0, .slice none 0 0], []⟩ 8 (by kernel_rfl) (by kernel_rfl) (by kernel_rfl) (by kernel_rfl)) ?_
  intro W base args ds gs before hval0 hW hcnd _
  have hval : ∀ (j : Nat) t v, Try.f4.params[j]? = some t → args[j]? = some v → Value.okWide Try.prog W .any base t v := hval0
  have hW' := hW
  obtain ⟨p, q, hA0, hV, rfl, hfz, hnd⟩ := hW
  have hA : DataW.TrodAll enc Try.prog W 0 (fun _ => true) true Try.f4.params.toList args.toList ds p := hA0
  rw [Try.params4] at hA hval
  obtain ⟨v0, vs0, d0, ds0, p0, q0, hargs, rfl, rfl, h0, r0⟩ := trodAll_cons hA
  obtain ⟨v1, vs1, d1, ds1, p1, q1, rfl, rfl, rfl, h1, r1⟩ := trodAll_cons r0
  obtain ⟨v2, vs2, d2, ds2, p2, q2, rfl, rfl, rfl, h2, r2⟩ := trodAll_cons r1
  obtain ⟨rfl, rfl, rfl⟩ := trodAll_nil r2
  obtain rfl : args = #[v0, v1, v2] := by cases args; simp_all
  obtain ⟨rfl, rfl⟩ := trodVars_none hV
  obtain ⟨n0, f0, e0, m0, t0⟩ := arg_row (s := [.int .i64, .int .i64, .int .i64, .int .i64]) Try.underlying22 (by kernel_rfl) (hval 0 22 v0 rfl rfl) h0
  obtain ⟨i0, b0⟩ := intK_of_typ (k := .i64) (c := 4) rfl t0
  obtain ⟨n1, f1, e1, m1, t1⟩ := arg_row (s := [.int .i64, .int .i64, .int .i64, .int .i64, .int .i64]) Try.underlying30 (by kernel_rfl) (hval 1 30 v1 rfl rfl) h1
  obtain ⟨i1, b1⟩ := intK_of_typ (k := .i64) (c := 5) rfl t1
  obtain ⟨n2, f2, e2, m2, t2⟩ := arg_row (s := [.int .u32]) Try.underlying31 (by kernel_rfl) (hval 2 31 v2 rfl rfl) h2
  obtain ⟨i2, b2⟩ := intK_of_typ (k := .u32) (c := 1) rfl t2
  have hd : DenL Env.emp W [.row n0 4 f0, .row n1 5 f1, .row n2 1 f2] [v0, v1, v2] := ⟨e0, e1, e2, trivial⟩
  refine (law_calls iceTrue_base (args := [.row n0 4 f0, .row n1 5 f1, .row n2 1 f2]) rfl ⟨⟨rfl, fun i j hi hj => i0 i j hi hj⟩, ⟨rfl, fun i j hi hj => i1 i j hi hj⟩, ⟨rfl, fun i j hi hj => i2 i j hi hj⟩, fun i hi => b2 i 0 hi (by decide)⟩ (denA_of hd)).mono fun e W' ⟨he, hb⟩ => ?_
  subst he
  exact ⟨_, rfl, law_end laid rfl Try.underlying4 (by kernel_rfl) rfl hW' rfl hb⟩
theorem over : Rows.iceTrueRow.holds Try.pinned (OpenSpec.ofChange Rows.iceTrueSpec) :=
  OpenClaim.holds_of_wide 4 Try.f4 rfl rfl rfl rfl rfl rfl rfl ⟨rfl, rfl, rfl, rfl, rfl⟩ rfl rfl rfl rfl rfl (by kernel_rfl) Try.func4 (by kernel_rfl)
    (of_decide_eq_true (by kernel_rfl)) (by unfold Func.isWrapper; first | (rw [if_pos (by decide +kernel)]; kernel_rfl) | (rw [if_neg (by decide +kernel)]; exact ⟨rfl, rfl⟩))
    (fun os started H enc _ => lifted os started H enc)
end Go.Proofs.Ytmpcdcphgepeiaa.iceTrue
namespace Go.Proofs.Ytmpcdcphgepeiaa
/-- The given statement. -/
theorem iceTrue_holds : Rows.IceTrueSaid := iceTrue.over
#print axioms iceTrue_holds
end Go.Proofs.Ytmpcdcphgepeiaa
end
