/-
  IceNames: for every input the law returns true, and each argument reads afterwards as it read before. No condition.
-/
import Derived.Test.YtmpcdcphgepeiaaRows
import Derived.WalkKit
import Derived.Test.YtmpcdcphgepeiaaBR
set_option linter.unusedSimpArgs false
set_option linter.unusedVariables false
/- Tables, and where a machine breaks in: the plain words. -/
section
namespace Go.Eng
open Go Go.RowKit Go.Proofs
set_option maxRecDepth 100000
set_option maxHeartbeats 4000000
attribute [local irreducible] OwnT DefS
def okT (t : Nat → Nat → Int) (i : Nat) : Bool := (in3 (t i 0) 1 100000 && in3 (t i 1) 0 20000) && (decide (i = 0) || (decide (t (i - 1) 0 < t i 0) && decide (t (i - 1) 1 < t i 1)))
def tableB (k : Nat) (t : Nat → Nat → Int) : Bool := in3 k 1 16 && allU (okT t) k
def rtableBase : BaseF := fun args => match args with
  | [.row k sz_t f_t] => some ((sz_t = 2 ∧ IntR k 2 f_t), .bool (tableB k (fun i j => iv (f_t i j))))
  | _ => none
theorem rtable_eq (k : Nat) (t : Nat → Nat → Int) : rtableBase [.row k 2 (fun i j => .int .i64 (t i j))] = some ((2 = 2 ∧ IntR k 2 (fun i j => .int .i64 (t i j))), .bool (tableB k t)) := rfl
theorem rtable_base : Base Try.prog 63 rtableBase := by
  intro args p v hq hp
  unfold rtableBase at hq
  split at hq
  rotate_left
  · cases hq
  rename_i k sz_t f_t
  cases hq
  obtain ⟨rfl, i_t⟩ := hp
  refine base_of (C := cx [] [] [(49, inBase)] [(63, 6, p63_6)] none) (cx_ok trivial ⟨in_base, trivial⟩) rfl (g := 63) (fn := Try.f63)
    (args' := [.row k 2 (rowF .i64 (fun i j => iv (f_t i j)))]) (fn_63) rfl 1000 (by simp only [BdL, Bd, and_self, and_true, true_and]; exact fun i j hi hj => by rw [i_t i j hi hj]; trivial) ⟨SameD.int i_t, trivial⟩ ?_
  generalize (fun i j => iv (f_t i j)) = t
  simp only [rowF_eq]
  simp only [in_eq, p63_6, Try.f63, go_sem, ↓reduceIte, Nat.reduceAdd, Nat.reduceSub, Nat.reduceMul, Nat.reduceEqDiff, Nat.reduceLT, Nat.reduceLeDiff, Int.reduceToNat, Int.reduceLE, Int.reduceLT, Int.reduceEq, Int.reduceNeg, reduceCtorEq]
  refine loop_of { i : Nat // i ≤ k ∧ i ≤ 17 ∧ ∀ j, j < i → okT t j = true } (fun i => [(3, .int .i64 (i.1 : Int)), (0, .row k 2 fun i j => .int .i64 (t i j))]) (fun _ => ⟨[], []⟩) (fun i => k - i.1) (fun _ => ⟨rfl, rfl⟩) ⟨0, by omega, by omega, by omega⟩ (by (apply sub_of <;> simp only [go_sem, ↓reduceIte, Nat.reduceAdd, Nat.reduceSub, Nat.reduceMul, Nat.reduceEqDiff, Nat.reduceLT, Nat.reduceLeDiff, Int.reduceToNat, Int.reduceLE, Int.reduceLT, Int.reduceEq, Int.reduceNeg, reduceCtorEq] <;> (try simp [catF]))) ?_
  rintro ⟨i, h1, h2, h3⟩
  simp only [in_eq, p63_6, Try.f63, go_sem, ↓reduceIte, Nat.reduceAdd, Nat.reduceSub, Nat.reduceMul, Nat.reduceEqDiff, Nat.reduceLT, Nat.reduceLeDiff, Int.reduceToNat, Int.reduceLE, Int.reduceLT, Int.reduceEq, Int.reduceNeg, reduceCtorEq]
  have hw3 : IntKind.i64.wrap ((i : Int) + 1) = ((i + 1 : Nat) : Int) := by rw [wrap_id (by omega) (by omega)]; omega
  have hw4 : 0 < i → IntKind.i64.wrap ((i : Int) - 1) = ((i - 1 : Nat) : Int) := fun h => by rw [wrap_id (by omega) (by omega)]; omega
  have bad : i < k → okT t i = false → SV.bool false = .bool (tableB k t) := fun hi h => by unfold tableB; rw [allU_false hi h, Bool.and_false]
  have fin : (i = k ∨ i = 17) → SV.bool (in3 k 1 16) = .bool (tableB k t) := fun h => by
    congr 1
    unfold tableB
    cases hc : in3 (k : Int) 1 16 with
    | false => rfl
    | true =>
      have := in3_iff.1 hc
      rw [Bool.true_and]
      exact (allU_iff.2 fun j hj => h3 j (by omega)).symm
  refine ⟨fun e1 => ⟨fun e2 => ?_, fun e2 => ?_⟩, fun e1 => ?_⟩
  · simp only [decide_eq_true_eq] at e1 e2
    have ik : i < k := by omega
    refine ⟨⟨by omega, by omega⟩, fun e3 => bad ik (by simp only [Bool.not_eq_true'] at e3; simp [okT, e3]), fun e3 => ⟨⟨by omega, by omega⟩, fun e4 => bad ik (by simp only [Bool.not_eq_true'] at e4; simp [okT, e4]), fun e4 => ⟨⟨by kernel_rfl, by kernel_rfl⟩, fun e5 => ?_, fun e5 => ?_⟩⟩⟩
    · simp only [decide_eq_true_eq] at e5
      simp only [Bool.not_eq_false'] at e3 e4
      have i0 : 0 < i := by omega
      simp only [hw4 i0, Int.toNat_natCast]
      refine ⟨⟨by omega, by omega⟩, ⟨by omega, by omega⟩, fun e6 => bad ik ?_, fun e6 => ⟨⟨by omega, by omega⟩, ⟨by omega, by omega⟩, fun e7 => bad ik ?_, fun e7 => ?_⟩⟩
      · simp only [decide_eq_true_eq] at e6
        have h0 : i ≠ 0 := by omega
        have h6 : ¬ t (i - 1) 0 < t i 0 := by omega
        simp [okT, h0, h6]
      · simp only [decide_eq_true_eq] at e7
        have h0 : i ≠ 0 := by omega
        have h6 : ¬ t (i - 1) 1 < t i 1 := by omega
        simp [okT, h0, h6]
      · simp only [decide_eq_false_iff_not] at e6 e7
        refine ⟨⟨i + 1, by omega, by omega, fun j hj => ?_⟩, by simp only []; omega, ?_⟩
        · rcases Nat.lt_or_ge j i with h | h
          · exact h3 j h
          · obtain rfl : j = i := by omega
            have h6 : t (j - 1) 0 < t j 0 := by omega
            have h7 : t (j - 1) 1 < t j 1 := by omega
            simp [okT, e3, e4, h6, h7]
        · apply sub_of <;> simp only [hw3, go_sem, ↓reduceIte, Nat.reduceAdd, Nat.reduceSub, Nat.reduceMul, Nat.reduceEqDiff, Nat.reduceLT, Nat.reduceLeDiff, Int.reduceToNat, Int.reduceLE, Int.reduceLT, Int.reduceEq, Int.reduceNeg, reduceCtorEq] <;> (try simp)
    · simp only [decide_eq_false_iff_not] at e5
      simp only [Bool.not_eq_false'] at e3 e4
      obtain rfl : i = 0 := by omega
      refine ⟨⟨1, by omega, by omega, fun j hj => ?_⟩, by simp only []; omega, ?_⟩
      · obtain rfl : j = 0 := by omega
        simp [okT, e3, e4]
      · apply sub_of <;> simp only [hw3, go_sem, ↓reduceIte, Nat.reduceAdd, Nat.reduceSub, Nat.reduceMul, Nat.reduceEqDiff, Nat.reduceLT, Nat.reduceLeDiff, Int.reduceToNat, Int.reduceLE, Int.reduceLT, Int.reduceEq, Int.reduceNeg, reduceCtorEq] <;> (try simp)
  · simp only [decide_eq_false_iff_not] at e2
    exact fin (.inr (by omega))
  · simp only [decide_eq_false_iff_not] at e1
    exact fin (.inl (by omega))
def tableBase : BaseF := fun args => match args with
  | [.row k sz_t f_t] => some ((sz_t = 2 ∧ IntR k 2 f_t), .bool (tableB k (fun i j => iv (f_t i j))))
  | _ => none
theorem table_eq (k : Nat) (t : Nat → Nat → Int) : tableBase [.row k 2 (fun i j => .int .i64 (t i j))] = some ((2 = 2 ∧ IntR k 2 (fun i j => .int .i64 (t i j))), .bool (tableB k t)) := rfl
theorem table_base : Base Try.prog 57 tableBase := by
  intro args p v hq hp
  unfold tableBase at hq
  split at hq
  rotate_left
  · cases hq
  rename_i k sz_t f_t
  cases hq
  obtain ⟨rfl, i_t⟩ := hp
  refine base_of (C := cx [] [] [(39, inBase)] [(78, 4, p78_4)] none) (cx_ok trivial ⟨in2_base, trivial⟩) rfl (g := 57) (fn := Try.f57)
    (args' := [.row k 2 (rowF .i64 (fun i j => iv (f_t i j)))]) (fn_57) rfl 1000 (by simp only [BdL, Bd, and_self, and_true, true_and]; exact fun i j hi hj => by rw [i_t i j hi hj]; trivial) ⟨SameD.int i_t, trivial⟩ ?_
  generalize (fun i j => iv (f_t i j)) = t
  simp only [rowF_eq]
  simp only [in_eq, p78_4, Try.f75, Try.f76, Try.f77, Try.f78, Try.f79, Try.f89, Try.f57, go_sem, ↓reduceIte, Nat.reduceAdd, Nat.reduceSub, Nat.reduceMul, Nat.reduceEqDiff, Nat.reduceLT, Nat.reduceLeDiff, Int.reduceToNat, Int.reduceLE, Int.reduceLT, Int.reduceEq, Int.reduceNeg, reduceCtorEq]
  refine ⟨fun c1 => ?_, fun c1 => ?_⟩
  rotate_left
  · unfold tableB; rw [c1]; rfl
  have hk := in3_iff.1 c1
  refine loop_of { i : Nat // 1 ≤ i ∧ i ≤ k ∧ ∀ j, 1 ≤ j → j < i → t (j - 1) 0 < t j 0 } (fun i => [(5, .int .i64 (i.1 : Int)), (1, .func 75 []), (0, .row k 2 fun i j => .int .i64 (t i j))]) (fun _ => ⟨[], []⟩) (fun i => k - i.1) (fun _ => ⟨rfl, rfl⟩) ⟨1, by omega, by omega, by omega⟩ (by (apply sub_of <;> simp only [go_sem, ↓reduceIte, Nat.reduceAdd, Nat.reduceSub, Nat.reduceMul, Nat.reduceEqDiff, Nat.reduceLT, Nat.reduceLeDiff, Int.reduceToNat, Int.reduceLE, Int.reduceLT, Int.reduceEq, Int.reduceNeg, reduceCtorEq] <;> (try simp [catF]))) ?_
  rintro ⟨i, h1, h2, h3⟩
  simp only [in_eq, p78_4, Try.f75, Try.f76, Try.f77, Try.f78, Try.f79, Try.f89, Try.f57, go_sem, ↓reduceIte, Nat.reduceAdd, Nat.reduceSub, Nat.reduceMul, Nat.reduceEqDiff, Nat.reduceLT, Nat.reduceLeDiff, Int.reduceToNat, Int.reduceLE, Int.reduceLT, Int.reduceEq, Int.reduceNeg, reduceCtorEq]
  have hw3 : IntKind.i64.wrap ((i : Int) + 1) = ((i + 1 : Nat) : Int) := by rw [wrap_id (by omega) (by omega)]; omega
  have hw4 : IntKind.i64.wrap ((i : Int) - 1) = ((i - 1 : Nat) : Int) := by rw [wrap_id (by omega) (by omega)]; omega
  simp only [hw4]
  have bad : ∀ {i}, i < k → okT t i = false → SV.bool false = .bool (tableB k t) := fun hi h => by unfold tableB; rw [allU_false hi h, Bool.and_false]
  refine ⟨fun e1 => ?_, fun e1 => ?_⟩
  · simp only [decide_eq_true_eq] at e1
    simp only [Int.toNat_natCast]
    refine ⟨⟨by kernel_rfl, by kernel_rfl⟩, ⟨by omega, by omega⟩, ⟨by omega, by omega⟩, ⟨by omega, by omega⟩, fun e2 => bad (show i < k by omega) ?_, fun e2 => ?_⟩
    · simp only [decide_eq_true_eq] at e2
      have h0 : i ≠ 0 := by omega
      have h6 : ¬ t (i - 1) 0 < t i 0 := by omega
      simp [okT, h0, h6]
    · simp only [decide_eq_false_iff_not] at e2
      refine ⟨⟨i + 1, by omega, by omega, fun j hj1 hj2 => ?_⟩, by simp only []; omega, ?_⟩
      · rcases Nat.lt_or_ge j i with h | h
        · exact h3 j hj1 h
        · obtain rfl : j = i := by omega
          omega
      · apply sub_of <;> simp only [hw3, go_sem, ↓reduceIte, Nat.reduceAdd, Nat.reduceSub, Nat.reduceMul, Nat.reduceEqDiff, Nat.reduceLT, Nat.reduceLeDiff, Int.reduceToNat, Int.reduceLE, Int.reduceLT, Int.reduceEq, Int.reduceNeg, reduceCtorEq] <;> (try simp)
  · simp only [decide_eq_false_iff_not] at e1
    have up0 : ∀ j, 1 ≤ j → j < k → t (j - 1) 0 < t j 0 := fun j a b => h3 j a (by omega)
    clear h3 hw3 hw4
    refine loop_of { i : Nat // 1 ≤ i ∧ i ≤ k ∧ ∀ j, 1 ≤ j → j < i → t (j - 1) 1 < t j 1 } (fun i => [(5, .int .i64 (i.1 : Int)), (1, .func 76 []), (0, .row k 2 fun i j => .int .i64 (t i j))]) (fun _ => ⟨[], []⟩) (fun i => k - i.1) (fun _ => ⟨rfl, rfl⟩) ⟨1, by omega, by omega, by omega⟩ (by (apply sub_of <;> simp only [go_sem, ↓reduceIte, Nat.reduceAdd, Nat.reduceSub, Nat.reduceMul, Nat.reduceEqDiff, Nat.reduceLT, Nat.reduceLeDiff, Int.reduceToNat, Int.reduceLE, Int.reduceLT, Int.reduceEq, Int.reduceNeg, reduceCtorEq] <;> (try simp [catF]))) ?_
    clear e1 h2 h1 i
    rintro ⟨i, h1, h2, h3⟩
    simp only [in_eq, p78_4, Try.f75, Try.f76, Try.f77, Try.f78, Try.f79, Try.f89, Try.f57, go_sem, ↓reduceIte, Nat.reduceAdd, Nat.reduceSub, Nat.reduceMul, Nat.reduceEqDiff, Nat.reduceLT, Nat.reduceLeDiff, Int.reduceToNat, Int.reduceLE, Int.reduceLT, Int.reduceEq, Int.reduceNeg, reduceCtorEq]
    have hw3 : IntKind.i64.wrap ((i : Int) + 1) = ((i + 1 : Nat) : Int) := by rw [wrap_id (by omega) (by omega)]; omega
    have hw4 : IntKind.i64.wrap ((i : Int) - 1) = ((i - 1 : Nat) : Int) := by rw [wrap_id (by omega) (by omega)]; omega
    simp only [hw4]
    refine ⟨fun e1 => ?_, fun e1 => ?_⟩
    · simp only [decide_eq_true_eq] at e1
      simp only [Int.toNat_natCast]
      refine ⟨⟨by kernel_rfl, by kernel_rfl⟩, ⟨by omega, by omega⟩, ⟨by omega, by omega⟩, ⟨by omega, by omega⟩, fun e2 => bad (show i < k by omega) ?_, fun e2 => ?_⟩
      · simp only [decide_eq_true_eq] at e2
        have h0 : i ≠ 0 := by omega
        have h6 : ¬ t (i - 1) 1 < t i 1 := by omega
        simp [okT, h0, h6]
      · simp only [decide_eq_false_iff_not] at e2
        refine ⟨⟨i + 1, by omega, by omega, fun j hj1 hj2 => ?_⟩, by simp only []; omega, ?_⟩
        · rcases Nat.lt_or_ge j i with h | h
          · exact h3 j hj1 h
          · obtain rfl : j = i := by omega
            omega
        · apply sub_of <;> simp only [hw3, go_sem, ↓reduceIte, Nat.reduceAdd, Nat.reduceSub, Nat.reduceMul, Nat.reduceEqDiff, Nat.reduceLT, Nat.reduceLeDiff, Int.reduceToNat, Int.reduceLE, Int.reduceLT, Int.reduceEq, Int.reduceNeg, reduceCtorEq] <;> (try simp)
    · simp only [decide_eq_false_iff_not] at e1
      have up1 : ∀ j, 1 ≤ j → j < k → t (j - 1) 1 < t j 1 := fun j a b => h3 j a (by omega)
      clear h3 hw3 hw4
      refine loop_of { i : Nat // i ≤ k ∧ ∀ j, j < i → (in3 (t j 0) 1 100000 && in3 (t j 1) 0 20000) = true } (fun i => [(8, .int .i64 (i.1 : Int)), (7, .int .i64 (k : Int)), (1, .func 77 []), (0, .row k 2 fun i j => .int .i64 (t i j))]) (fun _ => ⟨[], []⟩) (fun i => k - i.1) (fun _ => ⟨rfl, rfl⟩) ⟨0, by omega, by omega⟩ (by (apply sub_of <;> simp only [go_sem, ↓reduceIte, Nat.reduceAdd, Nat.reduceSub, Nat.reduceMul, Nat.reduceEqDiff, Nat.reduceLT, Nat.reduceLeDiff, Int.reduceToNat, Int.reduceLE, Int.reduceLT, Int.reduceEq, Int.reduceNeg, reduceCtorEq] <;> (try simp [catF]))) ?_
      clear e1 h2 h1 i
      rintro ⟨i, h2, h3⟩
      simp only [in_eq, p78_4, Try.f75, Try.f76, Try.f77, Try.f78, Try.f79, Try.f89, Try.f57, go_sem, ↓reduceIte, Nat.reduceAdd, Nat.reduceSub, Nat.reduceMul, Nat.reduceEqDiff, Nat.reduceLT, Nat.reduceLeDiff, Int.reduceToNat, Int.reduceLE, Int.reduceLT, Int.reduceEq, Int.reduceNeg, reduceCtorEq]
      have hw3 : IntKind.i64.wrap ((i : Int) + 1) = ((i + 1 : Nat) : Int) := by rw [wrap_id (by omega) (by omega)]; omega
      have h0 : (!decide ((0 : Int) ≤ (i : Int))) = false := by simp
      rw [h0]
      refine ⟨fun e1 => ?_, fun e1 => ?_⟩
      · simp only [decide_eq_true_eq] at e1
        refine ⟨⟨by omega, by omega⟩, fun e2 => bad (show i < k by omega) (by simp only [Bool.not_eq_true'] at e2; simp [okT, e2]), fun e2 => ⟨fun e3 => bad (show i < k by omega) (by simp only [Bool.not_eq_true'] at e3; simp [okT, e3]), fun e3 => ?_⟩⟩
        simp only [Bool.not_eq_false'] at e2 e3
        refine ⟨⟨i + 1, by omega, fun j hj => ?_⟩, by simp only []; omega, ?_⟩
        · rcases Nat.lt_or_ge j i with h | h
          · exact h3 j h
          · obtain rfl : j = i := by omega
            rw [e2, e3]; rfl
        · apply sub_of <;> simp only [hw3, go_sem, ↓reduceIte, Nat.reduceAdd, Nat.reduceSub, Nat.reduceMul, Nat.reduceEqDiff, Nat.reduceLT, Nat.reduceLeDiff, Int.reduceToNat, Int.reduceLE, Int.reduceLT, Int.reduceEq, Int.reduceNeg, reduceCtorEq] <;> (try simp)
      · simp only [decide_eq_false_iff_not] at e1
        congr 1
        unfold tableB
        rw [c1, Bool.true_and]
        refine (allU_iff.2 fun j hj => ?_).symm
        have h4 := h3 j (by omega)
        unfold okT
        rw [h4, Bool.true_and]
        by_cases hj0 : j = 0
        · simp [hj0]
        · have := up0 j (by omega) hj
          have := up1 j (by omega) hj
          simp [*]
end Go.Eng
end

/- Breaks and its twin. -/
section
namespace Go.Eng
open Go Go.RowKit Go.Proofs
set_option maxRecDepth 100000
set_option maxHeartbeats 4000000
attribute [local irreducible] OwnT DefS
/-- The first bearing that holds so much. -/
def firstT (k : Nat) (t : Nat → Nat → Int) (w : Int) : Nat := (fstI (fun i => decide (w ≤ t i 0)) k 0).toNat
def offP (n : Nat) (p : Nat → Nat → Int) : Nat → Bool := fun i => !in3 (p i 0) 0 (n - 1)
def thinP' (z : Nat → Nat → Int) (p : Nat → Nat → Int) (need : Int) : Nat → Bool := fun i => decide (z (p i 0).toNat 0 < need)
def breaksO (n k m : Nat) (z t p : Nat → Nat → Int) (w : Int) : Int × Int :=
  if rinkB n z = true ∧ tableB k t = true then
    if fstI (offP n p) m 0 = -1 ∧ in3 w 1 (t (k - 1) 0) = true then
      (if 0 ≤ fstI (thinP' z p (t (firstT k t w) 1)) m 0 then (fstI (thinP' z p (t (firstT k t w) 1)) m 0, 0) else (0, 4))
    else (0, 2)
  else (0, 1)
def bTup (v : Int × Int) : SV := .tup [.int .i64 v.1, .int .i64 v.2]
theorem table_iff {k : Nat} {t : Nat → Nat → Int} : tableB k t = true ↔ (1 ≤ k ∧ k ≤ 16) ∧ ∀ i, i < k → okT t i = true := by
  simp only [tableB, Bool.and_eq_true, in3_iff, allU_iff]
  constructor
  · rintro ⟨⟨a, b⟩, c⟩; exact ⟨⟨by omega, by omega⟩, c⟩
  · rintro ⟨⟨a, b⟩, c⟩; exact ⟨⟨by omega, by omega⟩, c⟩
theorem table_up {k : Nat} {t : Nat → Nat → Int} (h : ∀ i, i < k → okT t i = true) (c : Nat) (hc : c < 2) : ∀ d i, i + d < k → t i c ≤ t (i + d) c
  | 0, i, _ => Int.le_refl _
  | d + 1, i, hi => by
    have h1 := table_up h c hc d i (by omega)
    have h2 := h (i + d + 1) (by omega)
    simp only [okT, Bool.and_eq_true, Bool.or_eq_true, decide_eq_true_eq, Nat.add_sub_cancel] at h2
    have hc' : c = 0 ∨ c = 1 := by omega
    rcases hc' with rfl | rfl
    · have : t (i + d) 0 < t (i + d + 1) 0 := by omega
      rw [show i + (d + 1) = i + d + 1 by omega]; omega
    · have : t (i + d) 1 < t (i + d + 1) 1 := by omega
      rw [show i + (d + 1) = i + d + 1 by omega]; omega
theorem firstT_spec {k : Nat} {t : Nat → Nat → Int} {w : Int} (h : tableB k t = true) (hw : w ≤ t (k - 1) 0) : firstT k t w < k ∧ ∀ i, i < k → (w ≤ t i 0 ↔ firstT k t w ≤ i) := by
  obtain ⟨hk, ht⟩ := table_iff.1 h
  unfold firstT
  rcases fstI_range (fun i => decide (w ≤ t i 0)) k 0 with h1 | ⟨j, h1, h2, h3, h4, h5⟩
  · have := fstI_none h1 (k - 1) (by omega) (by omega)
    simp only [decide_eq_false_iff_not] at this
    exact absurd hw this
  · rw [h1]
    simp only [decide_eq_true_eq] at h4
    refine ⟨by omega, fun i hi => ⟨fun h6 => ?_, fun h6 => ?_⟩⟩
    · rcases Nat.lt_or_ge i j with h7 | h7
      · have := h5 i (by omega) h7
        simp only [decide_eq_false_iff_not] at this
        exact absurd h6 this
      · omega
    · have := table_up ht 0 (by omega) (i - j) j (by omega)
      rw [show j + (i - j) = i by omega] at this
      omega
def rbreaksBase : BaseF := fun args => match args with
  | [.row n sz_z f_z, .row k sz_t f_t, .row m sz_p f_p, .int .i64 w] => some ((sz_z = 4 ∧ IntR n 4 f_z) ∧ (sz_t = 2 ∧ IntR k 2 f_t) ∧ (sz_p = 1 ∧ IntR m 1 f_p) ∧ (m ≤ 1000000), bTup (breaksO n k m (fun i j => iv (f_z i j)) (fun i j => iv (f_t i j)) (fun i j => iv (f_p i j)) w))
  | _ => none
theorem rbreaks_eq (n : Nat) (z : Nat → Nat → Int) (k : Nat) (t : Nat → Nat → Int) (m : Nat) (p : Nat → Nat → Int) (w : Int) : rbreaksBase [.row n 4 (fun i j => .int .i64 (z i j)), .row k 2 (fun i j => .int .i64 (t i j)), .row m 1 (fun i j => .int .i64 (p i j)), .int .i64 w] = some ((4 = 4 ∧ IntR n 4 (fun i j => .int .i64 (z i j))) ∧ (2 = 2 ∧ IntR k 2 (fun i j => .int .i64 (t i j))) ∧ (1 = 1 ∧ IntR m 1 (fun i j => .int .i64 (p i j))) ∧ (m ≤ 1000000), bTup (breaksO n k m z t p w)) := rfl
theorem rbreaks_base : Base Try.prog 34 rbreaksBase := by
  intro args p v hq hp
  unfold rbreaksBase at hq
  split at hq
  rotate_left
  · cases hq
  rename_i n sz_z f_z k sz_t f_t m sz_p f_p w
  cases hq
  obtain ⟨⟨rfl, i_z⟩, ⟨rfl, i_t⟩, ⟨rfl, i_p⟩, pre⟩ := hp
  refine base_of (C := cx [] [] [(16, rinkBase), (49, inBase), (63, rtableBase)] [] none) (cx_ok trivial ⟨rink_base, in_base, rtable_base, trivial⟩) rfl (g := 34) (fn := Try.f34)
    (args' := [.row n 4 (rowF .i64 (fun i j => iv (f_z i j))), .row k 2 (rowF .i64 (fun i j => iv (f_t i j))), .row m 1 (rowF .i64 (fun i j => iv (f_p i j))), .int .i64 w]) (fn_34) rfl 1000 (by simp only [BdL, Bd, and_self, and_true, true_and]; exact ⟨fun i j hi hj => by rw [i_z i j hi hj]; trivial, fun i j hi hj => by rw [i_t i j hi hj]; trivial, fun i j hi hj => by rw [i_p i j hi hj]; trivial⟩) ⟨SameD.int i_z, SameD.int i_t, SameD.int i_p, SameD.rfl' _, trivial⟩ ?_
  generalize (fun i j => iv (f_z i j)) = z at *
  generalize (fun i j => iv (f_t i j)) = t at *
  generalize (fun i j => iv (f_p i j)) = p at *
  simp only [rowF_eq]
  simp only [rink_eq, in_eq, rtable_eq, bTup, Try.f34, go_sem, ↓reduceIte, Nat.reduceAdd, Nat.reduceSub, Nat.reduceMul, Nat.reduceEqDiff, Nat.reduceLT, Nat.reduceLeDiff, Int.reduceToNat, Int.reduceLE, Int.reduceLT, Int.reduceEq, Int.reduceNeg, reduceCtorEq]
  refine ⟨fun c1 => ?_, fun c1 => ⟨fun c2 => ?_, fun c2 => ?_⟩⟩
  · rw [show breaksO n k m z t p w = (0, 1) by simp at c1; simp [breaksO, c1]]
  · rw [show breaksO n k m z t p w = (0, 1) by simp at c1 c2; simp [breaksO, c1, c2]]
  simp only [Bool.not_eq_false'] at c1 c2
  have hb := rinkB_iff.1 c1
  obtain ⟨hk, ht⟩ := table_iff.1 c2
  have hn1 : IntKind.i64.wrap ((n : Int) - 1) = (n : Int) - 1 := wrap_id (by omega) (by omega)
  have hk1 : IntKind.i64.wrap ((k : Int) - 1) = (k : Int) - 1 := wrap_id (by omega) (by omega)
  have hk2 : ((k : Int) - 1).toNat = k - 1 := by omega
  have no : (fstI (offP n p) m 0 = -1 ∧ in3 w 1 (t (k - 1) 0) = true) ∨ breaksO n k m z t p w = (0, 2) := by
    by_cases h : fstI (offP n p) m 0 = -1 ∧ in3 w 1 (t (k - 1) 0) = true
    · exact .inl h
    · exact .inr (by unfold breaksO; rw [if_pos ⟨c1, c2⟩, if_neg h])
  refine loop_of { i : Nat // i ≤ m ∧ fstI (offP n p) (m - i) i = fstI (offP n p) m 0 } (fun i => [(10, .int .i64 (i.1 : Int)), (3, .int .i64 w), (2, .row m 1 fun i j => .int .i64 (p i j)), (1, .row k 2 fun i j => .int .i64 (t i j)), (0, .row n 4 fun i j => .int .i64 (z i j))]) (fun _ => ⟨[], []⟩) (fun i => m - i.1) (fun _ => ⟨rfl, rfl⟩) ⟨0, by omega, rfl⟩ (by (apply sub_of <;> simp only [go_sem, ↓reduceIte, Nat.reduceAdd, Nat.reduceSub, Nat.reduceMul, Nat.reduceEqDiff, Nat.reduceLT, Nat.reduceLeDiff, Int.reduceToNat, Int.reduceLE, Int.reduceLT, Int.reduceEq, Int.reduceNeg, reduceCtorEq] <;> (try simp [catF]))) ?_
  rintro ⟨i, hi, hf⟩
  simp only [rink_eq, in_eq, rtable_eq, bTup, Try.f34, go_sem, ↓reduceIte, Nat.reduceAdd, Nat.reduceSub, Nat.reduceMul, Nat.reduceEqDiff, Nat.reduceLT, Nat.reduceLeDiff, Int.reduceToNat, Int.reduceLE, Int.reduceLT, Int.reduceEq, Int.reduceNeg, reduceCtorEq]
  have hw2 : IntKind.i64.wrap ((i : Int) + 1) = ((i + 1 : Nat) : Int) := by rw [wrap_id (by omega) (by omega)]; omega
  simp only [hn1, hk1, hk2]
  refine ⟨fun e1 => ?_, fun e1 => ⟨⟨by omega, by omega⟩, fun e2 => ?_, fun e2 => ?_⟩⟩
  · simp only [decide_eq_true_eq] at e1
    rw [fstI_cons (by omega)] at hf
    refine ⟨⟨by omega, by omega⟩, fun e2 => ?_, fun e2 => ?_⟩
    · rw [if_pos (show offP n p i = true from e2)] at hf
      have : breaksO n k m z t p w = (0, 2) := by
        rcases no with h | h
        · omega
        · exact h
      rw [this]
    · rw [if_neg (show ¬ offP n p i = true by unfold offP; rw [e2]; simp)] at hf
      refine ⟨⟨i + 1, by omega, by rw [← hf]; congr 1⟩, by simp only []; omega, ?_⟩
      apply sub_of <;> simp only [hw2, go_sem, ↓reduceIte, Nat.reduceAdd, Nat.reduceSub, Nat.reduceMul, Nat.reduceEqDiff, Nat.reduceLT, Nat.reduceLeDiff, Int.reduceToNat, Int.reduceLE, Int.reduceLT, Int.reduceEq, Int.reduceNeg, reduceCtorEq] <;> (try simp)
  · have : breaksO n k m z t p w = (0, 2) := by
      rcases no with h | h
      · rw [h.2] at e2; simp at e2
      · exact h
    rw [this]
  simp only [Bool.not_eq_false'] at e2
  simp only [decide_eq_false_iff_not] at e1
  have hf1 : fstI (offP n p) m 0 = -1 := by rw [← hf, show m - i = 0 by omega]; rfl
  have hw := in3_iff.1 e2
  obtain ⟨hs, hsp⟩ := firstT_spec c2 hw.2
  have hB : breaksO n k m z t p w = if 0 ≤ fstI (thinP' z p (t (firstT k t w) 1)) m 0 then (fstI (thinP' z p (t (firstT k t w) 1)) m 0, 0) else (0, 4) := by
    unfold breaksO; rw [if_pos ⟨c1, c2⟩, if_pos ⟨hf1, e2⟩]
  generalize firstT k t w = s at *
  have hpt : ∀ j, j < m → 0 ≤ p j 0 ∧ p j 0 ≤ (n : Int) - 1 := fun j hj => by
    have := fstI_none hf1 j (by omega) (by omega)
    simp only [offP, Bool.not_eq_false'] at this
    exact in3_iff.1 this
  clear no hf hi e1 hw2
  refine loop_of { c : Nat // c ≤ k } (fun c => [(12, .int .i64 ((k : Int) - 1 - (c.1 : Int))), (11, .int .i64 (if c.1 = 0 then 0 else t (max (k - c.1) s) 1)), (3, .int .i64 w), (2, .row m 1 fun i j => .int .i64 (p i j)), (1, .row k 2 fun i j => .int .i64 (t i j)), (0, .row n 4 fun i j => .int .i64 (z i j))]) (fun _ => ⟨[], []⟩) (fun c => k - c.1) (fun _ => ⟨rfl, rfl⟩) ⟨0, by omega⟩ (by (apply sub_of <;> simp only [go_sem, ↓reduceIte, Nat.reduceAdd, Nat.reduceSub, Nat.reduceMul, Nat.reduceEqDiff, Nat.reduceLT, Nat.reduceLeDiff, Int.reduceToNat, Int.reduceLE, Int.reduceLT, Int.reduceEq, Int.reduceNeg, reduceCtorEq] <;> (try simp [catF]))) ?_
  rintro ⟨c, hc⟩
  simp only [rink_eq, in_eq, rtable_eq, bTup, Try.f34, go_sem, ↓reduceIte, Nat.reduceAdd, Nat.reduceSub, Nat.reduceMul, Nat.reduceEqDiff, Nat.reduceLT, Nat.reduceLeDiff, Int.reduceToNat, Int.reduceLE, Int.reduceLT, Int.reduceEq, Int.reduceNeg, reduceCtorEq]
  have hw2 : IntKind.i64.wrap ((k : Int) - 1 - (c : Int) - 1) = (k : Int) - 1 - ((c + 1 : Nat) : Int) := by rw [wrap_id (by omega) (by omega)]; omega
  refine ⟨fun e3 => ?_, fun e3 => ?_⟩
  · simp only [decide_eq_true_eq] at e3
    have hcn : ((k : Int) - 1 - (c : Int)).toNat = k - 1 - c := by omega
    simp only [hcn]
    refine ⟨⟨by omega, by omega⟩, fun e4 => ⟨⟨by omega, by omega⟩, ?_⟩, fun e4 => ?_⟩
    · simp only [decide_eq_true_eq] at e4
      have := (hsp (k - 1 - c) (by omega)).1 e4
      have hm : max (k - (c + 1)) s = k - 1 - c := by omega
      refine ⟨⟨c + 1, by omega⟩, by simp only []; omega, ?_⟩
      apply sub_of <;> simp only [hw2, hm, go_sem, ↓reduceIte, Nat.reduceAdd, Nat.reduceSub, Nat.reduceMul, Nat.reduceEqDiff, Nat.reduceLT, Nat.reduceLeDiff, Int.reduceToNat, Int.reduceLE, Int.reduceLT, Int.reduceEq, Int.reduceNeg, reduceCtorEq] <;> (try simp)
    · simp only [decide_eq_false_iff_not] at e4
      have : ¬ s ≤ k - 1 - c := fun h => e4 ((hsp (k - 1 - c) (by omega)).2 h)
      have hm : max (k - (c + 1)) s = max (k - c) s := by omega
      have hc0 : c ≠ 0 := by omega
      refine ⟨⟨c + 1, by omega⟩, by simp only []; omega, ?_⟩
      apply sub_of <;> simp only [hw2, hm, go_sem, ↓reduceIte, Nat.reduceAdd, Nat.reduceSub, Nat.reduceMul, Nat.reduceEqDiff, Nat.reduceLT, Nat.reduceLeDiff, Int.reduceToNat, Int.reduceLE, Int.reduceLT, Int.reduceEq, Int.reduceNeg, reduceCtorEq] <;> (try simp [hc0])
  · simp only [decide_eq_false_iff_not] at e3
    obtain rfl : c = k := by omega
    have hm : (if c = 0 then 0 else t (max (c - c) s) 1) = t s 1 := by rw [if_neg (by omega)]; congr 2; omega
    simp only [hm]
    refine loop_of { i : Nat // i ≤ m ∧ fstI (thinP' z p (t s 1)) (m - i) i = fstI (thinP' z p (t s 1)) m 0 } (fun i => [(13, .int .i64 (i.1 : Int)), (11, .int .i64 (t s 1)), (2, .row m 1 fun i j => .int .i64 (p i j)), (0, .row n 4 fun i j => .int .i64 (z i j))]) (fun _ => ⟨[], []⟩) (fun i => m - i.1) (fun _ => ⟨rfl, rfl⟩) ⟨0, by omega, rfl⟩ (by (apply sub_of <;> simp only [go_sem, ↓reduceIte, Nat.reduceAdd, Nat.reduceSub, Nat.reduceMul, Nat.reduceEqDiff, Nat.reduceLT, Nat.reduceLeDiff, Int.reduceToNat, Int.reduceLE, Int.reduceLT, Int.reduceEq, Int.reduceNeg, reduceCtorEq] <;> (try simp [catF]))) ?_
    rintro ⟨i, hi, hf⟩
    simp only [rink_eq, in_eq, rtable_eq, bTup, Try.f34, go_sem, ↓reduceIte, Nat.reduceAdd, Nat.reduceSub, Nat.reduceMul, Nat.reduceEqDiff, Nat.reduceLT, Nat.reduceLeDiff, Int.reduceToNat, Int.reduceLE, Int.reduceLT, Int.reduceEq, Int.reduceNeg, reduceCtorEq]
    have hw2 : IntKind.i64.wrap ((i : Int) + 1) = ((i + 1 : Nat) : Int) := by rw [wrap_id (by omega) (by omega)]; omega
    refine ⟨fun e1 => ?_, fun e1 => ?_⟩
    · simp only [decide_eq_true_eq] at e1
      rw [fstI_cons (by omega)] at hf
      have hpi := hpt i (by omega)
      refine ⟨⟨by omega, by omega⟩, ⟨by omega, by omega⟩, fun e2 => ?_, fun e2 => ?_⟩
      · rw [if_pos (show thinP' z p (t s 1) i = true from e2)] at hf
        rw [← hf, if_pos (by omega)] at hB
        rw [hB]
      · rw [if_neg (show ¬ thinP' z p (t s 1) i = true by unfold thinP'; rw [e2]; simp)] at hf
        refine ⟨⟨i + 1, by omega, by rw [← hf]; congr 1⟩, by simp only []; omega, ?_⟩
        apply sub_of <;> simp only [hw2, go_sem, ↓reduceIte, Nat.reduceAdd, Nat.reduceSub, Nat.reduceMul, Nat.reduceEqDiff, Nat.reduceLT, Nat.reduceLeDiff, Int.reduceToNat, Int.reduceLE, Int.reduceLT, Int.reduceEq, Int.reduceNeg, reduceCtorEq] <;> (try simp)
    · simp only [decide_eq_false_iff_not] at e1
      have hf1 : fstI (thinP' z p (t s 1)) m 0 = -1 := by rw [← hf, show m - i = 0 by omega]; rfl
      rw [hf1, if_neg (by omega)] at hB
      rw [hB]
def breaksBase : BaseF := fun args => match args with
  | [.row n sz_z f_z, .row k sz_t f_t, .row m sz_p f_p, .int .i64 w] => some ((sz_z = 4 ∧ IntR n 4 f_z) ∧ (sz_t = 2 ∧ IntR k 2 f_t) ∧ (sz_p = 1 ∧ IntR m 1 f_p) ∧ (m ≤ 1000000), bTup (breaksO n k m (fun i j => iv (f_z i j)) (fun i j => iv (f_t i j)) (fun i j => iv (f_p i j)) w))
  | _ => none
theorem breaks_eq (n : Nat) (z : Nat → Nat → Int) (k : Nat) (t : Nat → Nat → Int) (m : Nat) (p : Nat → Nat → Int) (w : Int) : breaksBase [.row n 4 (fun i j => .int .i64 (z i j)), .row k 2 (fun i j => .int .i64 (t i j)), .row m 1 (fun i j => .int .i64 (p i j)), .int .i64 w] = some ((4 = 4 ∧ IntR n 4 (fun i j => .int .i64 (z i j))) ∧ (2 = 2 ∧ IntR k 2 (fun i j => .int .i64 (t i j))) ∧ (1 = 1 ∧ IntR m 1 (fun i j => .int .i64 (p i j))) ∧ (m ≤ 1000000), bTup (breaksO n k m z t p w)) := rfl
theorem breaks_base : Base Try.prog 33 breaksBase := by
  intro args p v hq hp
  unfold breaksBase at hq
  split at hq
  rotate_left
  · cases hq
  rename_i n sz_z f_z k sz_t f_t m sz_p f_p w
  cases hq
  obtain ⟨⟨rfl, i_z⟩, ⟨rfl, i_t⟩, ⟨rfl, i_p⟩, pre⟩ := hp
  refine base_of (C := cx [] [] [(37, rinkBase), (39, inBase), (57, tableBase)] [(33, 4, p33_4), (33, 6, p33_6), (60, 1, p60_1), (62, 1, p62_1)] none) (cx_ok trivial ⟨isRink_base, in2_base, table_base, trivial⟩) rfl (g := 33) (fn := Try.f33)
    (args' := [.row n 4 (rowF .i64 (fun i j => iv (f_z i j))), .row k 2 (rowF .i64 (fun i j => iv (f_t i j))), .row m 1 (rowF .i64 (fun i j => iv (f_p i j))), .int .i64 w]) (fn_33) rfl 1000 (by simp only [BdL, Bd, and_self, and_true, true_and]; exact ⟨fun i j hi hj => by rw [i_z i j hi hj]; trivial, fun i j hi hj => by rw [i_t i j hi hj]; trivial, fun i j hi hj => by rw [i_p i j hi hj]; trivial⟩) ⟨SameD.int i_z, SameD.int i_t, SameD.int i_p, SameD.rfl' _, trivial⟩ ?_
  generalize (fun i j => iv (f_z i j)) = z at *
  generalize (fun i j => iv (f_t i j)) = t at *
  generalize (fun i j => iv (f_p i j)) = p at *
  simp only [rowF_eq]
  simp only [rink_eq, in_eq, table_eq, p33_4, p33_6, p60_1, p62_1, bTup, Try.f42, Try.f58, Try.f59, Try.f60, Try.f61, Try.f62, Try.f33, go_sem, ↓reduceIte, Nat.reduceAdd, Nat.reduceSub, Nat.reduceMul, Nat.reduceEqDiff, Nat.reduceLT, Nat.reduceLeDiff, Int.reduceToNat, Int.reduceLE, Int.reduceLT, Int.reduceEq, Int.reduceNeg, reduceCtorEq]
  refine ⟨fun c1 => ?_, fun c1 => ⟨fun c2 => ?_, fun c2 => ?_⟩⟩
  · rw [show breaksO n k m z t p w = (0, 1) by simp at c1; simp [breaksO, c1]]
  · rw [show breaksO n k m z t p w = (0, 1) by simp at c1 c2; simp [breaksO, c1, c2]]
  simp only [Bool.not_eq_false'] at c1 c2
  have hb := rinkB_iff.1 c1
  obtain ⟨hk, ht⟩ := table_iff.1 c2
  have hn1 : IntKind.i64.wrap ((n : Int) - 1) = (n : Int) - 1 := wrap_id (by omega) (by omega)
  have hk1 : IntKind.i64.wrap ((k : Int) - 1) = (k : Int) - 1 := wrap_id (by omega) (by omega)
  have hk2 : ((k : Int) - 1).toNat = k - 1 := by omega
  have no : (fstI (offP n p) m 0 = -1 ∧ in3 w 1 (t (k - 1) 0) = true) ∨ breaksO n k m z t p w = (0, 2) := by
    by_cases h : fstI (offP n p) m 0 = -1 ∧ in3 w 1 (t (k - 1) 0) = true
    · exact .inl h
    · exact .inr (by unfold breaksO; rw [if_pos ⟨c1, c2⟩, if_neg h])
  refine ⟨⟨by kernel_rfl, by kernel_rfl⟩, ?_⟩
  refine loop_of { i : Nat // i ≤ m ∧ fstI (offP n p) (m - i) i = fstI (offP n p) m 0 } (fun i => [(8, .int .i64 (i.1 : Int)), (7, .int .i64 (m : Int)), (6, .row m 1 fun i j => .int .i64 (p i j)), (1, .func 58 [.ptr 0 0]), (0, .row m 1 fun i j => .int .i64 (p i j))]) (fun _ => ⟨[.live 22 [.row n 4 fun i j => .int .i64 (z i j)], .live 68 [.row k 2 fun i j => .int .i64 (t i j)], .live 3 [.int .i64 w]], []⟩) (fun i => m - i.1) (fun _ => ⟨rfl, rfl⟩) ⟨0, by omega, rfl⟩ (by (apply sub_of <;> simp only [go_sem, ↓reduceIte, Nat.reduceAdd, Nat.reduceSub, Nat.reduceMul, Nat.reduceEqDiff, Nat.reduceLT, Nat.reduceLeDiff, Int.reduceToNat, Int.reduceLE, Int.reduceLT, Int.reduceEq, Int.reduceNeg, reduceCtorEq] <;> (try simp [catF]))) ?_
  rintro ⟨i, hi, hf⟩
  simp only [rink_eq, in_eq, table_eq, p33_4, p33_6, p60_1, p62_1, bTup, Try.f42, Try.f58, Try.f59, Try.f60, Try.f61, Try.f62, Try.f33, go_sem, ↓reduceIte, Nat.reduceAdd, Nat.reduceSub, Nat.reduceMul, Nat.reduceEqDiff, Nat.reduceLT, Nat.reduceLeDiff, Int.reduceToNat, Int.reduceLE, Int.reduceLT, Int.reduceEq, Int.reduceNeg, reduceCtorEq]
  have hw2 : IntKind.i64.wrap ((i : Int) + 1) = ((i + 1 : Nat) : Int) := by rw [wrap_id (by omega) (by omega)]; omega
  simp only [hn1, hk1, hk2]
  refine ⟨fun e1 => ?_, fun e1 => ?_⟩
  · simp only [decide_eq_true_eq] at e1
    rw [fstI_cons (by omega)] at hf
    refine ⟨⟨by omega, by omega⟩, fun e2 => ?_, fun e2 => ?_⟩
    · rw [if_pos (by simpa [offP] using e2)] at hf
      refine ⟨fun _ => ?_, fun h => by simp at h⟩
      rcases no with h | h
      · rw [h.1] at hf; omega
      · rw [h]
    · rw [if_neg (by simpa [offP] using e2)] at hf
      refine ⟨⟨i + 1, by omega, by rw [← hf]; congr 1⟩, by simp only []; omega, ?_⟩
      apply sub_of <;> simp only [hw2, go_sem, ↓reduceIte, Nat.reduceAdd, Nat.reduceSub, Nat.reduceMul, Nat.reduceEqDiff, Nat.reduceLT, Nat.reduceLeDiff, Int.reduceToNat, Int.reduceLE, Int.reduceLT, Int.reduceEq, Int.reduceNeg, reduceCtorEq] <;> (try simp)
  simp only [decide_eq_false_iff_not] at e1
  have e0 : m - i = 0 := by omega
  rw [e0] at hf
  simp only [fstI] at hf
  refine ⟨by omega, fun e3 => ?_, fun e3 => ?_⟩
  · rcases no with h | h
    · rw [h.2] at e3; simp at e3
    · rw [h]
  simp only [Bool.not_eq_false'] at e3
  have hB : breaksO n k m z t p w = if 0 ≤ fstI (thinP' z p (t (firstT k t w) 1)) m 0 then (fstI (thinP' z p (t (firstT k t w) 1)) m 0, 0) else (0, 4) := by
    unfold breaksO
    rw [if_pos ⟨c1, c2⟩, if_pos ⟨hf.symm, e3⟩]
  have hp := fstI_none hf.symm
  rw [hB]
  obtain ⟨hs1, hs2⟩ := firstT_spec c2 (in3_iff.1 e3).2
  generalize hS : firstT k t w = S at *
  clear hf hB no hw2 hi e0 e1
  refine ⟨⟨by kernel_rfl, by kernel_rfl⟩, ?_, ?_⟩
  all_goals
    refine loop_ofH { q : Nat × Nat // q.1 ≤ S ∧ S ≤ q.2 ∧ q.2 ≤ k } (fun q => [(6, .int .i64 (q.1.2 : Int)), (5, .int .i64 (q.1.1 : Int)), (1, .func 60 [.ptr 1 0, .ptr 2 0])]) (fun h _ => h) (fun q => q.1.2 - q.1.1) (fun _ => ⟨rfl, rfl⟩) ⟨(0, k), by omega, by omega, by omega⟩ (by (apply sub_of <;> simp only [go_sem, ↓reduceIte, Nat.reduceAdd, Nat.reduceSub, Nat.reduceMul, Nat.reduceEqDiff, Nat.reduceLT, Nat.reduceLeDiff, Int.reduceToNat, Int.reduceLE, Int.reduceLT, Int.reduceEq, Int.reduceNeg, reduceCtorEq] <;> (try simp [catF]))) ?_
    rintro ⟨⟨a, b⟩, q1, q2, q3⟩
    simp only [] at q1 q2 q3
    simp only [rink_eq, in_eq, table_eq, p33_4, p33_6, p60_1, p62_1, bTup, Try.f42, Try.f58, Try.f59, Try.f60, Try.f61, Try.f62, Try.f33, go_sem, ↓reduceIte, Nat.reduceAdd, Nat.reduceSub, Nat.reduceMul, Nat.reduceEqDiff, Nat.reduceLT, Nat.reduceLeDiff, Int.reduceToNat, Int.reduceLE, Int.reduceLT, Int.reduceEq, Int.reduceNeg, reduceCtorEq]
    simp only [mid_eq (show a + b ≤ 100000 by omega)]
    refine ⟨fun d1 => ?_, fun d1 => ?_⟩
    · simp only [decide_eq_true_eq] at d1
      generalize hm : (a + b) / 2 = x
      have hx : a ≤ x ∧ x < b := by omega
      have hxk := hs2 x (by omega)
      have hw2 : IntKind.i64.wrap ((x : Int) + 1) = ((x + 1 : Nat) : Int) := by rw [wrap_id (by omega) (by omega)]; omega
      refine ⟨⟨by kernel_rfl, by kernel_rfl⟩, ⟨by omega, by omega⟩, fun d2 => ?_, fun d2 => ?_⟩
      · simp only [Bool.not_eq_true', decide_eq_false_iff_not, Int.toNat_natCast] at d2
        refine ⟨⟨(x + 1, b), by simp only []; omega, by simp only []; omega, by simp only []; omega⟩, by simp only []; omega, ?_⟩
        apply sub_of <;> simp only [hw2, go_sem, ↓reduceIte, Nat.reduceAdd, Nat.reduceSub, Nat.reduceMul, Nat.reduceEqDiff, Nat.reduceLT, Nat.reduceLeDiff, Int.reduceToNat, Int.reduceLE, Int.reduceLT, Int.reduceEq, Int.reduceNeg, reduceCtorEq] <;> (try simp)
      · simp only [Bool.not_eq_false', decide_eq_true_eq, Int.toNat_natCast] at d2
        refine ⟨⟨(a, x), by simp only []; omega, by simp only []; omega, by simp only []; omega⟩, by simp only []; omega, ?_⟩
        apply sub_of <;> simp only [go_sem, ↓reduceIte, Nat.reduceAdd, Nat.reduceSub, Nat.reduceMul, Nat.reduceEqDiff, Nat.reduceLT, Nat.reduceLeDiff, Int.reduceToNat, Int.reduceLE, Int.reduceLT, Int.reduceEq, Int.reduceNeg, reduceCtorEq] <;> (try simp)
    · simp only [decide_eq_false_iff_not] at d1
      obtain rfl : a = S := by omega
      have hpt : ∀ j, j < m → 0 ≤ p j 0 ∧ p j 0 ≤ (n : Int) - 1 := fun j hj => by
        have := hp j (by omega) (by omega)
        simp only [offP, Bool.not_eq_false'] at this
        exact in3_iff.1 this
      first | refine ⟨⟨by omega, by omega⟩, ⟨by omega, by omega⟩, ?_⟩ | refine ⟨⟨by omega, by omega⟩, ?_⟩
      refine loop_ofH { i : Nat // i ≤ m ∧ fstI (thinP' z p (t a 1)) (m - i) i = fstI (thinP' z p (t a 1)) m 0 } (fun i => [(8, .int .i64 (i.1 : Int)), (7, .int .i64 (m : Int)), (6, .row m 1 fun i j => .int .i64 (p i j)), (1, .func 62 [.ptr 0 0, .ptr 3 0]), (0, .row m 1 fun i j => .int .i64 (p i j))]) (fun h _ => h) (fun i => m - i.1) (fun _ => ⟨rfl, rfl⟩) ⟨0, by omega, rfl⟩ (by (apply sub_of <;> simp only [go_sem, ↓reduceIte, Nat.reduceAdd, Nat.reduceSub, Nat.reduceMul, Nat.reduceEqDiff, Nat.reduceLT, Nat.reduceLeDiff, Int.reduceToNat, Int.reduceLE, Int.reduceLT, Int.reduceEq, Int.reduceNeg, reduceCtorEq] <;> (try simp [catF]))) ?_
      rintro ⟨i, hi, hf⟩
      simp only [rink_eq, in_eq, table_eq, p33_4, p33_6, p60_1, p62_1, bTup, Try.f42, Try.f58, Try.f59, Try.f60, Try.f61, Try.f62, Try.f33, go_sem, ↓reduceIte, Nat.reduceAdd, Nat.reduceSub, Nat.reduceMul, Nat.reduceEqDiff, Nat.reduceLT, Nat.reduceLeDiff, Int.reduceToNat, Int.reduceLE, Int.reduceLT, Int.reduceEq, Int.reduceNeg, reduceCtorEq]
      have hw2 : IntKind.i64.wrap ((i : Int) + 1) = ((i + 1 : Nat) : Int) := by rw [wrap_id (by omega) (by omega)]; omega
      refine ⟨fun e1 => ?_, fun e1 => ?_⟩
      · simp only [decide_eq_true_eq] at e1
        rw [fstI_cons (by omega)] at hf
        have hpi := hpt i (by omega)
        refine ⟨⟨by omega, by omega⟩, ⟨by kernel_rfl, by kernel_rfl⟩, ⟨by omega, by omega⟩, fun e2 => ?_, fun e2 => ?_⟩
        · rw [if_pos (show thinP' z p (t a 1) i = true from e2)] at hf
          rw [← hf, if_pos (by omega)]
          refine ⟨fun _ => rfl, fun h => by simp at h⟩
        · rw [if_neg (show ¬ thinP' z p (t a 1) i = true by unfold thinP'; rw [e2]; simp)] at hf
          refine ⟨⟨i + 1, by omega, by rw [← hf]; congr 1⟩, by simp only []; omega, ?_⟩
          apply sub_of <;> simp only [hw2, go_sem, ↓reduceIte, Nat.reduceAdd, Nat.reduceSub, Nat.reduceMul, Nat.reduceEqDiff, Nat.reduceLT, Nat.reduceLeDiff, Int.reduceToNat, Int.reduceLE, Int.reduceLT, Int.reduceEq, Int.reduceNeg, reduceCtorEq] <;> (try simp)
      · simp only [decide_eq_false_iff_not] at e1
        have hf1 : fstI (thinP' z p (t a 1)) m 0 = -1 := by rw [← hf, show m - i = 0 by omega]; rfl
        rw [hf1, if_neg (by omega)]
end Go.Eng
end

/- IceOwns: its call returns true. -/
section
namespace Go.Eng
open Go Go.RowKit Go.Proofs
set_option maxRecDepth 100000
set_option maxHeartbeats 4000000
attribute [local irreducible] OwnT DefS
theorem keeps_at (n : Nat) (z : Nat → Nat → Int) (m : Nat) (l : Nat → Nat → Int) (days least most : Int) : keepsBase [.row n 4 (fun i j => .int .i64 (z i j)), .row m 5 (fun i j => .int .i64 (l i j)), .int .i64 days, .int .i64 least, .int .i64 most] =
    some ((4 = 4 ∧ IntR n 4 (fun i j => .int .i64 (z i j))) ∧ (5 = 5 ∧ IntR m 5 (fun i j => .int .i64 (l i j))), kTup (keepsO n m z l days least most)) := rfl
theorem rkeeps_at (n : Nat) (z : Nat → Nat → Int) (m : Nat) (l : Nat → Nat → Int) (days least most : Int) : rkeepsBase [.row n 4 (fun i j => .int .i64 (z i j)), .row m 5 (fun i j => .int .i64 (l i j)), .int .i64 days, .int .i64 least, .int .i64 most] =
    some ((4 = 4 ∧ IntR n 4 (fun i j => .int .i64 (z i j))) ∧ (5 = 5 ∧ IntR m 5 (fun i j => .int .i64 (l i j))), kTup (keepsO n m z l days least most)) := rfl
theorem own_upd (i a b : Nat) (z : Nat → Nat → Int) : (if a = i ∧ b = 0 then nth [SV.int .i64 (-1)] b else SV.int .i64 (if a < i ∧ b = 0 then -1 else z a b)) = .int .i64 (if a < i + 1 ∧ b = 0 then -1 else z a b) := by
  by_cases h : a = i ∧ b = 0
  · obtain ⟨rfl, rfl⟩ := h
    simp [nth]
  · rw [if_neg h]
    have : (a < i ∧ b = 0) ↔ (a < i + 1 ∧ b = 0) := by omega
    simp [this]
def iceOwnsBase : BaseF := fun args => match args with
  | [.row n sz_z f_z, .row m sz_l f_l, .int .i64 days, .int .i64 least, .int .i64 most] => some ((sz_z = 4 ∧ IntR n 4 f_z) ∧ (sz_l = 5 ∧ IntR m 5 f_l), .bool true)
  | _ => none
theorem iceOwns_eq (n : Nat) (z : Nat → Nat → Int) (m : Nat) (l : Nat → Nat → Int) (days : Int) (least : Int) (most : Int) : iceOwnsBase [.row n 4 (fun i j => .int .i64 (z i j)), .row m 5 (fun i j => .int .i64 (l i j)), .int .i64 days, .int .i64 least, .int .i64 most] = some ((4 = 4 ∧ IntR n 4 (fun i j => .int .i64 (z i j))) ∧ (5 = 5 ∧ IntR m 5 (fun i j => .int .i64 (l i j))), .bool true) := rfl
theorem iceOwns_base : Base Try.prog 9 iceOwnsBase := by
  intro args p v hq hp
  unfold iceOwnsBase at hq
  split at hq
  rotate_left
  · cases hq
  rename_i n sz_z f_z m sz_l f_l days least most
  cases hq
  obtain ⟨⟨rfl, i_z⟩, ⟨rfl, i_l⟩⟩ := hp
  refine base_of (C := cx [] [(19, 37, playBase)] [(13, aliveBase), (25, sameBase), (32, keepsBase)] [(9, 16, p9_16)] none) (cx_ok ⟨play_base, trivial⟩ ⟨alive_base, same_base, keeps_base, trivial⟩) rfl (g := 9) (fn := Try.f9)
    (args' := [.row n 4 (rowF .i64 (fun i j => iv (f_z i j))), .row m 5 (rowF .i64 (fun i j => iv (f_l i j))), .int .i64 days, .int .i64 least, .int .i64 most]) (fn_9) rfl 1000 (by simp only [BdL, Bd, and_self, and_true, true_and]; exact ⟨fun i j hi hj => by rw [i_z i j hi hj]; trivial, fun i j hi hj => by rw [i_l i j hi hj]; trivial⟩) ⟨SameD.int i_z, SameD.int i_l, SameD.rfl' _, SameD.rfl' _, SameD.rfl' _, trivial⟩ ?_
  generalize (fun i j => iv (f_z i j)) = z
  generalize (fun i j => iv (f_l i j)) = l
  simp only [rowF_eq]
  simp only [alive_eq, same_eq, p9_16, play_at, pTup, keeps_at, kTup, Try.f9, go_sem, ↓reduceIte, Nat.reduceAdd, Nat.reduceSub, Nat.reduceMul, Nat.reduceEqDiff, Nat.reduceLT, Nat.reduceLeDiff, Int.reduceToNat, Int.reduceLE, Int.reduceLT, Int.reduceEq, Int.reduceNeg, reduceCtorEq]
  have hpn := playT_n n m z l
  refine ⟨fun _ => True.intro, fun c1 => ⟨fun _ => True.intro, fun c2 => ?_⟩⟩
  simp only [decide_eq_false_iff_not] at c1 c2
  generalize hP : playT n m z l = P at *
  refine ⟨by omega, by omega, by omega, ?_⟩
  refine loop_of { i : Nat // i ≤ P.n } (fun i => [(52, .int .i64 (i.1 : Int)), (51, .int .i64 (P.n : Int)), (17, .vec 3 1), (16, .int .i64 P.e), (15, .int .i64 P.i), (13, .vec 2 0), (14, .ptr 0 0), (12, .vec 1 1), (11, .vec 0 1), (4, .int .i64 most), (3, .int .i64 least), (2, .int .i64 days), (1, .row m 5 fun i j => .int .i64 (l i j)), (0, .row n 4 fun i j => .int .i64 (z i j))])
    (fun i => ⟨[.live 44 [.int .i64 (P.s 0), .int .i64 (P.s 1), .int .i64 (P.s 2), .int .i64 (P.s 3), .int .i64 (P.s 4), .int .i64 (P.s 5)]], [.live 1 37 4 n fun a b => .int .i64 (z a b), .live 1 41 5 m fun a b => .int .i64 (l a b), .live 0 37 4 P.n fun a b => .int .i64 (if a < i.1 ∧ b = 0 then -1 else P.z a b), .live 1 37 4 P.n fun a b => .int .i64 (P.z a b)]⟩) (fun i => P.n - i.1) (fun _ => ⟨rfl, rfl⟩) ⟨0, by omega⟩ (by (apply sub_of <;> simp only [go_sem, ↓reduceIte, Nat.reduceAdd, Nat.reduceSub, Nat.reduceMul, Nat.reduceEqDiff, Nat.reduceLT, Nat.reduceLeDiff, Int.reduceToNat, Int.reduceLE, Int.reduceLT, Int.reduceEq, Int.reduceNeg, reduceCtorEq] <;> (try simp [catF]))) ?_
  rintro ⟨i, hi⟩
  simp only [alive_eq, same_eq, p9_16, play_at, pTup, keeps_at, kTup, Try.f9, go_sem, ↓reduceIte, Nat.reduceAdd, Nat.reduceSub, Nat.reduceMul, Nat.reduceEqDiff, Nat.reduceLT, Nat.reduceLeDiff, Int.reduceToNat, Int.reduceLE, Int.reduceLT, Int.reduceEq, Int.reduceNeg, reduceCtorEq]
  have hw2 : IntKind.i64.wrap ((i : Int) + 1) = ((i + 1 : Nat) : Int) := by rw [wrap_id (by omega) (by omega)]; omega
  refine ⟨fun d1 => ?_, fun d1 => ?_⟩
  · simp only [decide_eq_true_eq] at d1
    refine ⟨⟨by omega, by omega⟩, by omega, ⟨i + 1, by omega⟩, by simp only []; omega, ?_⟩
    apply sub_of <;> simp only [hw2, go_sem, ↓reduceIte, Nat.reduceAdd, Nat.reduceSub, Nat.reduceMul, Nat.reduceEqDiff, Nat.reduceLT, Nat.reduceLeDiff, Int.reduceToNat, Int.reduceLE, Int.reduceLT, Int.reduceEq, Int.reduceNeg, reduceCtorEq] <;> (try simp)
    exact fun a b _ _ => own_upd i a b P.z
  · simp only [decide_eq_false_iff_not] at d1
    simp only [hP]
    refine loop_of { j : Nat // j ≤ m } (fun j => [(78, .int .i64 (j.1 : Int)), (77, .int .i64 (m : Int)), (22, .int .i64 P.e), (21, .int .i64 P.i), (19, .vec 4 0), (20, .ptr 1 0), (17, .vec 3 1), (16, .int .i64 P.e), (15, .int .i64 P.i), (14, .ptr 0 0), (12, .vec 1 1), (11, .vec 0 1), (1, .row m 5 fun i j => .int .i64 (l i j)), (0, .row n 4 fun i j => .int .i64 (z i j))])
      (fun j => ⟨[.live 44 [.int .i64 (P.s 0), .int .i64 (P.s 1), .int .i64 (P.s 2), .int .i64 (P.s 3), .int .i64 (P.s 4), .int .i64 (P.s 5)], .live 44 [.int .i64 (P.s 0), .int .i64 (P.s 1), .int .i64 (P.s 2), .int .i64 (P.s 3), .int .i64 (P.s 4), .int .i64 (P.s 5)]], [.live 1 37 4 n fun a b => .int .i64 (z a b), .live 1 41 5 m fun a b => .int .i64 (l a b), .dead, .live 1 37 4 P.n fun a b => .int .i64 (P.z a b), .live 0 37 4 P.n fun a b => .int .i64 (P.z a b)]⟩) (fun j => m - j.1) (fun _ => ⟨rfl, rfl⟩) ⟨0, by omega⟩ (by (apply sub_of <;> simp only [go_sem, ↓reduceIte, Nat.reduceAdd, Nat.reduceSub, Nat.reduceMul, Nat.reduceEqDiff, Nat.reduceLT, Nat.reduceLeDiff, Int.reduceToNat, Int.reduceLE, Int.reduceLT, Int.reduceEq, Int.reduceNeg, reduceCtorEq] <;> (try simp [catF]))) ?_
    rintro ⟨j, hj⟩
    have hw3 : IntKind.i64.wrap ((j : Int) + 1) = ((j + 1 : Nat) : Int) := by rw [wrap_id (by omega) (by omega)]; omega
    simp only [sameB_self, alive_eq, same_eq, p9_16, play_at, pTup, keeps_at, kTup, Try.f9, go_sem, ↓reduceIte, Nat.reduceAdd, Nat.reduceSub, Nat.reduceMul, Nat.reduceEqDiff, Nat.reduceLT, Nat.reduceLeDiff, Int.reduceToNat, Int.reduceLE, Int.reduceLT, Int.reduceEq, Int.reduceNeg, reduceCtorEq]
    refine ⟨fun e1 => ?_, fun e1 => ⟨by omega, by omega⟩⟩
    simp only [decide_eq_true_eq] at e1
    refine ⟨⟨by kernel_rfl, by kernel_rfl⟩, ⟨by omega, by omega⟩, by omega, ⟨by omega, by omega⟩, ⟨j + 1, by omega⟩, by simp only []; omega, ?_⟩
    apply sub_of <;> simp only [hw3, go_sem, ↓reduceIte, Nat.reduceAdd, Nat.reduceSub, Nat.reduceMul, Nat.reduceEqDiff, Nat.reduceLT, Nat.reduceLeDiff, Int.reduceToNat, Int.reduceLE, Int.reduceLT, Int.reduceEq, Int.reduceNeg, reduceCtorEq] <;> (try simp)
end Go.Eng
end

/- IceKeeps: its call returns true. -/
section
namespace Go.Eng
open Go Go.RowKit Go.Proofs
set_option maxRecDepth 100000
set_option maxHeartbeats 4000000
attribute [local irreducible] OwnT DefS
def iceKeepsBase : BaseF := fun args => match args with
  | [.row n sz_z f_z, .row k sz_t f_t, .row m sz_p f_p, .int .i64 w, .row q sz_l f_l, .int .i64 days, .int .i64 least, .int .i64 most] => some ((sz_z = 4 ∧ IntR n 4 f_z) ∧ (sz_t = 2 ∧ IntR k 2 f_t) ∧ (sz_p = 1 ∧ IntR m 1 f_p) ∧ (sz_l = 5 ∧ IntR q 5 f_l), .bool true)
  | _ => none
theorem iceKeeps_eq (n : Nat) (z : Nat → Nat → Int) (k : Nat) (t : Nat → Nat → Int) (m : Nat) (p : Nat → Nat → Int) (w : Int) (q : Nat) (l : Nat → Nat → Int) (days : Int) (least : Int) (most : Int) : iceKeepsBase [.row n 4 (fun i j => .int .i64 (z i j)), .row k 2 (fun i j => .int .i64 (t i j)), .row m 1 (fun i j => .int .i64 (p i j)), .int .i64 w, .row q 5 (fun i j => .int .i64 (l i j)), .int .i64 days, .int .i64 least, .int .i64 most] = some ((4 = 4 ∧ IntR n 4 (fun i j => .int .i64 (z i j))) ∧ (2 = 2 ∧ IntR k 2 (fun i j => .int .i64 (t i j))) ∧ (1 = 1 ∧ IntR m 1 (fun i j => .int .i64 (p i j))) ∧ (5 = 5 ∧ IntR q 5 (fun i j => .int .i64 (l i j))), .bool true) := rfl
theorem iceKeeps_base : Base Try.prog 10 iceKeepsBase := by
  intro args p v hq hp
  unfold iceKeepsBase at hq
  split at hq
  rotate_left
  · cases hq
  rename_i n sz_z f_z k sz_t f_t m sz_p f_p w q sz_l f_l days least most
  cases hq
  obtain ⟨⟨rfl, i_z⟩, ⟨rfl, i_t⟩, ⟨rfl, i_p⟩, ⟨rfl, i_l⟩⟩ := hp
  refine base_of (C := cx [] [] [(27, manyBase), (13, aliveBase), (33, breaksBase), (34, rbreaksBase), (32, keepsBase), (35, rkeepsBase)] [] none) (cx_ok trivial ⟨many_base, alive_base, breaks_base, rbreaks_base, keeps_base, rkeeps_base, trivial⟩) rfl (g := 10) (fn := Try.f10)
    (args' := [.row n 4 (rowF .i64 (fun i j => iv (f_z i j))), .row k 2 (rowF .i64 (fun i j => iv (f_t i j))), .row m 1 (rowF .i64 (fun i j => iv (f_p i j))), .int .i64 w, .row q 5 (rowF .i64 (fun i j => iv (f_l i j))), .int .i64 days, .int .i64 least, .int .i64 most]) (fn_10) rfl 1000 (by simp only [BdL, Bd, and_self, and_true, true_and]; exact ⟨fun i j hi hj => by rw [i_z i j hi hj]; trivial, fun i j hi hj => by rw [i_t i j hi hj]; trivial, fun i j hi hj => by rw [i_p i j hi hj]; trivial, fun i j hi hj => by rw [i_l i j hi hj]; trivial⟩) ⟨SameD.int i_z, SameD.int i_t, SameD.int i_p, SameD.rfl' _, SameD.int i_l, SameD.rfl' _, SameD.rfl' _, SameD.rfl' _, trivial⟩ ?_
  generalize (fun i j => iv (f_z i j)) = z
  generalize (fun i j => iv (f_t i j)) = t
  generalize (fun i j => iv (f_p i j)) = p
  generalize (fun i j => iv (f_l i j)) = l
  simp only [rowF_eq]
  simp only [many_eq, alive_eq, breaks_eq, rbreaks_eq, kTup, bTup, keeps_at, rkeeps_at, Try.f10, go_sem, ↓reduceIte, Nat.reduceAdd, Nat.reduceSub, Nat.reduceMul, Nat.reduceEqDiff, Nat.reduceLT, Nat.reduceLeDiff, Int.reduceToNat, Int.reduceLE, Int.reduceLT, Int.reduceEq, Int.reduceNeg, reduceCtorEq]
  exact ⟨fun _ => trivial, fun _ => ⟨fun _ => trivial, fun _ => ⟨fun _ => trivial, fun c3 => ⟨fun _ => trivial, fun _ => by simp only [decide_eq_false_iff_not] at c3; omega⟩⟩⟩⟩
end Go.Eng
end

/- IceNames: its call returns true. -/
section
namespace Go.Eng
open Go Go.RowKit Go.Proofs
set_option maxRecDepth 100000
set_option maxHeartbeats 4000000
attribute [local irreducible] OwnT DefS
theorem thin_gen (n : Nat) (f : Nat → Nat → SV) (c : Int) : thinBase [.row n 4 f, .int .i64 c] = some ((4 = 4 ∧ IntR n 4 f), tTup (thinO n (fun i j => iv (f i j)) c)) := rfl
theorem breaks_gen (n k m : Nat) (f t p : Nat → Nat → SV) (w : Int) : breaksBase [.row n 4 f, .row k 2 t, .row m 1 p, .int .i64 w] = some ((4 = 4 ∧ IntR n 4 f) ∧ (2 = 2 ∧ IntR k 2 t) ∧ (1 = 1 ∧ IntR m 1 p) ∧ m ≤ 1000000, bTup (breaksO n k m (fun i j => iv (f i j)) (fun i j => iv (t i j)) (fun i j => iv (p i j)) w)) := rfl
theorem keeps_gen (n m : Nat) (f l : Nat → Nat → SV) (days least most : Int) : keepsBase [.row n 4 f, .row m 5 l, .int .i64 days, .int .i64 least, .int .i64 most] = some ((4 = 4 ∧ IntR n 4 f) ∧ (5 = 5 ∧ IntR m 5 l), kTup (keepsO n m (fun i j => iv (f i j)) (fun i j => iv (l i j)) days least most)) := rfl
theorem ints_gen (n m : Nat) (f l : Nat → Nat → SV) : intsBase [.row n 1 f, .row m 1 l] = some ((1 = 1 ∧ IntR n 1 f) ∧ (1 = 1 ∧ IntR m 1 l) ∧ n ≤ 1000000, .bool (intsB n m (fun i j => iv (f i j)) (fun i j => iv (l i j)))) := rfl
def iceNamesBase : BaseF := fun args => match args with
  | [] => some (True, .bool true)
  | _ => none
theorem iceNames_eq  : iceNamesBase [] = some (True, .bool true) := rfl
theorem iceNames_base : Base Try.prog 12 iceNamesBase := by
  intro args p v hq hp
  unfold iceNamesBase at hq
  split at hq
  rotate_left
  · cases hq
  cases hq
  refine base_of (C := cx [] [(19, 37, playBase), (29, 3, thinBase)] [(13, aliveBase), (14, waterBase), (23, spanBase), (31, intsBase), (32, keepsBase), (33, breaksBase)] [] none) (cx_ok ⟨play_base, thin_base, trivial⟩ ⟨alive_base, water_base, span_base, ints_base, keeps_base, breaks_base, trivial⟩) rfl (g := 12) (fn := Try.f12)
    (args' := []) (fn_12) rfl 1000 (by simp only [BdL, Bd, and_self]) trivial ?_
  simp only [alive_eq, span_eq, kTup, bTup, breaks_gen, keeps_gen, ints_gen, play_gen, thin_gen, water_gen, pTup, tTup, spanT, Try.f36, Try.f12, go_sem, ↓reduceIte, Nat.reduceAdd, Nat.reduceSub, Nat.reduceMul, Nat.reduceEqDiff, Nat.reduceLT, Nat.reduceLeDiff, Int.reduceToNat, Int.reduceLE, Int.reduceLT, Int.reduceEq, Int.reduceNeg, reduceCtorEq]
  repeat' first | exact intR_of (by kernel_rfl) | refine spl_t (by kernel_rfl) ?_ | refine And.intro ?_ ?_ | exact congrArg SV.bool (by kernel_rfl) | exact of_decide_eq_true (by kernel_rfl)
end Go.Eng
end

/-
  IceNames: for every input the law returns true, and each argument reads afterwards as it read before. No condition.
-/
section
namespace Go.Proofs.Ytmpcdcphgepeiaa.iceNames
open Go.ChangeShapes Go.WideShapes Go.ChangeAt Go.RowKit Go.Eng
set_option linter.unusedVariables false
theorem own : ownKnob Try.prog.godebug = none := by kernel_rfl
theorem laid : laidOutB Try.prog = true := by kernel_rfl
set_option maxRecDepth 100000 in
theorem lifted (os : Os) (started : os.Started) (H : Type) (enc : TypeId × Value → H) :
    ReturnsInHanded {} Try.checked os 12 .any (Rows.iceNamesSpec.pre6 enc Try.prog Try.f12 Rows.iceNamesRow.domain false) (Rows.iceNamesSpec.post enc Try.prog Try.f12 false true false false) := by
  refine returnsInHanded_of_change (C := Try.checked) own started (by kernel_rfl) Try.func12
    (ChangeSpec.witness6 (enc := enc) (C := Try.checked) false ⟨#[], #[], []⟩ 8 (by kernel_rfl) (by kernel_rfl) (by kernel_rfl) (by kernel_rfl)) ?_
  intro W base args ds gs before hval0 hW hcnd _
  have hval : ∀ (j : Nat) t v, Try.f12.params[j]? = some t → args[j]? = some v → Value.okWide Try.prog W .any base t v := hval0
  have hW' := hW
  obtain ⟨p, q, hA0, hV, rfl, hfz, hnd⟩ := hW
  have hA : DataW.TrodAll enc Try.prog W 0 (fun _ => true) true Try.f12.params.toList args.toList ds p := hA0
  rw [Try.params12] at hA hval
  obtain ⟨rfl, rfl, rfl⟩ := trodAll_none hA
  obtain ⟨rfl, rfl⟩ := trodVars_none hV
  have hd : DenL Env.emp W [] [] := trivial
  refine (law_calls iceNames_base (args := []) rfl trivial (denA_of hd)).mono fun e W' ⟨he, hb⟩ => ?_
  subst he
  exact ⟨_, rfl, law_end laid rfl Try.underlying4 (by kernel_rfl) rfl hW' rfl hb⟩
theorem over : Rows.iceNamesRow.holds Try.pinned (OpenSpec.ofChange Rows.iceNamesSpec) :=
  OpenClaim.holds_of_wide 12 Try.f12 rfl rfl rfl rfl rfl rfl rfl ⟨rfl, rfl, rfl, rfl, rfl⟩ rfl rfl rfl rfl rfl (by kernel_rfl) Try.func12 (by kernel_rfl)
    (of_decide_eq_true (by kernel_rfl)) (by unfold Func.isWrapper; first | (rw [if_pos (by decide +kernel)]; kernel_rfl) | (rw [if_neg (by decide +kernel)]; exact ⟨rfl, rfl⟩))
    (fun os started H enc _ => lifted os started H enc)
end Go.Proofs.Ytmpcdcphgepeiaa.iceNames
namespace Go.Proofs.Ytmpcdcphgepeiaa
/-- The given statement. -/
theorem iceNames_holds : Rows.IceNamesSaid := iceNames.over
#print axioms iceNames_holds
end Go.Proofs.Ytmpcdcphgepeiaa
end
