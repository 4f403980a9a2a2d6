/-
  IceHolds: for every input the law returns true, and each argument reads afterwards as it read before. No condition.
-/
import Derived.Test.YtmpcdcphgepeiaaRows
import Derived.WalkKit
import Derived.Test.YtmpcdcphgepeiaaBR
set_option linter.unusedSimpArgs false
set_option linter.unusedVariables false
/- Tables, and where a machine breaks in: the plain words. -/
section
namespace Go.Eng
open Go Go.RowKit Go.Proofs
set_option maxRecDepth 100000
set_option maxHeartbeats 4000000
attribute [local irreducible] OwnT DefS
def okT (t : Nat → Nat → Int) (i : Nat) : Bool := (in3 (t i 0) 1 100000 && in3 (t i 1) 0 20000) && (decide (i = 0) || (decide (t (i - 1) 0 < t i 0) && decide (t (i - 1) 1 < t i 1)))
def tableB (k : Nat) (t : Nat → Nat → Int) : Bool := in3 k 1 16 && allU (okT t) k
def rtableBase : BaseF := fun args => match args with
  | [.row k sz_t f_t] => some ((sz_t = 2 ∧ IntR k 2 f_t), .bool (tableB k (fun i j => iv (f_t i j))))
  | _ => none
theorem rtable_eq (k : Nat) (t : Nat → Nat → Int) : rtableBase [.row k 2 (fun i j => .int .i64 (t i j))] = some ((2 = 2 ∧ IntR k 2 (fun i j => .int .i64 (t i j))), .bool (tableB k t)) := rfl
theorem rtable_base : Base Try.prog 63 rtableBase := by
  intro args p v hq hp
  unfold rtableBase at hq
  split at hq
  rotate_left
  · cases hq
  rename_i k sz_t f_t
  cases hq
  obtain ⟨rfl, i_t⟩ := hp
  refine base_of (C := cx [] [] [(49, inBase)] [(63, 6, p63_6)] none) (cx_ok trivial ⟨in_base, trivial⟩) rfl (g := 63) (fn := Try.f63)
    (args' := [.row k 2 (rowF .i64 (fun i j => iv (f_t i j)))]) (fn_63) rfl 1000 (by simp only [BdL, Bd, and_self, and_true, true_and]; exact fun i j hi hj => by rw [i_t i j hi hj]; trivial) ⟨SameD.int i_t, trivial⟩ ?_
  generalize (fun i j => iv (f_t i j)) = t
  simp only [rowF_eq]
  simp only [in_eq, p63_6, Try.f63, go_sem, ↓reduceIte, Nat.reduceAdd, Nat.reduceSub, Nat.reduceMul, Nat.reduceEqDiff, Nat.reduceLT, Nat.reduceLeDiff, Int.reduceToNat, Int.reduceLE, Int.reduceLT, Int.reduceEq, Int.reduceNeg, reduceCtorEq]
  refine loop_of { i : Nat // i ≤ k ∧ i ≤ 17 ∧ ∀ j, j < i → okT t j = true } (fun i => [(3, .int .i64 (i.1 : Int)), (0, .row k 2 fun i j => .int .i64 (t i j))]) (fun _ => ⟨[], []⟩) (fun i => k - i.1) (fun _ => ⟨rfl, rfl⟩) ⟨0, by omega, by omega, by omega⟩ (by (apply sub_of <;> simp only [go_sem, ↓reduceIte, Nat.reduceAdd, Nat.reduceSub, Nat.reduceMul, Nat.reduceEqDiff, Nat.reduceLT, Nat.reduceLeDiff, Int.reduceToNat, Int.reduceLE, Int.reduceLT, Int.reduceEq, Int.reduceNeg, reduceCtorEq] <;> (try simp [catF]))) ?_
  rintro ⟨i, h1, h2, h3⟩
  simp only [in_eq, p63_6, Try.f63, go_sem, ↓reduceIte, Nat.reduceAdd, Nat.reduceSub, Nat.reduceMul, Nat.reduceEqDiff, Nat.reduceLT, Nat.reduceLeDiff, Int.reduceToNat, Int.reduceLE, Int.reduceLT, Int.reduceEq, Int.reduceNeg, reduceCtorEq]
  have hw3 : IntKind.i64.wrap ((i : Int) + 1) = ((i + 1 : Nat) : Int) := by rw [wrap_id (by omega) (by omega)]; omega
  have hw4 : 0 < i → IntKind.i64.wrap ((i : Int) - 1) = ((i - 1 : Nat) : Int) := fun h => by rw [wrap_id (by omega) (by omega)]; omega
  have bad : i < k → okT t i = false → SV.bool false = .bool (tableB k t) := fun hi h => by unfold tableB; rw [allU_false hi h, Bool.and_false]
  have fin : (i = k ∨ i = 17) → SV.bool (in3 k 1 16) = .bool (tableB k t) := fun h => by
    congr 1
    unfold tableB
    cases hc : in3 (k : Int) 1 16 with
    | false => rfl
    | true =>
      have := in3_iff.1 hc
      rw [Bool.true_and]
      exact (allU_iff.2 fun j hj => h3 j (by omega)).symm
  refine ⟨fun e1 => ⟨fun e2 => ?_, fun e2 => ?_⟩, fun e1 => ?_⟩
  · simp only [decide_eq_true_eq] at e1 e2
    have ik : i < k := by omega
    refine ⟨⟨by omega, by omega⟩, fun e3 => bad ik (by simp only [Bool.not_eq_true'] at e3; simp [okT, e3]), fun e3 => ⟨⟨by omega, by omega⟩, fun e4 => bad ik (by simp only [Bool.not_eq_true'] at e4; simp [okT, e4]), fun e4 => ⟨⟨by kernel_rfl, by kernel_rfl⟩, fun e5 => ?_, fun e5 => ?_⟩⟩⟩
    · simp only [decide_eq_true_eq] at e5
      simp only [Bool.not_eq_false'] at e3 e4
      have i0 : 0 < i := by omega
      simp only [hw4 i0, Int.toNat_natCast]
      refine ⟨⟨by omega, by omega⟩, ⟨by omega, by omega⟩, fun e6 => bad ik ?_, fun e6 => ⟨⟨by omega, by omega⟩, ⟨by omega, by omega⟩, fun e7 => bad ik ?_, fun e7 => ?_⟩⟩
      · simp only [decide_eq_true_eq] at e6
        have h0 : i ≠ 0 := by omega
        have h6 : ¬ t (i - 1) 0 < t i 0 := by omega
        simp [okT, h0, h6]
      · simp only [decide_eq_true_eq] at e7
        have h0 : i ≠ 0 := by omega
        have h6 : ¬ t (i - 1) 1 < t i 1 := by omega
        simp [okT, h0, h6]
      · simp only [decide_eq_false_iff_not] at e6 e7
        refine ⟨⟨i + 1, by omega, by omega, fun j hj => ?_⟩, by simp only []; omega, ?_⟩
        · rcases Nat.lt_or_ge j i with h | h
          · exact h3 j h
          · obtain rfl : j = i := by omega
            have h6 : t (j - 1) 0 < t j 0 := by omega
            have h7 : t (j - 1) 1 < t j 1 := by omega
            simp [okT, e3, e4, h6, h7]
        · apply sub_of <;> simp only [hw3, go_sem, ↓reduceIte, Nat.reduceAdd, Nat.reduceSub, Nat.reduceMul, Nat.reduceEqDiff, Nat.reduceLT, Nat.reduceLeDiff, Int.reduceToNat, Int.reduceLE, Int.reduceLT, Int.reduceEq, Int.reduceNeg, reduceCtorEq] <;> (try simp)
    · simp only [decide_eq_false_iff_not] at e5
      simp only [Bool.not_eq_false'] at e3 e4
      obtain rfl : i = 0 := by omega
      refine ⟨⟨1, by omega, by omega, fun j hj => ?_⟩, by simp only []; omega, ?_⟩
      · obtain rfl : j = 0 := by omega
        simp [okT, e3, e4]
      · apply sub_of <;> simp only [hw3, go_sem, ↓reduceIte, Nat.reduceAdd, Nat.reduceSub, Nat.reduceMul, Nat.reduceEqDiff, Nat.reduceLT, Nat.reduceLeDiff, Int.reduceToNat, Int.reduceLE, Int.reduceLT, Int.reduceEq, Int.reduceNeg, reduceCtorEq] <;> (try simp)
  · simp only [decide_eq_false_iff_not] at e2
    exact fin (.inr (by omega))
  · simp only [decide_eq_false_iff_not] at e1
    exact fin (.inl (by omega))
def tableBase : BaseF := fun args => match args with
  | [.row k sz_t f_t] => some ((sz_t = 2 ∧ IntR k 2 f_t), .bool (tableB k (fun i j => iv (f_t i j))))
  | _ => none
theorem table_eq (k : Nat) (t : Nat → Nat → Int) : tableBase [.row k 2 (fun i j => .int .i64 (t i j))] = some ((2 = 2 ∧ IntR k 2 (fun i j => .int .i64 (t i j))), .bool (tableB k t)) := rfl
theorem table_base : Base Try.prog 57 tableBase := by
  intro args p v hq hp
  unfold tableBase at hq
  split at hq
  rotate_left
  · cases hq
  rename_i k sz_t f_t
  cases hq
  obtain ⟨rfl, i_t⟩ := hp
  refine base_of (C := cx [] [] [(39, inBase)] [(78, 4, p78_4)] none) (cx_ok trivial ⟨in2_base, trivial⟩) rfl (g := 57) (fn := Try.f57)
    (args' := [.row k 2 (rowF .i64 (fun i j => iv (f_t i j)))]) (fn_57) rfl 1000 (by simp only [BdL, Bd, and_self, and_true, true_and]; exact fun i j hi hj => by rw [i_t i j hi hj]; trivial) ⟨SameD.int i_t, trivial⟩ ?_
  generalize (fun i j => iv (f_t i j)) = t
  simp only [rowF_eq]
  simp only [in_eq, p78_4, Try.f75, Try.f76, Try.f77, Try.f78, Try.f79, Try.f89, Try.f57, go_sem, ↓reduceIte, Nat.reduceAdd, Nat.reduceSub, Nat.reduceMul, Nat.reduceEqDiff, Nat.reduceLT, Nat.reduceLeDiff, Int.reduceToNat, Int.reduceLE, Int.reduceLT, Int.reduceEq, Int.reduceNeg, reduceCtorEq]
  refine ⟨fun c1 => ?_, fun c1 => ?_⟩
  rotate_left
  · unfold tableB; rw [c1]; rfl
  have hk := in3_iff.1 c1
  refine loop_of { i : Nat // 1 ≤ i ∧ i ≤ k ∧ ∀ j, 1 ≤ j → j < i → t (j - 1) 0 < t j 0 } (fun i => [(5, .int .i64 (i.1 : Int)), (1, .func 75 []), (0, .row k 2 fun i j => .int .i64 (t i j))]) (fun _ => ⟨[], []⟩) (fun i => k - i.1) (fun _ => ⟨rfl, rfl⟩) ⟨1, by omega, by omega, by omega⟩ (by (apply sub_of <;> simp only [go_sem, ↓reduceIte, Nat.reduceAdd, Nat.reduceSub, Nat.reduceMul, Nat.reduceEqDiff, Nat.reduceLT, Nat.reduceLeDiff, Int.reduceToNat, Int.reduceLE, Int.reduceLT, Int.reduceEq, Int.reduceNeg, reduceCtorEq] <;> (try simp [catF]))) ?_
  rintro ⟨i, h1, h2, h3⟩
  simp only [in_eq, p78_4, Try.f75, Try.f76, Try.f77, Try.f78, Try.f79, Try.f89, Try.f57, go_sem, ↓reduceIte, Nat.reduceAdd, Nat.reduceSub, Nat.reduceMul, Nat.reduceEqDiff, Nat.reduceLT, Nat.reduceLeDiff, Int.reduceToNat, Int.reduceLE, Int.reduceLT, Int.reduceEq, Int.reduceNeg, reduceCtorEq]
  have hw3 : IntKind.i64.wrap ((i : Int) + 1) = ((i + 1 : Nat) : Int) := by rw [wrap_id (by omega) (by omega)]; omega
  have hw4 : IntKind.i64.wrap ((i : Int) - 1) = ((i - 1 : Nat) : Int) := by rw [wrap_id (by omega) (by omega)]; omega
  simp only [hw4]
  have bad : ∀ {i}, i < k → okT t i = false → SV.bool false = .bool (tableB k t) := fun hi h => by unfold tableB; rw [allU_false hi h, Bool.and_false]
  refine ⟨fun e1 => ?_, fun e1 => ?_⟩
  · simp only [decide_eq_true_eq] at e1
    simp only [Int.toNat_natCast]
    refine ⟨⟨by kernel_rfl, by kernel_rfl⟩, ⟨by omega, by omega⟩, ⟨by omega, by omega⟩, ⟨by omega, by omega⟩, fun e2 => bad (show i < k by omega) ?_, fun e2 => ?_⟩
    · simp only [decide_eq_true_eq] at e2
      have h0 : i ≠ 0 := by omega
      have h6 : ¬ t (i - 1) 0 < t i 0 := by omega
      simp [okT, h0, h6]
    · simp only [decide_eq_false_iff_not] at e2
      refine ⟨⟨i + 1, by omega, by omega, fun j hj1 hj2 => ?_⟩, by simp only []; omega, ?_⟩
      · rcases Nat.lt_or_ge j i with h | h
        · exact h3 j hj1 h
        · obtain rfl : j = i := by omega
          omega
      · apply sub_of <;> simp only [hw3, go_sem, ↓reduceIte, Nat.reduceAdd, Nat.reduceSub, Nat.reduceMul, Nat.reduceEqDiff, Nat.reduceLT, Nat.reduceLeDiff, Int.reduceToNat, Int.reduceLE, Int.reduceLT, Int.reduceEq, Int.reduceNeg, reduceCtorEq] <;> (try simp)
  · simp only [decide_eq_false_iff_not] at e1
    have up0 : ∀ j, 1 ≤ j → j < k → t (j - 1) 0 < t j 0 := fun j a b => h3 j a (by omega)
    clear h3 hw3 hw4
    refine loop_of { i : Nat // 1 ≤ i ∧ i ≤ k ∧ ∀ j, 1 ≤ j → j < i → t (j - 1) 1 < t j 1 } (fun i => [(5, .int .i64 (i.1 : Int)), (1, .func 76 []), (0, .row k 2 fun i j => .int .i64 (t i j))]) (fun _ => ⟨[], []⟩) (fun i => k - i.1) (fun _ => ⟨rfl, rfl⟩) ⟨1, by omega, by omega, by omega⟩ (by (apply sub_of <;> simp only [go_sem, ↓reduceIte, Nat.reduceAdd, Nat.reduceSub, Nat.reduceMul, Nat.reduceEqDiff, Nat.reduceLT, Nat.reduceLeDiff, Int.reduceToNat, Int.reduceLE, Int.reduceLT, Int.reduceEq, Int.reduceNeg, reduceCtorEq] <;> (try simp [catF]))) ?_
    clear e1 h2 h1 i
    rintro ⟨i, h1, h2, h3⟩
    simp only [in_eq, p78_4, Try.f75, Try.f76, Try.f77, Try.f78, Try.f79, Try.f89, Try.f57, go_sem, ↓reduceIte, Nat.reduceAdd, Nat.reduceSub, Nat.reduceMul, Nat.reduceEqDiff, Nat.reduceLT, Nat.reduceLeDiff, Int.reduceToNat, Int.reduceLE, Int.reduceLT, Int.reduceEq, Int.reduceNeg, reduceCtorEq]
    have hw3 : IntKind.i64.wrap ((i : Int) + 1) = ((i + 1 : Nat) : Int) := by rw [wrap_id (by omega) (by omega)]; omega
    have hw4 : IntKind.i64.wrap ((i : Int) - 1) = ((i - 1 : Nat) : Int) := by rw [wrap_id (by omega) (by omega)]; omega
    simp only [hw4]
    refine ⟨fun e1 => ?_, fun e1 => ?_⟩
    · simp only [decide_eq_true_eq] at e1
      simp only [Int.toNat_natCast]
      refine ⟨⟨by kernel_rfl, by kernel_rfl⟩, ⟨by omega, by omega⟩, ⟨by omega, by omega⟩, ⟨by omega, by omega⟩, fun e2 => bad (show i < k by omega) ?_, fun e2 => ?_⟩
      · simp only [decide_eq_true_eq] at e2
        have h0 : i ≠ 0 := by omega
        have h6 : ¬ t (i - 1) 1 < t i 1 := by omega
        simp [okT, h0, h6]
      · simp only [decide_eq_false_iff_not] at e2
        refine ⟨⟨i + 1, by omega, by omega, fun j hj1 hj2 => ?_⟩, by simp only []; omega, ?_⟩
        · rcases Nat.lt_or_ge j i with h | h
          · exact h3 j hj1 h
          · obtain rfl : j = i := by omega
            omega
        · apply sub_of <;> simp only [hw3, go_sem, ↓reduceIte, Nat.reduceAdd, Nat.reduceSub, Nat.reduceMul, Nat.reduceEqDiff, Nat.reduceLT, Nat.reduceLeDiff, Int.reduceToNat, Int.reduceLE, Int.reduceLT, Int.reduceEq, Int.reduceNeg, reduceCtorEq] <;> (try simp)
    · simp only [decide_eq_false_iff_not] at e1
      have up1 : ∀ j, 1 ≤ j → j < k → t (j - 1) 1 < t j 1 := fun j a b => h3 j a (by omega)
      clear h3 hw3 hw4
      refine loop_of { i : Nat // i ≤ k ∧ ∀ j, j < i → (in3 (t j 0) 1 100000 && in3 (t j 1) 0 20000) = true } (fun i => [(8, .int .i64 (i.1 : Int)), (7, .int .i64 (k : Int)), (1, .func 77 []), (0, .row k 2 fun i j => .int .i64 (t i j))]) (fun _ => ⟨[], []⟩) (fun i => k - i.1) (fun _ => ⟨rfl, rfl⟩) ⟨0, by omega, by omega⟩ (by (apply sub_of <;> simp only [go_sem, ↓reduceIte, Nat.reduceAdd, Nat.reduceSub, Nat.reduceMul, Nat.reduceEqDiff, Nat.reduceLT, Nat.reduceLeDiff, Int.reduceToNat, Int.reduceLE, Int.reduceLT, Int.reduceEq, Int.reduceNeg, reduceCtorEq] <;> (try simp [catF]))) ?_
      clear e1 h2 h1 i
      rintro ⟨i, h2, h3⟩
      simp only [in_eq, p78_4, Try.f75, Try.f76, Try.f77, Try.f78, Try.f79, Try.f89, Try.f57, go_sem, ↓reduceIte, Nat.reduceAdd, Nat.reduceSub, Nat.reduceMul, Nat.reduceEqDiff, Nat.reduceLT, Nat.reduceLeDiff, Int.reduceToNat, Int.reduceLE, Int.reduceLT, Int.reduceEq, Int.reduceNeg, reduceCtorEq]
      have hw3 : IntKind.i64.wrap ((i : Int) + 1) = ((i + 1 : Nat) : Int) := by rw [wrap_id (by omega) (by omega)]; omega
      have h0 : (!decide ((0 : Int) ≤ (i : Int))) = false := by simp
      rw [h0]
      refine ⟨fun e1 => ?_, fun e1 => ?_⟩
      · simp only [decide_eq_true_eq] at e1
        refine ⟨⟨by omega, by omega⟩, fun e2 => bad (show i < k by omega) (by simp only [Bool.not_eq_true'] at e2; simp [okT, e2]), fun e2 => ⟨fun e3 => bad (show i < k by omega) (by simp only [Bool.not_eq_true'] at e3; simp [okT, e3]), fun e3 => ?_⟩⟩
        simp only [Bool.not_eq_false'] at e2 e3
        refine ⟨⟨i + 1, by omega, fun j hj => ?_⟩, by simp only []; omega, ?_⟩
        · rcases Nat.lt_or_ge j i with h | h
          · exact h3 j h
          · obtain rfl : j = i := by omega
            rw [e2, e3]; rfl
        · apply sub_of <;> simp only [hw3, go_sem, ↓reduceIte, Nat.reduceAdd, Nat.reduceSub, Nat.reduceMul, Nat.reduceEqDiff, Nat.reduceLT, Nat.reduceLeDiff, Int.reduceToNat, Int.reduceLE, Int.reduceLT, Int.reduceEq, Int.reduceNeg, reduceCtorEq] <;> (try simp)
      · simp only [decide_eq_false_iff_not] at e1
        congr 1
        unfold tableB
        rw [c1, Bool.true_and]
        refine (allU_iff.2 fun j hj => ?_).symm
        have h4 := h3 j (by omega)
        unfold okT
        rw [h4, Bool.true_and]
        by_cases hj0 : j = 0
        · simp [hj0]
        · have := up0 j (by omega) hj
          have := up1 j (by omega) hj
          simp [*]
end Go.Eng
end

/- Breaks and its twin. -/
section
namespace Go.Eng
open Go Go.RowKit Go.Proofs
set_option maxRecDepth 100000
set_option maxHeartbeats 4000000
attribute [local irreducible] OwnT DefS
/-- The first bearing that holds so much. -/
def firstT (k : Nat) (t : Nat → Nat → Int) (w : Int) : Nat := (fstI (fun i => decide (w ≤ t i 0)) k 0).toNat
def offP (n : Nat) (p : Nat → Nat → Int) : Nat → Bool := fun i => !in3 (p i 0) 0 (n - 1)
def thinP' (z : Nat → Nat → Int) (p : Nat → Nat → Int) (need : Int) : Nat → Bool := fun i => decide (z (p i 0).toNat 0 < need)
def breaksO (n k m : Nat) (z t p : Nat → Nat → Int) (w : Int) : Int × Int :=
  if rinkB n z = true ∧ tableB k t = true then
    if fstI (offP n p) m 0 = -1 ∧ in3 w 1 (t (k - 1) 0) = true then
      (if 0 ≤ fstI (thinP' z p (t (firstT k t w) 1)) m 0 then (fstI (thinP' z p (t (firstT k t w) 1)) m 0, 0) else (0, 4))
    else (0, 2)
  else (0, 1)
def bTup (v : Int × Int) : SV := .tup [.int .i64 v.1, .int .i64 v.2]
theorem table_iff {k : Nat} {t : Nat → Nat → Int} : tableB k t = true ↔ (1 ≤ k ∧ k ≤ 16) ∧ ∀ i, i < k → okT t i = true := by
  simp only [tableB, Bool.and_eq_true, in3_iff, allU_iff]
  constructor
  · rintro ⟨⟨a, b⟩, c⟩; exact ⟨⟨by omega, by omega⟩, c⟩
  · rintro ⟨⟨a, b⟩, c⟩; exact ⟨⟨by omega, by omega⟩, c⟩
theorem table_up {k : Nat} {t : Nat → Nat → Int} (h : ∀ i, i < k → okT t i = true) (c : Nat) (hc : c < 2) : ∀ d i, i + d < k → t i c ≤ t (i + d) c
  | 0, i, _ => Int.le_refl _
  | d + 1, i, hi => by
    have h1 := table_up h c hc d i (by omega)
    have h2 := h (i + d + 1) (by omega)
    simp only [okT, Bool.and_eq_true, Bool.or_eq_true, decide_eq_true_eq, Nat.add_sub_cancel] at h2
    have hc' : c = 0 ∨ c = 1 := by omega
    rcases hc' with rfl | rfl
    · have : t (i + d) 0 < t (i + d + 1) 0 := by omega
      rw [show i + (d + 1) = i + d + 1 by omega]; omega
    · have : t (i + d) 1 < t (i + d + 1) 1 := by omega
      rw [show i + (d + 1) = i + d + 1 by omega]; omega
theorem firstT_spec {k : Nat} {t : Nat → Nat → Int} {w : Int} (h : tableB k t = true) (hw : w ≤ t (k - 1) 0) : firstT k t w < k ∧ ∀ i, i < k → (w ≤ t i 0 ↔ firstT k t w ≤ i) := by
  obtain ⟨hk, ht⟩ := table_iff.1 h
  unfold firstT
  rcases fstI_range (fun i => decide (w ≤ t i 0)) k 0 with h1 | ⟨j, h1, h2, h3, h4, h5⟩
  · have := fstI_none h1 (k - 1) (by omega) (by omega)
    simp only [decide_eq_false_iff_not] at this
    exact absurd hw this
  · rw [h1]
    simp only [decide_eq_true_eq] at h4
    refine ⟨by omega, fun i hi => ⟨fun h6 => ?_, fun h6 => ?_⟩⟩
    · rcases Nat.lt_or_ge i j with h7 | h7
      · have := h5 i (by omega) h7
        simp only [decide_eq_false_iff_not] at this
        exact absurd h6 this
      · omega
    · have := table_up ht 0 (by omega) (i - j) j (by omega)
      rw [show j + (i - j) = i by omega] at this
      omega
def rbreaksBase : BaseF := fun args => match args with
  | [.row n sz_z f_z, .row k sz_t f_t, .row m sz_p f_p, .int .i64 w] => some ((sz_z = 4 ∧ IntR n 4 f_z) ∧ (sz_t = 2 ∧ IntR k 2 f_t) ∧ (sz_p = 1 ∧ IntR m 1 f_p) ∧ (m ≤ 1000000), bTup (breaksO n k m (fun i j => iv (f_z i j)) (fun i j => iv (f_t i j)) (fun i j => iv (f_p i j)) w))
  | _ => none
theorem rbreaks_eq (n : Nat) (z : Nat → Nat → Int) (k : Nat) (t : Nat → Nat → Int) (m : Nat) (p : Nat → Nat → Int) (w : Int) : rbreaksBase [.row n 4 (fun i j => .int .i64 (z i j)), .row k 2 (fun i j => .int .i64 (t i j)), .row m 1 (fun i j => .int .i64 (p i j)), .int .i64 w] = some ((4 = 4 ∧ IntR n 4 (fun i j => .int .i64 (z i j))) ∧ (2 = 2 ∧ IntR k 2 (fun i j => .int .i64 (t i j))) ∧ (1 = 1 ∧ IntR m 1 (fun i j => .int .i64 (p i j))) ∧ (m ≤ 1000000), bTup (breaksO n k m z t p w)) := rfl
theorem rbreaks_base : Base Try.prog 34 rbreaksBase := by
  intro args p v hq hp
  unfold rbreaksBase at hq
  split at hq
  rotate_left
  · cases hq
  rename_i n sz_z f_z k sz_t f_t m sz_p f_p w
  cases hq
  obtain ⟨⟨rfl, i_z⟩, ⟨rfl, i_t⟩, ⟨rfl, i_p⟩, pre⟩ := hp
  refine base_of (C := cx [] [] [(16, rinkBase), (49, inBase), (63, rtableBase)] [] none) (cx_ok trivial ⟨rink_base, in_base, rtable_base, trivial⟩) rfl (g := 34) (fn := Try.f34)
    (args' := [.row n 4 (rowF .i64 (fun i j => iv (f_z i j))), .row k 2 (rowF .i64 (fun i j => iv (f_t i j))), .row m 1 (rowF .i64 (fun i j => iv (f_p i j))), .int .i64 w]) (fn_34) rfl 1000 (by simp only [BdL, Bd, and_self, and_true, true_and]; exact ⟨fun i j hi hj => by rw [i_z i j hi hj]; trivial, fun i j hi hj => by rw [i_t i j hi hj]; trivial, fun i j hi hj => by rw [i_p i j hi hj]; trivial⟩) ⟨SameD.int i_z, SameD.int i_t, SameD.int i_p, SameD.rfl' _, trivial⟩ ?_
  generalize (fun i j => iv (f_z i j)) = z at *
  generalize (fun i j => iv (f_t i j)) = t at *
  generalize (fun i j => iv (f_p i j)) = p at *
  simp only [rowF_eq]
  simp only [rink_eq, in_eq, rtable_eq, bTup, Try.f34, go_sem, ↓reduceIte, Nat.reduceAdd, Nat.reduceSub, Nat.reduceMul, Nat.reduceEqDiff, Nat.reduceLT, Nat.reduceLeDiff, Int.reduceToNat, Int.reduceLE, Int.reduceLT, Int.reduceEq, Int.reduceNeg, reduceCtorEq]
  refine ⟨fun c1 => ?_, fun c1 => ⟨fun c2 => ?_, fun c2 => ?_⟩⟩
  · rw [show breaksO n k m z t p w = (0, 1) by simp at c1; simp [breaksO, c1]]
  · rw [show breaksO n k m z t p w = (0, 1) by simp at c1 c2; simp [breaksO, c1, c2]]
  simp only [Bool.not_eq_false'] at c1 c2
  have hb := rinkB_iff.1 c1
  obtain ⟨hk, ht⟩ := table_iff.1 c2
  have hn1 : IntKind.i64.wrap ((n : Int) - 1) = (n : Int) - 1 := wrap_id (by omega) (by omega)
  have hk1 : IntKind.i64.wrap ((k : Int) - 1) = (k : Int) - 1 := wrap_id (by omega) (by omega)
  have hk2 : ((k : Int) - 1).toNat = k - 1 := by omega
  have no : (fstI (offP n p) m 0 = -1 ∧ in3 w 1 (t (k - 1) 0) = true) ∨ breaksO n k m z t p w = (0, 2) := by
    by_cases h : fstI (offP n p) m 0 = -1 ∧ in3 w 1 (t (k - 1) 0) = true
    · exact .inl h
    · exact .inr (by unfold breaksO; rw [if_pos ⟨c1, c2⟩, if_neg h])
  refine loop_of { i : Nat // i ≤ m ∧ fstI (offP n p) (m - i) i = fstI (offP n p) m 0 } (fun i => [(10, .int .i64 (i.1 : Int)), (3, .int .i64 w), (2, .row m 1 fun i j => .int .i64 (p i j)), (1, .row k 2 fun i j => .int .i64 (t i j)), (0, .row n 4 fun i j => .int .i64 (z i j))]) (fun _ => ⟨[], []⟩) (fun i => m - i.1) (fun _ => ⟨rfl, rfl⟩) ⟨0, by omega, rfl⟩ (by (apply sub_of <;> simp only [go_sem, ↓reduceIte, Nat.reduceAdd, Nat.reduceSub, Nat.reduceMul, Nat.reduceEqDiff, Nat.reduceLT, Nat.reduceLeDiff, Int.reduceToNat, Int.reduceLE, Int.reduceLT, Int.reduceEq, Int.reduceNeg, reduceCtorEq] <;> (try simp [catF]))) ?_
  rintro ⟨i, hi, hf⟩
  simp only [rink_eq, in_eq, rtable_eq, bTup, Try.f34, go_sem, ↓reduceIte, Nat.reduceAdd, Nat.reduceSub, Nat.reduceMul, Nat.reduceEqDiff, Nat.reduceLT, Nat.reduceLeDiff, Int.reduceToNat, Int.reduceLE, Int.reduceLT, Int.reduceEq, Int.reduceNeg, reduceCtorEq]
  have hw2 : IntKind.i64.wrap ((i : Int) + 1) = ((i + 1 : Nat) : Int) := by rw [wrap_id (by omega) (by omega)]; omega
  simp only [hn1, hk1, hk2]
  refine ⟨fun e1 => ?_, fun e1 => ⟨⟨by omega, by omega⟩, fun e2 => ?_, fun e2 => ?_⟩⟩
  · simp only [decide_eq_true_eq] at e1
    rw [fstI_cons (by omega)] at hf
    refine ⟨⟨by omega, by omega⟩, fun e2 => ?_, fun e2 => ?_⟩
    · rw [if_pos (show offP n p i = true from e2)] at hf
      have : breaksO n k m z t p w = (0, 2) := by
        rcases no with h | h
        · omega
        · exact h
      rw [this]
    · rw [if_neg (show ¬ offP n p i = true by unfold offP; rw [e2]; simp)] at hf
      refine ⟨⟨i + 1, by omega, by rw [← hf]; congr 1⟩, by simp only []; omega, ?_⟩
      apply sub_of <;> simp only [hw2, go_sem, ↓reduceIte, Nat.reduceAdd, Nat.reduceSub, Nat.reduceMul, Nat.reduceEqDiff, Nat.reduceLT, Nat.reduceLeDiff, Int.reduceToNat, Int.reduceLE, Int.reduceLT, Int.reduceEq, Int.reduceNeg, reduceCtorEq] <;> (try simp)
  · have : breaksO n k m z t p w = (0, 2) := by
      rcases no with h | h
      · rw [h.2] at e2; simp at e2
      · exact h
    rw [this]
  simp only [Bool.not_eq_false'] at e2
  simp only [decide_eq_false_iff_not] at e1
  have hf1 : fstI (offP n p) m 0 = -1 := by rw [← hf, show m - i = 0 by omega]; rfl
  have hw := in3_iff.1 e2
  obtain ⟨hs, hsp⟩ := firstT_spec c2 hw.2
  have hB : breaksO n k m z t p w = if 0 ≤ fstI (thinP' z p (t (firstT k t w) 1)) m 0 then (fstI (thinP' z p (t (firstT k t w) 1)) m 0, 0) else (0, 4) := by
    unfold breaksO; rw [if_pos ⟨c1, c2⟩, if_pos ⟨hf1, e2⟩]
  generalize firstT k t w = s at *
  have hpt : ∀ j, j < m → 0 ≤ p j 0 ∧ p j 0 ≤ (n : Int) - 1 := fun j hj => by
    have := fstI_none hf1 j (by omega) (by omega)
    simp only [offP, Bool.not_eq_false'] at this
    exact in3_iff.1 this
  clear no hf hi e1 hw2
  refine loop_of { c : Nat // c ≤ k } (fun c => [(12, .int .i64 ((k : Int) - 1 - (c.1 : Int))), (11, .int .i64 (if c.1 = 0 then 0 else t (max (k - c.1) s) 1)), (3, .int .i64 w), (2, .row m 1 fun i j => .int .i64 (p i j)), (1, .row k 2 fun i j => .int .i64 (t i j)), (0, .row n 4 fun i j => .int .i64 (z i j))]) (fun _ => ⟨[], []⟩) (fun c => k - c.1) (fun _ => ⟨rfl, rfl⟩) ⟨0, by omega⟩ (by (apply sub_of <;> simp only [go_sem, ↓reduceIte, Nat.reduceAdd, Nat.reduceSub, Nat.reduceMul, Nat.reduceEqDiff, Nat.reduceLT, Nat.reduceLeDiff, Int.reduceToNat, Int.reduceLE, Int.reduceLT, Int.reduceEq, Int.reduceNeg, reduceCtorEq] <;> (try simp [catF]))) ?_
  rintro ⟨c, hc⟩
  simp only [rink_eq, in_eq, rtable_eq, bTup, Try.f34, go_sem, ↓reduceIte, Nat.reduceAdd, Nat.reduceSub, Nat.reduceMul, Nat.reduceEqDiff, Nat.reduceLT, Nat.reduceLeDiff, Int.reduceToNat, Int.reduceLE, Int.reduceLT, Int.reduceEq, Int.reduceNeg, reduceCtorEq]
  have hw2 : IntKind.i64.wrap ((k : Int) - 1 - (c : Int) - 1) = (k : Int) - 1 - ((c + 1 : Nat) : Int) := by rw [wrap_id (by omega) (by omega)]; omega
  refine ⟨fun e3 => ?_, fun e3 => ?_⟩
  · simp only [decide_eq_true_eq] at e3
    have hcn : ((k : Int) - 1 - (c : Int)).toNat = k - 1 - c := by omega
    simp only [hcn]
    refine ⟨⟨by omega, by omega⟩, fun e4 => ⟨⟨by omega, by omega⟩, ?_⟩, fun e4 => ?_⟩
    · simp only [decide_eq_true_eq] at e4
      have := (hsp (k - 1 - c) (by omega)).1 e4
      have hm : max (k - (c + 1)) s = k - 1 - c := by omega
      refine ⟨⟨c + 1, by omega⟩, by simp only []; omega, ?_⟩
      apply sub_of <;> simp only [hw2, hm, go_sem, ↓reduceIte, Nat.reduceAdd, Nat.reduceSub, Nat.reduceMul, Nat.reduceEqDiff, Nat.reduceLT, Nat.reduceLeDiff, Int.reduceToNat, Int.reduceLE, Int.reduceLT, Int.reduceEq, Int.reduceNeg, reduceCtorEq] <;> (try simp)
    · simp only [decide_eq_false_iff_not] at e4
      have : ¬ s ≤ k - 1 - c := fun h => e4 ((hsp (k - 1 - c) (by omega)).2 h)
      have hm : max (k - (c + 1)) s = max (k - c) s := by omega
      have hc0 : c ≠ 0 := by omega
      refine ⟨⟨c + 1, by omega⟩, by simp only []; omega, ?_⟩
      apply sub_of <;> simp only [hw2, hm, go_sem, ↓reduceIte, Nat.reduceAdd, Nat.reduceSub, Nat.reduceMul, Nat.reduceEqDiff, Nat.reduceLT, Nat.reduceLeDiff, Int.reduceToNat, Int.reduceLE, Int.reduceLT, Int.reduceEq, Int.reduceNeg, reduceCtorEq] <;> (try simp [hc0])
  · simp only [decide_eq_false_iff_not] at e3
    obtain rfl : c = k := by omega
    have hm : (if c = 0 then 0 else t (max (c - c) s) 1) = t s 1 := by rw [if_neg (by omega)]; congr 2; omega
    simp only [hm]
    refine loop_of { i : Nat // i ≤ m ∧ fstI (thinP' z p (t s 1)) (m - i) i = fstI (thinP' z p (t s 1)) m 0 } (fun i => [(13, .int .i64 (i.1 : Int)), (11, .int .i64 (t s 1)), (2, .row m 1 fun i j => .int .i64 (p i j)), (0, .row n 4 fun i j => .int .i64 (z i j))]) (fun _ => ⟨[], []⟩) (fun i => m - i.1) (fun _ => ⟨rfl, rfl⟩) ⟨0, by omega, rfl⟩ (by (apply sub_of <;> simp only [go_sem, ↓reduceIte, Nat.reduceAdd, Nat.reduceSub, Nat.reduceMul, Nat.reduceEqDiff, Nat.reduceLT, Nat.reduceLeDiff, Int.reduceToNat, Int.reduceLE, Int.reduceLT, Int.reduceEq, Int.reduceNeg, reduceCtorEq] <;> (try simp [catF]))) ?_
    rintro ⟨i, hi, hf⟩
    simp only [rink_eq, in_eq, rtable_eq, bTup, Try.f34, go_sem, ↓reduceIte, Nat.reduceAdd, Nat.reduceSub, Nat.reduceMul, Nat.reduceEqDiff, Nat.reduceLT, Nat.reduceLeDiff, Int.reduceToNat, Int.reduceLE, Int.reduceLT, Int.reduceEq, Int.reduceNeg, reduceCtorEq]
    have hw2 : IntKind.i64.wrap ((i : Int) + 1) = ((i + 1 : Nat) : Int) := by rw [wrap_id (by omega) (by omega)]; omega
    refine ⟨fun e1 => ?_, fun e1 => ?_⟩
    · simp only [decide_eq_true_eq] at e1
      rw [fstI_cons (by omega)] at hf
      have hpi := hpt i (by omega)
      refine ⟨⟨by omega, by omega⟩, ⟨by omega, by omega⟩, fun e2 => ?_, fun e2 => ?_⟩
      · rw [if_pos (show thinP' z p (t s 1) i = true from e2)] at hf
        rw [← hf, if_pos (by omega)] at hB
        rw [hB]
      · rw [if_neg (show ¬ thinP' z p (t s 1) i = true by unfold thinP'; rw [e2]; simp)] at hf
        refine ⟨⟨i + 1, by omega, by rw [← hf]; congr 1⟩, by simp only []; omega, ?_⟩
        apply sub_of <;> simp only [hw2, go_sem, ↓reduceIte, Nat.reduceAdd, Nat.reduceSub, Nat.reduceMul, Nat.reduceEqDiff, Nat.reduceLT, Nat.reduceLeDiff, Int.reduceToNat, Int.reduceLE, Int.reduceLT, Int.reduceEq, Int.reduceNeg, reduceCtorEq] <;> (try simp)
    · simp only [decide_eq_false_iff_not] at e1
      have hf1 : fstI (thinP' z p (t s 1)) m 0 = -1 := by rw [← hf, show m - i = 0 by omega]; rfl
      rw [hf1, if_neg (by omega)] at hB
      rw [hB]
def breaksBase : BaseF := fun args => match args with
  | [.row n sz_z f_z, .row k sz_t f_t, .row m sz_p f_p, .int .i64 w] => some ((sz_z = 4 ∧ IntR n 4 f_z) ∧ (sz_t = 2 ∧ IntR k 2 f_t) ∧ (sz_p = 1 ∧ IntR m 1 f_p) ∧ (m ≤ 1000000), bTup (breaksO n k m (fun i j => iv (f_z i j)) (fun i j => iv (f_t i j)) (fun i j => iv (f_p i j)) w))
  | _ => none
theorem breaks_eq (n : Nat) (z : Nat → Nat → Int) (k : Nat) (t : Nat → Nat → Int) (m : Nat) (p : Nat → Nat → Int) (w : Int) : breaksBase [.row n 4 (fun i j => .int .i64 (z i j)), .row k 2 (fun i j => .int .i64 (t i j)), .row m 1 (fun i j => .int .i64 (p i j)), .int .i64 w] = some ((4 = 4 ∧ IntR n 4 (fun i j => .int .i64 (z i j))) ∧ (2 = 2 ∧ IntR k 2 (fun i j => .int .i64 (t i j))) ∧ (1 = 1 ∧ IntR m 1 (fun i j => .int .i64 (p i j))) ∧ (m ≤ 1000000), bTup (breaksO n k m z t p w)) := rfl
theorem breaks_base : Base Try.prog 33 breaksBase := by
  intro args p v hq hp
  unfold breaksBase at hq
  split at hq
  rotate_left
  · cases hq
  rename_i n sz_z f_z k sz_t f_t m sz_p f_p w
  cases hq
  obtain ⟨⟨rfl, i_z⟩, ⟨rfl, i_t⟩, ⟨rfl, i_p⟩, pre⟩ := hp
  refine base_of (C := cx [] [] [(37, rinkBase), (39, inBase), (57, tableBase)] [(33, 4, p33_4), (33, 6, p33_6), (60, 1, p60_1), (62, 1, p62_1)] none) (cx_ok trivial ⟨isRink_base, in2_base, table_base, trivial⟩) rfl (g := 33) (fn := Try.f33)
    (args' := [.row n 4 (rowF .i64 (fun i j => iv (f_z i j))), .row k 2 (rowF .i64 (fun i j => iv (f_t i j))), .row m 1 (rowF .i64 (fun i j => iv (f_p i j))), .int .i64 w]) (fn_33) rfl 1000 (by simp only [BdL, Bd, and_self, and_true, true_and]; exact ⟨fun i j hi hj => by rw [i_z i j hi hj]; trivial, fun i j hi hj => by rw [i_t i j hi hj]; trivial, fun i j hi hj => by rw [i_p i j hi hj]; trivial⟩) ⟨SameD.int i_z, SameD.int i_t, SameD.int i_p, SameD.rfl' _, trivial⟩ ?_
  generalize (fun i j => iv (f_z i j)) = z at *
  generalize (fun i j => iv (f_t i j)) = t at *
  generalize (fun i j => iv (f_p i j)) = p at *
  simp only [rowF_eq]
  simp only [rink_eq, in_eq, table_eq, p33_4, p33_6, p60_1, p62_1, bTup, Try.f42, Try.f58, Try.f59, Try.f60, Try.f61, Try.f62, Try.f33, go_sem, ↓reduceIte, Nat.reduceAdd, Nat.reduceSub, Nat.reduceMul, Nat.reduceEqDiff, Nat.reduceLT, Nat.reduceLeDiff, Int.reduceToNat, Int.reduceLE, Int.reduceLT, Int.reduceEq, Int.reduceNeg, reduceCtorEq]
  refine ⟨fun c1 => ?_, fun c1 => ⟨fun c2 => ?_, fun c2 => ?_⟩⟩
  · rw [show breaksO n k m z t p w = (0, 1) by simp at c1; simp [breaksO, c1]]
  · rw [show breaksO n k m z t p w = (0, 1) by simp at c1 c2; simp [breaksO, c1, c2]]
  simp only [Bool.not_eq_false'] at c1 c2
  have hb := rinkB_iff.1 c1
  obtain ⟨hk, ht⟩ := table_iff.1 c2
  have hn1 : IntKind.i64.wrap ((n : Int) - 1) = (n : Int) - 1 := wrap_id (by omega) (by omega)
  have hk1 : IntKind.i64.wrap ((k : Int) - 1) = (k : Int) - 1 := wrap_id (by omega) (by omega)
  have hk2 : ((k : Int) - 1).toNat = k - 1 := by omega
  have no : (fstI (offP n p) m 0 = -1 ∧ in3 w 1 (t (k - 1) 0) = true) ∨ breaksO n k m z t p w = (0, 2) := by
    by_cases h : fstI (offP n p) m 0 = -1 ∧ in3 w 1 (t (k - 1) 0) = true
    · exact .inl h
    · exact .inr (by unfold breaksO; rw [if_pos ⟨c1, c2⟩, if_neg h])
  refine ⟨⟨by kernel_rfl, by kernel_rfl⟩, ?_⟩
  refine loop_of { i : Nat // i ≤ m ∧ fstI (offP n p) (m - i) i = fstI (offP n p) m 0 } (fun i => [(8, .int .i64 (i.1 : Int)), (7, .int .i64 (m : Int)), (6, .row m 1 fun i j => .int .i64 (p i j)), (1, .func 58 [.ptr 0 0]), (0, .row m 1 fun i j => .int .i64 (p i j))]) (fun _ => ⟨[.live 22 [.row n 4 fun i j => .int .i64 (z i j)], .live 68 [.row k 2 fun i j => .int .i64 (t i j)], .live 3 [.int .i64 w]], []⟩) (fun i => m - i.1) (fun _ => ⟨rfl, rfl⟩) ⟨0, by omega, rfl⟩ (by (apply sub_of <;> simp only [go_sem, ↓reduceIte, Nat.reduceAdd, Nat.reduceSub, Nat.reduceMul, Nat.reduceEqDiff, Nat.reduceLT, Nat.reduceLeDiff, Int.reduceToNat, Int.reduceLE, Int.reduceLT, Int.reduceEq, Int.reduceNeg, reduceCtorEq] <;> (try simp [catF]))) ?_
  rintro ⟨i, hi, hf⟩
  simp only [rink_eq, in_eq, table_eq, p33_4, p33_6, p60_1, p62_1, bTup, Try.f42, Try.f58, Try.f59, Try.f60, Try.f61, Try.f62, Try.f33, go_sem, ↓reduceIte, Nat.reduceAdd, Nat.reduceSub, Nat.reduceMul, Nat.reduceEqDiff, Nat.reduceLT, Nat.reduceLeDiff, Int.reduceToNat, Int.reduceLE, Int.reduceLT, Int.reduceEq, Int.reduceNeg, reduceCtorEq]
  have hw2 : IntKind.i64.wrap ((i : Int) + 1) = ((i + 1 : Nat) : Int) := by rw [wrap_id (by omega) (by omega)]; omega
  simp only [hn1, hk1, hk2]
  refine ⟨fun e1 => ?_, fun e1 => ?_⟩
  · simp only [decide_eq_true_eq] at e1
    rw [fstI_cons (by omega)] at hf
    refine ⟨⟨by omega, by omega⟩, fun e2 => ?_, fun e2 => ?_⟩
    · rw [if_pos (by simpa [offP] using e2)] at hf
      refine ⟨fun _ => ?_, fun h => by simp at h⟩
      rcases no with h | h
      · rw [h.1] at hf; omega
      · rw [h]
    · rw [if_neg (by simpa [offP] using e2)] at hf
      refine ⟨⟨i + 1, by omega, by rw [← hf]; congr 1⟩, by simp only []; omega, ?_⟩
      apply sub_of <;> simp only [hw2, go_sem, ↓reduceIte, Nat.reduceAdd, Nat.reduceSub, Nat.reduceMul, Nat.reduceEqDiff, Nat.reduceLT, Nat.reduceLeDiff, Int.reduceToNat, Int.reduceLE, Int.reduceLT, Int.reduceEq, Int.reduceNeg, reduceCtorEq] <;> (try simp)
  simp only [decide_eq_false_iff_not] at e1
  have e0 : m - i = 0 := by omega
  rw [e0] at hf
  simp only [fstI] at hf
  refine ⟨by omega, fun e3 => ?_, fun e3 => ?_⟩
  · rcases no with h | h
    · rw [h.2] at e3; simp at e3
    · rw [h]
  simp only [Bool.not_eq_false'] at e3
  have hB : breaksO n k m z t p w = if 0 ≤ fstI (thinP' z p (t (firstT k t w) 1)) m 0 then (fstI (thinP' z p (t (firstT k t w) 1)) m 0, 0) else (0, 4) := by
    unfold breaksO
    rw [if_pos ⟨c1, c2⟩, if_pos ⟨hf.symm, e3⟩]
  have hp := fstI_none hf.symm
  rw [hB]
  obtain ⟨hs1, hs2⟩ := firstT_spec c2 (in3_iff.1 e3).2
  generalize hS : firstT k t w = S at *
  clear hf hB no hw2 hi e0 e1
  refine ⟨⟨by kernel_rfl, by kernel_rfl⟩, ?_, ?_⟩
  all_goals
    refine loop_ofH { q : Nat × Nat // q.1 ≤ S ∧ S ≤ q.2 ∧ q.2 ≤ k } (fun q => [(6, .int .i64 (q.1.2 : Int)), (5, .int .i64 (q.1.1 : Int)), (1, .func 60 [.ptr 1 0, .ptr 2 0])]) (fun h _ => h) (fun q => q.1.2 - q.1.1) (fun _ => ⟨rfl, rfl⟩) ⟨(0, k), by omega, by omega, by omega⟩ (by (apply sub_of <;> simp only [go_sem, ↓reduceIte, Nat.reduceAdd, Nat.reduceSub, Nat.reduceMul, Nat.reduceEqDiff, Nat.reduceLT, Nat.reduceLeDiff, Int.reduceToNat, Int.reduceLE, Int.reduceLT, Int.reduceEq, Int.reduceNeg, reduceCtorEq] <;> (try simp [catF]))) ?_
    rintro ⟨⟨a, b⟩, q1, q2, q3⟩
    simp only [] at q1 q2 q3
    simp only [rink_eq, in_eq, table_eq, p33_4, p33_6, p60_1, p62_1, bTup, Try.f42, Try.f58, Try.f59, Try.f60, Try.f61, Try.f62, Try.f33, go_sem, ↓reduceIte, Nat.reduceAdd, Nat.reduceSub, Nat.reduceMul, Nat.reduceEqDiff, Nat.reduceLT, Nat.reduceLeDiff, Int.reduceToNat, Int.reduceLE, Int.reduceLT, Int.reduceEq, Int.reduceNeg, reduceCtorEq]
    simp only [mid_eq (show a + b ≤ 100000 by omega)]
    refine ⟨fun d1 => ?_, fun d1 => ?_⟩
    · simp only [decide_eq_true_eq] at d1
      generalize hm : (a + b) / 2 = x
      have hx : a ≤ x ∧ x < b := by omega
      have hxk := hs2 x (by omega)
      have hw2 : IntKind.i64.wrap ((x : Int) + 1) = ((x + 1 : Nat) : Int) := by rw [wrap_id (by omega) (by omega)]; omega
      refine ⟨⟨by kernel_rfl, by kernel_rfl⟩, ⟨by omega, by omega⟩, fun d2 => ?_, fun d2 => ?_⟩
      · simp only [Bool.not_eq_true', decide_eq_false_iff_not, Int.toNat_natCast] at d2
        refine ⟨⟨(x + 1, b), by simp only []; omega, by simp only []; omega, by simp only []; omega⟩, by simp only []; omega, ?_⟩
        apply sub_of <;> simp only [hw2, go_sem, ↓reduceIte, Nat.reduceAdd, Nat.reduceSub, Nat.reduceMul, Nat.reduceEqDiff, Nat.reduceLT, Nat.reduceLeDiff, Int.reduceToNat, Int.reduceLE, Int.reduceLT, Int.reduceEq, Int.reduceNeg, reduceCtorEq] <;> (try simp)
      · simp only [Bool.not_eq_false', decide_eq_true_eq, Int.toNat_natCast] at d2
        refine ⟨⟨(a, x), by simp only []; omega, by simp only []; omega, by simp only []; omega⟩, by simp only []; omega, ?_⟩
        apply sub_of <;> simp only [go_sem, ↓reduceIte, Nat.reduceAdd, Nat.reduceSub, Nat.reduceMul, Nat.reduceEqDiff, Nat.reduceLT, Nat.reduceLeDiff, Int.reduceToNat, Int.reduceLE, Int.reduceLT, Int.reduceEq, Int.reduceNeg, reduceCtorEq] <;> (try simp)
    · simp only [decide_eq_false_iff_not] at d1
      obtain rfl : a = S := by omega
      have hpt : ∀ j, j < m → 0 ≤ p j 0 ∧ p j 0 ≤ (n : Int) - 1 := fun j hj => by
        have := hp j (by omega) (by omega)
        simp only [offP, Bool.not_eq_false'] at this
        exact in3_iff.1 this
      first | refine ⟨⟨by omega, by omega⟩, ⟨by omega, by omega⟩, ?_⟩ | refine ⟨⟨by omega, by omega⟩, ?_⟩
      refine loop_ofH { i : Nat // i ≤ m ∧ fstI (thinP' z p (t a 1)) (m - i) i = fstI (thinP' z p (t a 1)) m 0 } (fun i => [(8, .int .i64 (i.1 : Int)), (7, .int .i64 (m : Int)), (6, .row m 1 fun i j => .int .i64 (p i j)), (1, .func 62 [.ptr 0 0, .ptr 3 0]), (0, .row m 1 fun i j => .int .i64 (p i j))]) (fun h _ => h) (fun i => m - i.1) (fun _ => ⟨rfl, rfl⟩) ⟨0, by omega, rfl⟩ (by (apply sub_of <;> simp only [go_sem, ↓reduceIte, Nat.reduceAdd, Nat.reduceSub, Nat.reduceMul, Nat.reduceEqDiff, Nat.reduceLT, Nat.reduceLeDiff, Int.reduceToNat, Int.reduceLE, Int.reduceLT, Int.reduceEq, Int.reduceNeg, reduceCtorEq] <;> (try simp [catF]))) ?_
      rintro ⟨i, hi, hf⟩
      simp only [rink_eq, in_eq, table_eq, p33_4, p33_6, p60_1, p62_1, bTup, Try.f42, Try.f58, Try.f59, Try.f60, Try.f61, Try.f62, Try.f33, go_sem, ↓reduceIte, Nat.reduceAdd, Nat.reduceSub, Nat.reduceMul, Nat.reduceEqDiff, Nat.reduceLT, Nat.reduceLeDiff, Int.reduceToNat, Int.reduceLE, Int.reduceLT, Int.reduceEq, Int.reduceNeg, reduceCtorEq]
      have hw2 : IntKind.i64.wrap ((i : Int) + 1) = ((i + 1 : Nat) : Int) := by rw [wrap_id (by omega) (by omega)]; omega
      refine ⟨fun e1 => ?_, fun e1 => ?_⟩
      · simp only [decide_eq_true_eq] at e1
        rw [fstI_cons (by omega)] at hf
        have hpi := hpt i (by omega)
        refine ⟨⟨by omega, by omega⟩, ⟨by kernel_rfl, by kernel_rfl⟩, ⟨by omega, by omega⟩, fun e2 => ?_, fun e2 => ?_⟩
        · rw [if_pos (show thinP' z p (t a 1) i = true from e2)] at hf
          rw [← hf, if_pos (by omega)]
          refine ⟨fun _ => rfl, fun h => by simp at h⟩
        · rw [if_neg (show ¬ thinP' z p (t a 1) i = true by unfold thinP'; rw [e2]; simp)] at hf
          refine ⟨⟨i + 1, by omega, by rw [← hf]; congr 1⟩, by simp only []; omega, ?_⟩
          apply sub_of <;> simp only [hw2, go_sem, ↓reduceIte, Nat.reduceAdd, Nat.reduceSub, Nat.reduceMul, Nat.reduceEqDiff, Nat.reduceLT, Nat.reduceLeDiff, Int.reduceToNat, Int.reduceLE, Int.reduceLT, Int.reduceEq, Int.reduceNeg, reduceCtorEq] <;> (try simp)
      · simp only [decide_eq_false_iff_not] at e1
        have hf1 : fstI (thinP' z p (t a 1)) m 0 = -1 := by rw [← hf, show m - i = 0 by omega]; rfl
        rw [hf1, if_neg (by omega)]
end Go.Eng
end

/- IceOwns: its call returns true. -/
section
namespace Go.Eng
open Go Go.RowKit Go.Proofs
set_option maxRecDepth 100000
set_option maxHeartbeats 4000000
attribute [local irreducible] OwnT DefS
theorem keeps_at (n : Nat) (z : Nat → Nat → Int) (m : Nat) (l : Nat → Nat → Int) (days least most : Int) : keepsBase [.row n 4 (fun i j => .int .i64 (z i j)), .row m 5 (fun i j => .int .i64 (l i j)), .int .i64 days, .int .i64 least, .int .i64 most] =
    some ((4 = 4 ∧ IntR n 4 (fun i j => .int .i64 (z i j))) ∧ (5 = 5 ∧ IntR m 5 (fun i j => .int .i64 (l i j))), kTup (keepsO n m z l days least most)) := rfl
theorem rkeeps_at (n : Nat) (z : Nat → Nat → Int) (m : Nat) (l : Nat → Nat → Int) (days least most : Int) : rkeepsBase [.row n 4 (fun i j => .int .i64 (z i j)), .row m 5 (fun i j => .int .i64 (l i j)), .int .i64 days, .int .i64 least, .int .i64 most] =
    some ((4 = 4 ∧ IntR n 4 (fun i j => .int .i64 (z i j))) ∧ (5 = 5 ∧ IntR m 5 (fun i j => .int .i64 (l i j))), kTup (keepsO n m z l days least most)) := rfl
theorem own_upd (i a b : Nat) (z : Nat → Nat → Int) : (if a = i ∧ b = 0 then nth [SV.int .i64 (-1)] b else SV.int .i64 (if a < i ∧ b = 0 then -1 else z a b)) = .int .i64 (if a < i + 1 ∧ b = 0 then -1 else z a b) := by
  by_cases h : a = i ∧ b = 0
  · obtain ⟨rfl, rfl⟩ := h
    simp [nth]
  · rw [if_neg h]
    have : (a < i ∧ b = 0) ↔ (a < i + 1 ∧ b = 0) := by omega
    simp [this]
def iceOwnsBase : BaseF := fun args => match args with
  | [.row n sz_z f_z, .row m sz_l f_l, .int .i64 days, .int .i64 least, .int .i64 most] => some ((sz_z = 4 ∧ IntR n 4 f_z) ∧ (sz_l = 5 ∧ IntR m 5 f_l), .bool true)
  | _ => none
theorem iceOwns_eq (n : Nat) (z : Nat → Nat → Int) (m : Nat) (l : Nat → Nat → Int) (days : Int) (least : Int) (most : Int) : iceOwnsBase [.row n 4 (fun i j => .int .i64 (z i j)), .row m 5 (fun i j => .int .i64 (l i j)), .int .i64 days, .int .i64 least, .int .i64 most] = some ((4 = 4 ∧ IntR n 4 (fun i j => .int .i64 (z i j))) ∧ (5 = 5 ∧ IntR m 5 (fun i j => .int .i64 (l i j))), .bool true) := rfl
theorem iceOwns_base : Base Try.prog 9 iceOwnsBase := by
  intro args p v hq hp
  unfold iceOwnsBase at hq
  split at hq
  rotate_left
  · cases hq
  rename_i n sz_z f_z m sz_l f_l days least most
  cases hq
  obtain ⟨⟨rfl, i_z⟩, ⟨rfl, i_l⟩⟩ := hp
  refine base_of (C := cx [] [(19, 37, playBase)] [(13, aliveBase), (25, sameBase), (32, keepsBase)] [(9, 16, p9_16)] none) (cx_ok ⟨play_base, trivial⟩ ⟨alive_base, same_base, keeps_base, trivial⟩) rfl (g := 9) (fn := Try.f9)
    (args' := [.row n 4 (rowF .i64 (fun i j => iv (f_z i j))), .row m 5 (rowF .i64 (fun i j => iv (f_l i j))), .int .i64 days, .int .i64 least, .int .i64 most]) (fn_9) rfl 1000 (by simp only [BdL, Bd, and_self, and_true, true_and]; exact ⟨fun i j hi hj => by rw [i_z i j hi hj]; trivial, fun i j hi hj => by rw [i_l i j hi hj]; trivial⟩) ⟨SameD.int i_z, SameD.int i_l, SameD.rfl' _, SameD.rfl' _, SameD.rfl' _, trivial⟩ ?_
  generalize (fun i j => iv (f_z i j)) = z
  generalize (fun i j => iv (f_l i j)) = l
  simp only [rowF_eq]
  simp only [alive_eq, same_eq, p9_16, play_at, pTup, keeps_at, kTup, Try.f9, go_sem, ↓reduceIte, Nat.reduceAdd, Nat.reduceSub, Nat.reduceMul, Nat.reduceEqDiff, Nat.reduceLT, Nat.reduceLeDiff, Int.reduceToNat, Int.reduceLE, Int.reduceLT, Int.reduceEq, Int.reduceNeg, reduceCtorEq]
  have hpn := playT_n n m z l
  refine ⟨fun _ => True.intro, fun c1 => ⟨fun _ => True.intro, fun c2 => ?_⟩⟩
  simp only [decide_eq_false_iff_not] at c1 c2
  generalize hP : playT n m z l = P at *
  refine ⟨by omega, by omega, by omega, ?_⟩
  refine loop_of { i : Nat // i ≤ P.n } (fun i => [(52, .int .i64 (i.1 : Int)), (51, .int .i64 (P.n : Int)), (17, .vec 3 1), (16, .int .i64 P.e), (15, .int .i64 P.i), (13, .vec 2 0), (14, .ptr 0 0), (12, .vec 1 1), (11, .vec 0 1), (4, .int .i64 most), (3, .int .i64 least), (2, .int .i64 days), (1, .row m 5 fun i j => .int .i64 (l i j)), (0, .row n 4 fun i j => .int .i64 (z i j))])
    (fun i => ⟨[.live 44 [.int .i64 (P.s 0), .int .i64 (P.s 1), .int .i64 (P.s 2), .int .i64 (P.s 3), .int .i64 (P.s 4), .int .i64 (P.s 5)]], [.live 1 37 4 n fun a b => .int .i64 (z a b), .live 1 41 5 m fun a b => .int .i64 (l a b), .live 0 37 4 P.n fun a b => .int .i64 (if a < i.1 ∧ b = 0 then -1 else P.z a b), .live 1 37 4 P.n fun a b => .int .i64 (P.z a b)]⟩) (fun i => P.n - i.1) (fun _ => ⟨rfl, rfl⟩) ⟨0, by omega⟩ (by (apply sub_of <;> simp only [go_sem, ↓reduceIte, Nat.reduceAdd, Nat.reduceSub, Nat.reduceMul, Nat.reduceEqDiff, Nat.reduceLT, Nat.reduceLeDiff, Int.reduceToNat, Int.reduceLE, Int.reduceLT, Int.reduceEq, Int.reduceNeg, reduceCtorEq] <;> (try simp [catF]))) ?_
  rintro ⟨i, hi⟩
  simp only [alive_eq, same_eq, p9_16, play_at, pTup, keeps_at, kTup, Try.f9, go_sem, ↓reduceIte, Nat.reduceAdd, Nat.reduceSub, Nat.reduceMul, Nat.reduceEqDiff, Nat.reduceLT, Nat.reduceLeDiff, Int.reduceToNat, Int.reduceLE, Int.reduceLT, Int.reduceEq, Int.reduceNeg, reduceCtorEq]
  have hw2 : IntKind.i64.wrap ((i : Int) + 1) = ((i + 1 : Nat) : Int) := by rw [wrap_id (by omega) (by omega)]; omega
  refine ⟨fun d1 => ?_, fun d1 => ?_⟩
  · simp only [decide_eq_true_eq] at d1
    refine ⟨⟨by omega, by omega⟩, by omega, ⟨i + 1, by omega⟩, by simp only []; omega, ?_⟩
    apply sub_of <;> simp only [hw2, go_sem, ↓reduceIte, Nat.reduceAdd, Nat.reduceSub, Nat.reduceMul, Nat.reduceEqDiff, Nat.reduceLT, Nat.reduceLeDiff, Int.reduceToNat, Int.reduceLE, Int.reduceLT, Int.reduceEq, Int.reduceNeg, reduceCtorEq] <;> (try simp)
    exact fun a b _ _ => own_upd i a b P.z
  · simp only [decide_eq_false_iff_not] at d1
    simp only [hP]
    refine loop_of { j : Nat // j ≤ m } (fun j => [(78, .int .i64 (j.1 : Int)), (77, .int .i64 (m : Int)), (22, .int .i64 P.e), (21, .int .i64 P.i), (19, .vec 4 0), (20, .ptr 1 0), (17, .vec 3 1), (16, .int .i64 P.e), (15, .int .i64 P.i), (14, .ptr 0 0), (12, .vec 1 1), (11, .vec 0 1), (1, .row m 5 fun i j => .int .i64 (l i j)), (0, .row n 4 fun i j => .int .i64 (z i j))])
      (fun j => ⟨[.live 44 [.int .i64 (P.s 0), .int .i64 (P.s 1), .int .i64 (P.s 2), .int .i64 (P.s 3), .int .i64 (P.s 4), .int .i64 (P.s 5)], .live 44 [.int .i64 (P.s 0), .int .i64 (P.s 1), .int .i64 (P.s 2), .int .i64 (P.s 3), .int .i64 (P.s 4), .int .i64 (P.s 5)]], [.live 1 37 4 n fun a b => .int .i64 (z a b), .live 1 41 5 m fun a b => .int .i64 (l a b), .dead, .live 1 37 4 P.n fun a b => .int .i64 (P.z a b), .live 0 37 4 P.n fun a b => .int .i64 (P.z a b)]⟩) (fun j => m - j.1) (fun _ => ⟨rfl, rfl⟩) ⟨0, by omega⟩ (by (apply sub_of <;> simp only [go_sem, ↓reduceIte, Nat.reduceAdd, Nat.reduceSub, Nat.reduceMul, Nat.reduceEqDiff, Nat.reduceLT, Nat.reduceLeDiff, Int.reduceToNat, Int.reduceLE, Int.reduceLT, Int.reduceEq, Int.reduceNeg, reduceCtorEq] <;> (try simp [catF]))) ?_
    rintro ⟨j, hj⟩
    have hw3 : IntKind.i64.wrap ((j : Int) + 1) = ((j + 1 : Nat) : Int) := by rw [wrap_id (by omega) (by omega)]; omega
    simp only [sameB_self, alive_eq, same_eq, p9_16, play_at, pTup, keeps_at, kTup, Try.f9, go_sem, ↓reduceIte, Nat.reduceAdd, Nat.reduceSub, Nat.reduceMul, Nat.reduceEqDiff, Nat.reduceLT, Nat.reduceLeDiff, Int.reduceToNat, Int.reduceLE, Int.reduceLT, Int.reduceEq, Int.reduceNeg, reduceCtorEq]
    refine ⟨fun e1 => ?_, fun e1 => ⟨by omega, by omega⟩⟩
    simp only [decide_eq_true_eq] at e1
    refine ⟨⟨by kernel_rfl, by kernel_rfl⟩, ⟨by omega, by omega⟩, by omega, ⟨by omega, by omega⟩, ⟨j + 1, by omega⟩, by simp only []; omega, ?_⟩
    apply sub_of <;> simp only [hw3, go_sem, ↓reduceIte, Nat.reduceAdd, Nat.reduceSub, Nat.reduceMul, Nat.reduceEqDiff, Nat.reduceLT, Nat.reduceLeDiff, Int.reduceToNat, Int.reduceLE, Int.reduceLT, Int.reduceEq, Int.reduceNeg, reduceCtorEq] <;> (try simp)
end Go.Eng
end

/- IceKeeps: its call returns true. -/
section
namespace Go.Eng
open Go Go.RowKit Go.Proofs
set_option maxRecDepth 100000
set_option maxHeartbeats 4000000
attribute [local irreducible] OwnT DefS
def iceKeepsBase : BaseF := fun args => match args with
  | [.row n sz_z f_z, .row k sz_t f_t, .row m sz_p f_p, .int .i64 w, .row q sz_l f_l, .int .i64 days, .int .i64 least, .int .i64 most] => some ((sz_z = 4 ∧ IntR n 4 f_z) ∧ (sz_t = 2 ∧ IntR k 2 f_t) ∧ (sz_p = 1 ∧ IntR m 1 f_p) ∧ (sz_l = 5 ∧ IntR q 5 f_l), .bool true)
  | _ => none
theorem iceKeeps_eq (n : Nat) (z : Nat → Nat → Int) (k : Nat) (t : Nat → Nat → Int) (m : Nat) (p : Nat → Nat → Int) (w : Int) (q : Nat) (l : Nat → Nat → Int) (days : Int) (least : Int) (most : Int) : iceKeepsBase [.row n 4 (fun i j => .int .i64 (z i j)), .row k 2 (fun i j => .int .i64 (t i j)), .row m 1 (fun i j => .int .i64 (p i j)), .int .i64 w, .row q 5 (fun i j => .int .i64 (l i j)), .int .i64 days, .int .i64 least, .int .i64 most] = some ((4 = 4 ∧ IntR n 4 (fun i j => .int .i64 (z i j))) ∧ (2 = 2 ∧ IntR k 2 (fun i j => .int .i64 (t i j))) ∧ (1 = 1 ∧ IntR m 1 (fun i j => .int .i64 (p i j))) ∧ (5 = 5 ∧ IntR q 5 (fun i j => .int .i64 (l i j))), .bool true) := rfl
theorem iceKeeps_base : Base Try.prog 10 iceKeepsBase := by
  intro args p v hq hp
  unfold iceKeepsBase at hq
  split at hq
  rotate_left
  · cases hq
  rename_i n sz_z f_z k sz_t f_t m sz_p f_p w q sz_l f_l days least most
  cases hq
  obtain ⟨⟨rfl, i_z⟩, ⟨rfl, i_t⟩, ⟨rfl, i_p⟩, ⟨rfl, i_l⟩⟩ := hp
  refine base_of (C := cx [] [] [(27, manyBase), (13, aliveBase), (33, breaksBase), (34, rbreaksBase), (32, keepsBase), (35, rkeepsBase)] [] none) (cx_ok trivial ⟨many_base, alive_base, breaks_base, rbreaks_base, keeps_base, rkeeps_base, trivial⟩) rfl (g := 10) (fn := Try.f10)
    (args' := [.row n 4 (rowF .i64 (fun i j => iv (f_z i j))), .row k 2 (rowF .i64 (fun i j => iv (f_t i j))), .row m 1 (rowF .i64 (fun i j => iv (f_p i j))), .int .i64 w, .row q 5 (rowF .i64 (fun i j => iv (f_l i j))), .int .i64 days, .int .i64 least, .int .i64 most]) (fn_10) rfl 1000 (by simp only [BdL, Bd, and_self, and_true, true_and]; exact ⟨fun i j hi hj => by rw [i_z i j hi hj]; trivial, fun i j hi hj => by rw [i_t i j hi hj]; trivial, fun i j hi hj => by rw [i_p i j hi hj]; trivial, fun i j hi hj => by rw [i_l i j hi hj]; trivial⟩) ⟨SameD.int i_z, SameD.int i_t, SameD.int i_p, SameD.rfl' _, SameD.int i_l, SameD.rfl' _, SameD.rfl' _, SameD.rfl' _, trivial⟩ ?_
  generalize (fun i j => iv (f_z i j)) = z
  generalize (fun i j => iv (f_t i j)) = t
  generalize (fun i j => iv (f_p i j)) = p
  generalize (fun i j => iv (f_l i j)) = l
  simp only [rowF_eq]
  simp only [many_eq, alive_eq, breaks_eq, rbreaks_eq, kTup, bTup, keeps_at, rkeeps_at, Try.f10, go_sem, ↓reduceIte, Nat.reduceAdd, Nat.reduceSub, Nat.reduceMul, Nat.reduceEqDiff, Nat.reduceLT, Nat.reduceLeDiff, Int.reduceToNat, Int.reduceLE, Int.reduceLT, Int.reduceEq, Int.reduceNeg, reduceCtorEq]
  exact ⟨fun _ => trivial, fun _ => ⟨fun _ => trivial, fun _ => ⟨fun _ => trivial, fun c3 => ⟨fun _ => trivial, fun _ => by simp only [decide_eq_false_iff_not] at c3; omega⟩⟩⟩⟩
end Go.Eng
end

/- IceNames: its call returns true. -/
section
namespace Go.Eng
open Go Go.RowKit Go.Proofs
set_option maxRecDepth 100000
set_option maxHeartbeats 4000000
attribute [local irreducible] OwnT DefS
theorem thin_gen (n : Nat) (f : Nat → Nat → SV) (c : Int) : thinBase [.row n 4 f, .int .i64 c] = some ((4 = 4 ∧ IntR n 4 f), tTup (thinO n (fun i j => iv (f i j)) c)) := rfl
theorem breaks_gen (n k m : Nat) (f t p : Nat → Nat → SV) (w : Int) : breaksBase [.row n 4 f, .row k 2 t, .row m 1 p, .int .i64 w] = some ((4 = 4 ∧ IntR n 4 f) ∧ (2 = 2 ∧ IntR k 2 t) ∧ (1 = 1 ∧ IntR m 1 p) ∧ m ≤ 1000000, bTup (breaksO n k m (fun i j => iv (f i j)) (fun i j => iv (t i j)) (fun i j => iv (p i j)) w)) := rfl
theorem keeps_gen (n m : Nat) (f l : Nat → Nat → SV) (days least most : Int) : keepsBase [.row n 4 f, .row m 5 l, .int .i64 days, .int .i64 least, .int .i64 most] = some ((4 = 4 ∧ IntR n 4 f) ∧ (5 = 5 ∧ IntR m 5 l), kTup (keepsO n m (fun i j => iv (f i j)) (fun i j => iv (l i j)) days least most)) := rfl
theorem ints_gen (n m : Nat) (f l : Nat → Nat → SV) : intsBase [.row n 1 f, .row m 1 l] = some ((1 = 1 ∧ IntR n 1 f) ∧ (1 = 1 ∧ IntR m 1 l) ∧ n ≤ 1000000, .bool (intsB n m (fun i j => iv (f i j)) (fun i j => iv (l i j)))) := rfl
def iceNamesBase : BaseF := fun args => match args with
  | [] => some (True, .bool true)
  | _ => none
theorem iceNames_eq  : iceNamesBase [] = some (True, .bool true) := rfl
theorem iceNames_base : Base Try.prog 12 iceNamesBase := by
  intro args p v hq hp
  unfold iceNamesBase at hq
  split at hq
  rotate_left
  · cases hq
  cases hq
  refine base_of (C := cx [] [(19, 37, playBase), (29, 3, thinBase)] [(13, aliveBase), (14, waterBase), (23, spanBase), (31, intsBase), (32, keepsBase), (33, breaksBase)] [] none) (cx_ok ⟨play_base, thin_base, trivial⟩ ⟨alive_base, water_base, span_base, ints_base, keeps_base, breaks_base, trivial⟩) rfl (g := 12) (fn := Try.f12)
    (args' := []) (fn_12) rfl 1000 (by simp only [BdL, Bd, and_self]) trivial ?_
  simp only [alive_eq, span_eq, kTup, bTup, breaks_gen, keeps_gen, ints_gen, play_gen, thin_gen, water_gen, pTup, tTup, spanT, Try.f36, Try.f12, go_sem, ↓reduceIte, Nat.reduceAdd, Nat.reduceSub, Nat.reduceMul, Nat.reduceEqDiff, Nat.reduceLT, Nat.reduceLeDiff, Int.reduceToNat, Int.reduceLE, Int.reduceLT, Int.reduceEq, Int.reduceNeg, reduceCtorEq]
  repeat' first | exact intR_of (by kernel_rfl) | refine spl_t (by kernel_rfl) ?_ | refine And.intro ?_ ?_ | exact congrArg SV.bool (by kernel_rfl) | exact of_decide_eq_true (by kernel_rfl)
end Go.Eng
end

/- IceApart: its call returns true. -/
section
namespace Go.Eng
open Go Go.RowKit Go.Proofs
set_option maxRecDepth 100000
set_option maxHeartbeats 4000000
attribute [local irreducible] OwnT DefS
theorem wf_u8 {w : Int} (h : (Lit.int .u8 w).wf = true) : 0 ≤ w ∧ w ≤ 255 := by
  have : (decide (IntKind.min .u8 ≤ w) && decide (w ≤ IntKind.max .u8)) = true := h
  have h1 : IntKind.min .u8 = 0 := by decide
  have h2 : IntKind.max .u8 = 255 := by decide
  rw [h1, h2] at this
  simpa using this
theorem tmod_nat {c : Int} {m : Nat} (hc : 0 ≤ c) (hm : 0 < m) : c.tmod (m : Int) = ((c.toNat % m : Nat) : Int) := by
  obtain ⟨k, rfl⟩ := Int.eq_ofNat_of_zero_le hc
  rw [Int.tmod_eq_emod_of_nonneg hc]
  simp
theorem takeB_iff (w : Int) (e : Nat → Int) : takeB w e = true ↔ e 1 ≤ w ∧ ((e 0 = 3 ∧ e 1 = w) ∨ (e 0 ≠ 3 ∧ w ≤ e 2)) := by
  have h : takeB w e = true ↔ e 1 ≤ w ∧ w ≤ toOf e := by simp [takeB]
  rw [h]
  by_cases h3 : e 0 = 3
  · have : toOf e = e 1 := by simp [toOf, h3]
    rw [this]
    exact ⟨fun ⟨a, b⟩ => ⟨a, .inl ⟨h3, by omega⟩⟩, fun ⟨a, b⟩ => ⟨a, by omega⟩⟩
  · have : toOf e = e 2 := by simp [toOf, h3]
    rw [this]
    exact ⟨fun ⟨a, b⟩ => ⟨a, .inr ⟨h3, by omega⟩⟩, fun ⟨a, b⟩ => ⟨a, by omega⟩⟩
theorem own_snoc {k : Nat} {z : Nat → Nat → Int} {e : Nat → Int} {a b : Nat} (ha : a < k + 1) (hb : b < 5) : catF k (fun i j => SV.int .i64 (z i j)) (oneF [.int .i64 (e 0), .int .i64 0, .int .i64 0, .int .i64 (e 3), .int .i64 (e 4)]) a b = .int .i64 (if a < k then z a b else e0 e b) := by
  unfold catF oneF
  split
  · rfl
  · have : a = k := by omega
    subst this
    have hc4 : b = 0 ∨ b = 1 ∨ b = 2 ∨ b = 3 ∨ b = 4 := by omega
    rcases hc4 with rfl | rfl | rfl | rfl | rfl <;> first | rfl | (simp [e0]; rfl)
def iceApartBase : BaseF := fun args => match args with
  | [.row n sz_z f_z, .row m sz_l f_l, .int .u8 c, .int .u8 w] => some ((sz_z = 4 ∧ IntR n 4 f_z) ∧ (sz_l = 5 ∧ IntR m 5 f_l) ∧ ((Lit.int .u8 c).wf = true) ∧ ((Lit.int .u8 w).wf = true), .bool true)
  | _ => none
theorem iceApart_eq (n : Nat) (z : Nat → Nat → Int) (m : Nat) (l : Nat → Nat → Int) (c : Int) (w : Int) : iceApartBase [.row n 4 (fun i j => .int .i64 (z i j)), .row m 5 (fun i j => .int .i64 (l i j)), .int .u8 c, .int .u8 w] = some ((4 = 4 ∧ IntR n 4 (fun i j => .int .i64 (z i j))) ∧ (5 = 5 ∧ IntR m 5 (fun i j => .int .i64 (l i j))) ∧ ((Lit.int .u8 c).wf = true) ∧ ((Lit.int .u8 w).wf = true), .bool true) := rfl
theorem iceApart_base : Base Try.prog 6 iceApartBase := by
  intro args p v hq hp
  unfold iceApartBase at hq
  split at hq
  rotate_left
  · cases hq
  rename_i n sz_z f_z m sz_l f_l c w
  cases hq
  obtain ⟨⟨rfl, i_z⟩, ⟨rfl, i_l⟩, wf_c, wf_w⟩ := hp
  refine base_of (C := cx [] [(19, 37, playBase)] [(13, aliveBase), (16, rinkBase), (25, sameBase), (23, spanBase)] [(6, 12, p6_12), (6, 26, p6_26)] none) (cx_ok ⟨play_base, trivial⟩ ⟨alive_base, rink_base, same_base, span_base, trivial⟩) rfl (g := 6) (fn := Try.f6)
    (args' := [.row n 4 (rowF .i64 (fun i j => iv (f_z i j))), .row m 5 (rowF .i64 (fun i j => iv (f_l i j))), .int .u8 c, .int .u8 w]) (fn_6) rfl 1000 (by simp only [BdL, Bd, and_self, and_true, true_and]; exact ⟨fun i j hi hj => by rw [i_z i j hi hj]; trivial, fun i j hi hj => by rw [i_l i j hi hj]; trivial⟩) ⟨SameD.int i_z, SameD.int i_l, SameD.rfl' _, SameD.rfl' _, trivial⟩ ?_
  generalize (fun i j => iv (f_z i j)) = z
  generalize (fun i j => iv (f_l i j)) = l
  simp only [rowF_eq]
  simp only [alive_eq, rink_eq, same_eq, span_eq, p6_12, p6_26, play_at, pTup, Try.f24, Try.f6, go_sem, ↓reduceIte, Nat.reduceAdd, Nat.reduceSub, Nat.reduceMul, Nat.reduceEqDiff, Nat.reduceLT, Nat.reduceLeDiff, Int.reduceToNat, Int.reduceLE, Int.reduceLT, Int.reduceEq, Int.reduceNeg, reduceCtorEq]
  have hc0 := wf_u8 wf_c
  have hw0 := wf_u8 wf_w
  have hcc : IntKind.i64.wrap c = c := wrap_id (by omega) (by omega)
  have hww : IntKind.i64.wrap w = w := wrap_id (by omega) (by omega)
  simp only [hcc, hww]
  refine ⟨fun _ => True.intro, fun c1 => ⟨fun c2 => ?_, fun c2 => ⟨fun c3 => ?_, fun c3 => ⟨fun c4 => ?_, fun c4 => ?_⟩⟩⟩⟩
  · simp at c2
    obtain ⟨q1, q2, q3⟩ := playT_bad c2
    exact ⟨fun _ => ⟨fun _ => True.intro, fun h => by simp [q3] at h⟩, fun h => by simp at h; omega⟩
  · simp at c2
    obtain ⟨hr, _⟩ := playT_ok c2
    simp [hr] at c3
  · simp at c2
    obtain ⟨_, _, hn, _⟩ := playT_ok c2
    simp [hn] at c4
  simp at c1 c2
  obtain ⟨hr, hm, hn, _⟩ := playT_ok c2
  have hb := rinkB_iff.1 hr
  have hm1 : IntKind.i64.wrap ((m : Int) + 1) = ((m + 1 : Nat) : Int) := by rw [wrap_id (by omega) (by omega)]; omega
  have hK : c.tmod ((m + 1 : Nat) : Int) = ((c.toNat % (m + 1) : Nat) : Int) := tmod_nat hc0.1 (by omega)
  have hKm : c.toNat % (m + 1) ≤ m := by have := Nat.mod_lt c.toNat (show 0 < m + 1 by omega); omega
  have hW : w.tmod (n : Int) = ((w.toNat % n : Nat) : Int) := tmod_nat hw0.1 (by omega)
  have hWn : w.toNat % n < n := Nat.mod_lt _ (by omega)
  simp only [hm1, hK, hW, Int.toNat_natCast]
  generalize c.toNat % (m + 1) = K at *
  generalize w.toNat % n = W at *
  have hmk : IntKind.i64.wrap ((m : Int) - (K : Int)) = ((m - K : Nat) : Int) := by rw [wrap_id (by omega) (by omega)]; omega
  obtain ⟨h1, h2, s1, s2, p1, p2, p3, p4⟩ := play_split hKm c2
  obtain ⟨z1, t1, p5, p6⟩ := play_alone hWn c2
  simp only [hmk, p1, p2, decide_true, Bool.not_true]
  have hnm : 20000 * (n : Int) * (m : Int) ≤ 20000 * 24 * 40 := Int.mul_le_mul (by omega) (by omega) (by omega) (by omega)
  have hsm : ∀ j, IntKind.i64.wrap (s1 j + s2 j) = (playT n m z l).s j := fun j => by
    have := p4 j
    rw [wrap_id (by omega) (by omega)]; exact this.1.symm
  simp only [hsm, hn, p3, sameB_self, decide_true, Bool.and_self, Bool.not_true]
  subst p3
  generalize hP : playT n m z l = P at *
  repeat' (first | refine And.intro ?_ ?_ | intro _)
  all_goals try (first | (as_aux_lemma => (first | (show planOk _ _ = true; kernel_rfl) | (show keepOk _ _ = true; kernel_rfl))) | exact True.intro)
  all_goals try contradiction
  all_goals try omega
  all_goals
    refine loop_of { i : Nat // i ≤ m } (fun i => [(149, .int .i64 (i.1 : Int)), (148, .int .i64 (m : Int)), (147, .row m 5 fun i j => .int .i64 (l i j)), (25, .vec 3 (ownC (W : Int) l i.1)), (24, .int .i64 (W : Int)), (9, .vec 0 0), (0, .row n 4 fun i j => .int .i64 (z i j))])
      (fun i => ⟨[.dead, .dead, .dead, .dead, .dead, .dead, .dead, .dead, .dead, .dead, .dead, .dead, .dead], [.live 0 37 4 n fun i j => .int .i64 (P.z i j), .dead, .dead, .live (ownC (W : Int) l i.1) 41 5 (ownC (W : Int) l i.1) fun a b => .int .i64 (ownA (W : Int) l i.1 a b)]⟩) (fun i => m - i.1) (fun _ => ⟨rfl, rfl⟩) ⟨0, by omega⟩ (by apply sub_of <;> simp only [go_sem, ↓reduceIte, Nat.reduceAdd, Nat.reduceSub, Nat.reduceMul, Nat.reduceEqDiff, Nat.reduceLT, Nat.reduceLeDiff, Int.reduceToNat, Int.reduceLE, Int.reduceLT, Int.reduceEq, Int.reduceNeg, reduceCtorEq] <;> (try simp [catF, ownC])) ?_
    rintro ⟨i, hi⟩
    simp only [alive_eq, rink_eq, same_eq, span_eq, p6_12, p6_26, play_at, pTup, Try.f24, Try.f6, go_sem, ↓reduceIte, Nat.reduceAdd, Nat.reduceSub, Nat.reduceMul, Nat.reduceEqDiff, Nat.reduceLT, Nat.reduceLeDiff, Int.reduceToNat, Int.reduceLE, Int.reduceLT, Int.reduceEq, Int.reduceNeg, reduceCtorEq]
    have hle := ownC_le (W : Int) l i
    have hw2 : IntKind.i64.wrap ((i : Int) + 1) = ((i + 1 : Nat) : Int) := by rw [wrap_id (by omega) (by omega)]; omega
    refine ⟨fun d1 => ?_, fun d1 => ?_⟩
    · simp only [decide_eq_true_eq] at d1
      repeat' (first | refine And.intro ?_ ?_ | intro _)
      all_goals try (first | (as_aux_lemma => (first | (show planOk _ _ = true; kernel_rfl) | (show keepOk _ _ = true; kernel_rfl))) | exact True.intro)
      all_goals try omega
      all_goals simp only [decide_eq_true_eq, decide_eq_false_iff_not, Bool.not_eq_true', Bool.not_eq_false'] at *
      all_goals try omega
      all_goals refine ⟨⟨i + 1, by omega⟩, by simp only []; omega, ?_⟩
      all_goals by_cases ht : takeB (W : Int) (l i) = true
      all_goals try (exfalso; rw [takeB_iff] at ht; omega)
      all_goals
        have hC : ownC (W : Int) l (i + 1) = if takeB (W : Int) (l i) = true then ownC (W : Int) l i + 1 else ownC (W : Int) l i := rfl
        have hA : ownA (W : Int) l (i + 1) = if takeB (W : Int) (l i) = true then fun a b => if a < ownC (W : Int) l i then ownA (W : Int) l i a b else e0 (l i) b else ownA (W : Int) l i := rfl
        first | rw [if_pos ht] at hC hA | rw [if_neg ht] at hC hA
        apply sub_of <;> simp only [hw2, hC, hA, go_sem, ↓reduceIte, Nat.reduceAdd, Nat.reduceSub, Nat.reduceMul, Nat.reduceEqDiff, Nat.reduceLT, Nat.reduceLeDiff, Int.reduceToNat, Int.reduceLE, Int.reduceLT, Int.reduceEq, Int.reduceNeg, reduceCtorEq] <;> (try simp)
      all_goals exact fun a b ha hb => own_snoc (k := ownC (W : Int) l i) (z := ownA (W : Int) l i) (e := l i) ha hb
    · simp only [decide_eq_false_iff_not] at d1
      obtain rfl : m = i := by omega
      have hw3 : IntKind.i64.wrap ((W : Int) + 1) = ((W + 1 : Nat) : Int) := by rw [wrap_id (by omega) (by omega)]; omega
      have hsub : W + 1 - W = 1 := by omega
      simp only [hw3, Int.toNat_natCast, hsub, p5, p6, decide_true, Bool.and_self]
      repeat' (first | refine And.intro ?_ ?_ | intro _)
      all_goals try (first | (as_aux_lemma => (first | (show planOk _ _ = true; kernel_rfl) | (show keepOk _ _ = true; kernel_rfl))) | exact True.intro)
      all_goals try contradiction
      all_goals omega
end Go.Eng
end

/- IceHolds: its call returns true. -/
section
namespace Go.Eng
open Go Go.RowKit Go.Proofs
set_option maxRecDepth 100000
set_option maxHeartbeats 4000000
attribute [local irreducible] OwnT DefS
set_option maxHeartbeats 100000000
theorem kRun_in {n m : Nat} {l : Nat → Nat → Int} {least most : Int} : ∀ (c d : Nat) (z : Nat → Nat → Int), (kRun n m l least most c d z).2.2 = 0 →
    (d : Int) ≤ (kRun n m l least most c d z).1 ∧ (kRun n m l least most c d z).1 < d + c ∧ 0 ≤ (kRun n m l least most c d z).2.1 ∧ (kRun n m l least most c d z).2.1 < n
  | 0, d, z, h => by simp [kRun] at h
  | c + 1, d, z, h => by
    simp only [kRun] at h ⊢
    cases hx : evRun (n : Int) l m 0 ⟨z, fun _ => 0⟩ with
    | inl q =>
      rw [hx] at h
      exact absurd h (evRun_err hx)
    | inr y =>
      rw [hx] at h
      simp only [] at h ⊢
      split
      · rename_i h2
        rcases fstI_range (badP least most y.z) n 0 with h3 | ⟨k, h3, h4, h5, _⟩
        · omega
        · rw [h3]; simp only []; omega
      · rename_i h2
        rw [if_neg h2] at h
        have := kRun_in c (d + 1) y.z h
        omega
def moreZ (z : Nat → Nat → Int) (w : Int) : Nat → Nat → Int := fun i j => if j = 0 then min 20000 (IntKind.i64.wrap (z i 0 + w)) else if j = 1 then min 20000 (IntKind.i64.wrap (z i 1 + w)) else z i j
theorem moreZ_ok {n : Nat} {z : Nat → Nat → Int} {w : Int} (hw : 0 ≤ w ∧ w ≤ 255) (h : rinkB n z = true) : rinkB n (moreZ z w) = true ∧ ∀ i, i < n → z i 0 ≤ moreZ z w i 0 := by
  have hb := rinkB_iff.1 h
  have key : ∀ i, i < n → okZ (moreZ z w i) = true ∧ z i 0 ≤ moreZ z w i 0 := fun i hi => by
    have h1 := okZ_iff.1 (hb.2 i hi)
    rw [okZ_iff]
    have e0 : IntKind.i64.wrap (z i 0 + w) = z i 0 + w := wrap_id (by omega) (by omega)
    have e1 : IntKind.i64.wrap (z i 1 + w) = z i 1 + w := wrap_id (by omega) (by omega)
    have m0 : moreZ z w i 0 = min 20000 (z i 0 + w) := by simp [moreZ, e0]
    have m1 : moreZ z w i 1 = min 20000 (z i 1 + w) := by simp [moreZ, e1]
    have m2 : moreZ z w i 2 = z i 2 := by simp [moreZ]
    have m3 : moreZ z w i 3 = z i 3 := by simp [moreZ]
    rw [m0, m1, m2, m3]
    omega
  exact ⟨rinkB_iff.2 ⟨hb.1, fun i hi => (key i hi).1⟩, fun i hi => (key i hi).2⟩
theorem breaks_more {n k m : Nat} {z t p : Nat → Nat → Int} {w more : Int} (hw : 0 ≤ more ∧ more ≤ 255) :
    ((breaksO n k m z t p w).2 = 4 → (breaksO n k m (moreZ z more) t p w).2 = 4) ∧
    ((breaksO n k m z t p w).2 = 0 → (breaksO n k m (moreZ z more) t p w).2 = 4 ∨ ((breaksO n k m (moreZ z more) t p w).2 = 0 ∧ (breaksO n k m z t p w).1 ≤ (breaksO n k m (moreZ z more) t p w).1)) := by
  unfold breaksO
  by_cases h1 : rinkB n z = true ∧ tableB k t = true
  · obtain ⟨h2, h3⟩ := moreZ_ok hw h1.1
    rw [if_pos h1, if_pos (show rinkB n (moreZ z more) = true ∧ tableB k t = true from ⟨h2, h1.2⟩)]
    by_cases h4 : fstI (offP n p) m 0 = -1 ∧ in3 w 1 (t (k - 1) 0) = true
    · rw [if_pos h4, if_pos h4]
      have hp : ∀ j, j < m → 0 ≤ p j 0 ∧ p j 0 ≤ (n : Int) - 1 := fun j hj => by
        have := fstI_none h4.1 j (by omega) (by omega)
        simp only [offP, Bool.not_eq_false'] at this
        exact in3_iff.1 this
      have sub : ∀ j, j < m → thinP' (moreZ z more) p (t (firstT k t w) 1) j = true → thinP' z p (t (firstT k t w) 1) j = true := fun j hj h => by
        simp only [thinP', decide_eq_true_eq] at h ⊢
        have := hp j hj
        have := h3 (p j 0).toNat (by omega)
        omega
      generalize thinP' (moreZ z more) p (t (firstT k t w) 1) = A at *
      generalize thinP' z p (t (firstT k t w) 1) = B at *
      rcases fstI_range A m 0 with a1 | ⟨a, a1, a2, a3, a4, a5⟩
      · rw [a1]; simp
      · have b4 := sub a (by omega) a4
        rcases fstI_range B m 0 with b1 | ⟨b, b1, b2, b3, b5, b6⟩
        · have := fstI_none b1 a (by omega) (by omega)
          rw [b4] at this; cases this
        · rw [a1, b1, if_pos (by omega), if_pos (by omega)]
          simp only []
          refine ⟨fun h => absurd h (by decide), fun _ => .inr ⟨trivial, ?_⟩⟩
          rcases Nat.lt_or_ge a b with h | h
          · have := b6 a (by omega) h
            rw [b4] at this; cases this
          · omega
    · rw [if_neg h4]; simp
  · rw [if_neg h1]; simp
theorem row_more {k : Nat} {z : Nat → Nat → Int} {w : Int} {a b : Nat} (ha : a < k + 1) (hb : b < 4) : catF k (fun i j => SV.int .i64 (moreZ z w i j)) (oneF [.int .i64 (min 20000 (IntKind.i64.wrap (z k 0 + w))), .int .i64 (min 20000 (IntKind.i64.wrap (z k 1 + w))), .int .i64 (z k 2), .int .i64 (z k 3)]) a b = .int .i64 (moreZ z w a b) := by
  unfold catF oneF
  split
  · rfl
  · have : a = k := by omega
    subst this
    have hc4 : b = 0 ∨ b = 1 ∨ b = 2 ∨ b = 3 := by omega
    rcases hc4 with rfl | rfl | rfl | rfl <;> rfl
theorem breaks_at (n k m : Nat) (z t p : Nat → Nat → Int) (w : Int) : breaksBase [.row n 4 (fun i j => .int .i64 (z i j)), .row k 2 (fun i j => .int .i64 (t i j)), .row m 1 (fun i j => .int .i64 (p i j)), .int .i64 w] = some ((4 = 4 ∧ IntR n 4 (fun i j => .int .i64 (z i j))) ∧ (2 = 2 ∧ IntR k 2 (fun i j => .int .i64 (t i j))) ∧ (1 = 1 ∧ IntR m 1 (fun i j => .int .i64 (p i j))) ∧ m ≤ 1000000, bTup (breaksO n k m z t p w)) := rfl
def iceHoldsABase : BaseF := fun args => match args with
  | [.row n sz_z f_z, .row m sz_l f_l, .int .i64 days, .int .i64 least, .int .i64 most, .row k sz_t f_t, .row mp sz_p f_p, .int .i64 w, .int .u8 more] => some ((sz_z = 4 ∧ IntR n 4 f_z) ∧ (sz_l = 5 ∧ IntR m 5 f_l) ∧ (sz_t = 2 ∧ IntR k 2 f_t) ∧ (sz_p = 1 ∧ IntR mp 1 f_p) ∧ ((Lit.int .u8 more).wf = true) ∧ ((n : Int) * 32 ≤ 140737488355328 ∧ (rinkB n (fun i j => iv (f_z i j)) = true ∧ 0 ≤ days ∧ 0 ≤ least ∧ least ≤ most ∧ most ≤ 20000) ∧ (keepsO n m (fun i j => iv (f_z i j)) (fun i j => iv (f_l i j)) days least most).2.2 = 0), .bool true)
  | _ => none
theorem iceHoldsA_eq (n : Nat) (z : Nat → Nat → Int) (m : Nat) (l : Nat → Nat → Int) (days : Int) (least : Int) (most : Int) (k : Nat) (t : Nat → Nat → Int) (mp : Nat) (p : Nat → Nat → Int) (w : Int) (more : Int) : iceHoldsABase [.row n 4 (fun i j => .int .i64 (z i j)), .row m 5 (fun i j => .int .i64 (l i j)), .int .i64 days, .int .i64 least, .int .i64 most, .row k 2 (fun i j => .int .i64 (t i j)), .row mp 1 (fun i j => .int .i64 (p i j)), .int .i64 w, .int .u8 more] = some ((4 = 4 ∧ IntR n 4 (fun i j => .int .i64 (z i j))) ∧ (5 = 5 ∧ IntR m 5 (fun i j => .int .i64 (l i j))) ∧ (2 = 2 ∧ IntR k 2 (fun i j => .int .i64 (t i j))) ∧ (1 = 1 ∧ IntR mp 1 (fun i j => .int .i64 (p i j))) ∧ ((Lit.int .u8 more).wf = true) ∧ ((n : Int) * 32 ≤ 140737488355328 ∧ (rinkB n z = true ∧ 0 ≤ days ∧ 0 ≤ least ∧ least ≤ most ∧ most ≤ 20000) ∧ (keepsO n m z l days least most).2.2 = 0), .bool true) := rfl
theorem iceHoldsA_base : Base Try.prog 11 iceHoldsABase := by
  intro args p v hq hp
  unfold iceHoldsABase at hq
  split at hq
  rotate_left
  · cases hq
  rename_i n sz_z f_z m sz_l f_l days least most k sz_t f_t mp sz_p f_p w more
  cases hq
  obtain ⟨⟨rfl, i_z⟩, ⟨rfl, i_l⟩, ⟨rfl, i_t⟩, ⟨rfl, i_p⟩, wf_more, pre⟩ := hp
  refine base_of (C := cx [] [(19, 37, playBase)] [(13, aliveBase), (16, rinkBase), (23, spanBase), (32, keepsBase), (33, breaksBase)] [] none) (cx_ok ⟨play_base, trivial⟩ ⟨alive_base, rink_base, span_base, keeps_base, breaks_base, trivial⟩) rfl (g := 11) (fn := Try.f11)
    (args' := [.row n 4 (rowF .i64 (fun i j => iv (f_z i j))), .row m 5 (rowF .i64 (fun i j => iv (f_l i j))), .int .i64 days, .int .i64 least, .int .i64 most, .row k 2 (rowF .i64 (fun i j => iv (f_t i j))), .row mp 1 (rowF .i64 (fun i j => iv (f_p i j))), .int .i64 w, .int .u8 more]) (fn_11) rfl 1000 (by simp only [BdL, Bd, and_self, and_true, true_and]; exact ⟨fun i j hi hj => by rw [i_z i j hi hj]; trivial, fun i j hi hj => by rw [i_l i j hi hj]; trivial, fun i j hi hj => by rw [i_t i j hi hj]; trivial, fun i j hi hj => by rw [i_p i j hi hj]; trivial⟩) ⟨SameD.int i_z, SameD.int i_l, SameD.rfl' _, SameD.rfl' _, SameD.rfl' _, SameD.int i_t, SameD.int i_p, SameD.rfl' _, SameD.rfl' _, trivial⟩ ?_
  generalize (fun i j => iv (f_z i j)) = z at *
  generalize (fun i j => iv (f_l i j)) = l at *
  generalize (fun i j => iv (f_t i j)) = t at *
  generalize (fun i j => iv (f_p i j)) = p at *
  simp only [rowF_eq]
  simp only [alive_eq, rink_eq, span_eq, kTup, bTup, play_at, keeps_at, pTup, breaks_at, Try.f11, go_sem, ↓reduceIte, Nat.reduceAdd, Nat.reduceSub, Nat.reduceMul, Nat.reduceEqDiff, Nat.reduceLT, Nat.reduceLeDiff, Int.reduceToNat, Int.reduceLE, Int.reduceLT, Int.reduceEq, Int.reduceNeg, reduceCtorEq]
  obtain ⟨pre, hV, hE⟩ := pre
  refine ⟨fun _ => trivial, fun c1 => ⟨fun _ => trivial, fun c2 => ⟨fun _ => trivial, fun c3 => ⟨fun _ => trivial, fun c4 => ?_⟩⟩⟩⟩
  simp only [decide_eq_false_iff_not] at c1 c2 c3 c4
  have hmo : 0 ≤ more ∧ more ≤ 255 := wf_u8 wf_more
  refine ⟨fun c5 => ⟨fun c6 => ⟨fun c7 => ⟨fun c8 => ⟨fun c9 => ?_, fun c9 => ?_⟩, fun c8 => ?_⟩, fun c7 => ?_⟩, fun c6 => ?_⟩, fun c5 => ?_⟩
  · simp only [decide_eq_true_eq] at c6 c7 c8 c9
    have hK := keepsO_eq (n := n) (m := m) (z := z) (l := l) (days := days) (least := least) (most := most) c5 (in3_iff.2 ⟨c6, by omega⟩) (in3_iff.2 ⟨by omega, by omega⟩) (in3_iff.2 ⟨by omega, by omega⟩)
    have hK2 := hK
    rw [if_neg (by omega)] at hK2
    have hin : (keepsO n m z l days least most).2.2 = 0 → 0 ≤ (keepsO n m z l days least most).1 ∧ (keepsO n m z l days least most).1 < days ∧ 0 ≤ (keepsO n m z l days least most).2.1 ∧ (keepsO n m z l days least most).2.1 < n := fun h => by
      rw [hK2] at h ⊢
      have := kRun_in days.toNat 0 z h
      omega
    have hb := rinkB_iff.1 c5
    generalize hKK : keepsO n m z l days least most = K at *
    have hL : ∀ a : Int, (K.2.2 = 0 → a = K.1 + 1) → (K.2.2 ≠ 0 → a = days) → ∃ L : Nat, a = (L : Int) ∧ L ≤ days.toNat ∧ (K.2.2 = 0 → (L : Int) = K.1 + 1) ∧ (K.2.2 ≠ 0 → (L : Int) = days) := fun a h1 h2 => ⟨a.toNat, by
      by_cases h : K.2.2 = 0
      · have := hin h; have := h1 h; omega
      · have := h2 h; omega⟩
    refine ⟨fun d1 => ?_, fun d1 => ?_⟩
    · refine ⟨fun d2 => ?_, fun d2 => ⟨fun d3 => ?_, fun d3 => ?_⟩⟩
      · simp only [decide_eq_true_eq] at d1 d2
        have := hin d1; omega
      · simp only [decide_eq_true_eq, decide_eq_false_iff_not] at d1 d2 d3
        have := hin d1; omega
      simp only [decide_eq_true_eq, decide_eq_false_iff_not] at d1
      have := hin d1
      obtain ⟨L, hL1, hL2, hL3, hL4⟩ := hL (K.1 + 1) (fun _ => rfl) (fun h => absurd d1 h)
      have e1 : IntKind.i64.wrap (K.1 + 1) = (L : Int) := by rw [← hL1]; exact wrap_id (by omega) (by omega)
      simp only [e1]
      refine loop_mk [(37, 4)] { q : Nat × (Nat → Nat → Int) // q.1 ≤ L ∧ (∀ i, i < n → okZ (q.2 i) = true) ∧ (q.1 < L ∨ K.2.2 ≠ 0 → kRun n m l least most (days.toNat - q.1) q.1 q.2 = kRun n m l least most days.toNat 0 z) }
        (fun q => [(100, .int .i64 (q.1.1 : Int)), (99, .int .i64 (L : Int)), (22, match q.1.1 with | 0 => .row n 4 fun i j => .int .i64 (q.1.2 i j) | d + 1 => .vec 0 (d + 1)), (23, .int .i64 (L : Int)), (21, .int .i64 K.2.2), (20, .int .i64 K.2.1), (19, .int .i64 K.1), (8, .int .u8 more), (4, .int .i64 most), (3, .int .i64 least), (2, .int .i64 days), (1, .row m 5 fun i j => .int .i64 (l i j)), (5, .row k 2 fun i j => .int .i64 (t i j)), (6, .row mp 1 fun i j => .int .i64 (p i j)), (7, .int .i64 w), (0, .row n 4 fun i j => .int .i64 (z i j))])
        (fun q => ⟨[], [.live q.1.1 37 4 (match q.1.1 with | 0 => 0 | _ + 1 => n) fun i j => .int .i64 (q.1.2 i j)]⟩) (fun q => L - q.1.1) (by simp) (fun _ => ⟨rfl, rfl⟩) ⟨(0, z), by omega, hb.2, fun _ => rfl⟩ (by apply sub_of <;> simp only [mkH, go_sem, ↓reduceIte, Nat.reduceAdd, Nat.reduceSub, Nat.reduceMul, Nat.reduceEqDiff, Nat.reduceLT, Nat.reduceLeDiff, Int.reduceToNat, Int.reduceLE, Int.reduceLT, Int.reduceEq, Int.reduceNeg, reduceCtorEq] <;> (try simp) <;> (try exact hL1)) ?_
      rintro ⟨⟨d, x⟩, hdl, hok, hrun⟩
      simp only [] at hdl hok hrun
      have hw4 : IntKind.i64.wrap ((d : Int) + 1) = ((d + 1 : Nat) : Int) := by rw [wrap_id (by omega) (by omega)]; omega
      have hrx : rinkB n x = true := rinkB_iff.2 ⟨hb.1, hok⟩
      rcases d with _ | d
      · simp only [alive_eq, rink_eq, span_eq, kTup, bTup, play_at, keeps_at, pTup, breaks_at, Try.f11, go_sem, ↓reduceIte, Nat.reduceAdd, Nat.reduceSub, Nat.reduceMul, Nat.reduceEqDiff, Nat.reduceLT, Nat.reduceLeDiff, Int.reduceToNat, Int.reduceLE, Int.reduceLT, Int.reduceEq, Int.reduceNeg, reduceCtorEq]
        refine ⟨fun e1 => ?_, fun e1 => ?_⟩
        · simp only [decide_eq_true_eq] at e1
          obtain ⟨k1, k2⟩ := keep_day (days := days) (d := 0) (by rw [hKK]; exact hK) hrx (by omega) (.inr (by omega)) (fun _ => hrun (.inl (by omega)))
          rw [hKK] at k1 k2
          refine ⟨fun e2 => ?_, fun e2 => ?_⟩
          · simp only [Bool.not_eq_true', decide_eq_false_iff_not] at e2
            rw [k1 e2]
            refine ⟨fun _ => ⟨fun _ => ⟨fun _ => trivial, fun h => ?_⟩, fun h => ?_⟩, fun h => ?_⟩ <;> simp at h
          · simp only [Bool.not_eq_false', decide_eq_true_eq] at e2
            obtain ⟨k3, k4, k5, k6, k7⟩ := k2 e2
            have F : ∀ a, a < n → (((playT n m x l).z a 0 < least ∨ most < (playT n m x l).z a 1) → K.2.2 = 0 ∧ K.1 = ((0 : Nat) : Int) ∧ K.2.1 ≤ a) ∧ (¬ ((playT n m x l).z a 0 < least ∨ most < (playT n m x l).z a 1) → ¬ (K.2.2 = 0 ∧ K.1 = ((0 : Nat) : Int) ∧ K.2.1 = a)) := fun a ha => by
              rcases fstI_range (badP least most (playT n m x l).z) n 0 with h1 | ⟨j, h1, h2, h3, h4, h5⟩
              · have h6 := fstI_none h1 a (by omega) (by omega)
                simp only [badP, Bool.or_eq_false_iff, decide_eq_false_iff_not] at h6
                have h7 := k7 (by omega)
                refine ⟨fun h => by omega, fun _ h => ?_⟩
                have h8 := hK2.trans h7.symm
                have h9 := kRun_in (days.toNat - (0 + 1)) (0 + 1) (playT n m x l).z (by rw [← h8]; exact h.1)
                rw [← h8] at h9
                omega
              · have h6 := k6 (by omega)
                rw [h6, h1]
                simp only [badP, Bool.or_eq_true, decide_eq_true_eq] at h4
                refine ⟨fun h => ⟨rfl, rfl, ?_⟩, fun h h' => ?_⟩
                · show (j : Int) ≤ a
                  rcases Nat.lt_or_ge a j with h7 | h7
                  · have := h5 a (by omega) h7
                    simp only [badP, Bool.or_eq_false_iff, decide_eq_false_iff_not] at this
                    omega
                  · omega
                · have h8 : (j : Int) = a := h'.2.2
                  obtain rfl : j = a := by omega
                  exact h h4
            have G : ¬ 0 ≤ fstI (badP least most (playT n m x l).z) n 0 ∨ L = 0 + 1 := by
              by_cases h : 0 ≤ fstI (badP least most (playT n m x l).z) n 0
              · right
                have := k6 h
                have h3 := hL3 (by rw [this])
                rw [this] at h3
                simp only [] at h3
                omega
              · exact .inl h
            simp only [k3]
            refine loop_ofH { a : Nat // a ≤ n } (fun a => [(129, .int .i64 (a.1 : Int)), (128, .int .i64 (n : Int)), (127, .vec 1 0), (25, .vec 1 0), (24, .int .i64 ((0 : Nat) : Int)), (100, .int .i64 ((0 : Nat) : Int)), (99, .int .i64 (L : Int)), (23, .int .i64 (L : Int)), (21, .int .i64 K.2.2), (20, .int .i64 K.2.1), (19, .int .i64 K.1), (8, .int .u8 more), (4, .int .i64 most), (3, .int .i64 least), (2, .int .i64 days), (1, .row m 5 fun i j => .int .i64 (l i j)), (5, .row k 2 fun i j => .int .i64 (t i j)), (6, .row mp 1 fun i j => .int .i64 (p i j)), (7, .int .i64 w), (0, .row n 4 fun i j => .int .i64 (z i j))]) (fun h _ => h) (fun a => n - a.1) (fun _ => ⟨rfl, rfl⟩) ⟨0, by omega⟩ (by (apply sub_of <;> simp only [go_sem, ↓reduceIte, Nat.reduceAdd, Nat.reduceSub, Nat.reduceMul, Nat.reduceEqDiff, Nat.reduceLT, Nat.reduceLeDiff, Int.reduceToNat, Int.reduceLE, Int.reduceLT, Int.reduceEq, Int.reduceNeg, reduceCtorEq] <;> (try simp [catF]))) ?_
            rintro ⟨a, ha⟩
            simp only [alive_eq, rink_eq, span_eq, kTup, bTup, play_at, keeps_at, pTup, breaks_at, Try.f11, go_sem, ↓reduceIte, Nat.reduceAdd, Nat.reduceSub, Nat.reduceMul, Nat.reduceEqDiff, Nat.reduceLT, Nat.reduceLeDiff, Int.reduceToNat, Int.reduceLE, Int.reduceLT, Int.reduceEq, Int.reduceNeg, reduceCtorEq]
            have hw5 : IntKind.i64.wrap ((a : Int) + 1) = ((a + 1 : Nat) : Int) := by rw [wrap_id (by omega) (by omega)]; omega
            refine ⟨fun g1 => ?_, fun g1 => ?_⟩
            · simp only [decide_eq_true_eq] at g1
              have Fa := F a (by omega)
              clear k1 k2 k5 k6 k7 F G hrun hok hrx hb i_z i_l i_t i_p wf_more
              repeat' first | refine And.intro (fun _ => ?_) (fun _ => ?_) | refine And.intro ?_ ?_
              all_goals first | omega | (exfalso; simp only [decide_eq_true_eq, decide_eq_false_iff_not, Bool.not_eq_true', Bool.not_eq_false'] at *; omega) | (refine ⟨⟨a + 1, by omega⟩, by simp only []; omega, ?_⟩; apply sub_of <;> simp only [hw5, go_sem, ↓reduceIte, Nat.reduceAdd, Nat.reduceSub, Nat.reduceMul, Nat.reduceEqDiff, Nat.reduceLT, Nat.reduceLeDiff, Int.reduceToNat, Int.reduceLE, Int.reduceLT, Int.reduceEq, Int.reduceNeg, reduceCtorEq] <;> (try simp))
            · refine ⟨⟨(0 + 1, (playT n m x l).z), by omega, k5, fun h => k7 (fun h2 => ?_)⟩, by simp only []; omega, ?_⟩
              · have := k6 h2
                rw [this] at h
                simp only [] at h
                omega
              · refine sub_mv 0 1 22 rfl rfl (by omega) (by simp only [go_sem, ↓reduceIte, Nat.reduceAdd, Nat.reduceSub, Nat.reduceMul, Nat.reduceEqDiff, Nat.reduceLT, Nat.reduceLeDiff, Int.reduceToNat, Int.reduceLE, Int.reduceLT, Int.reduceEq, Int.reduceNeg, reduceCtorEq]) ?_
                apply sub_of <;> simp only [hw4, go_sem, ↓reduceIte, Nat.reduceAdd, Nat.reduceSub, Nat.reduceMul, Nat.reduceEqDiff, Nat.reduceLT, Nat.reduceLeDiff, Int.reduceToNat, Int.reduceLE, Int.reduceLT, Int.reduceEq, Int.reduceNeg, reduceCtorEq] <;> (try simp)
        · simp only [decide_eq_false_iff_not] at e1
          have hend : K.2.2 ≠ 0 → K.2.2 = 4 := fun h => by
            have h2 := hrun (.inr h)
            have h3 := hL4 h
            rw [show days.toNat - 0 = 0 by omega] at h2
            rw [hK2, ← h2]
            rfl
          repeat' first | refine And.intro (fun _ => ?_) (fun _ => ?_) | refine And.intro ?_ ?_
          all_goals first | omega | (exfalso; clear hrun hok hrx hb i_z i_l i_t i_p wf_more; simp only [decide_eq_true_eq, decide_eq_false_iff_not, Bool.not_eq_true', Bool.not_eq_false'] at *; omega) | skip
          all_goals
            refine loop_ofH { i : Nat // i ≤ n } (fun i => [(227, .int .i64 (i.1 : Int)), (226, .int .i64 (n : Int)), (225, .row n 4 fun i j => .int .i64 (z i j)), (34, .vec 1 i.1), (33, .int .i64 (breaksO n k mp z t p w).2), (32, .int .i64 (breaksO n k mp z t p w).1), (8, .int .u8 more), (5, .row k 2 fun i j => .int .i64 (t i j)), (6, .row mp 1 fun i j => .int .i64 (p i j)), (7, .int .i64 w), (0, .row n 4 fun i j => .int .i64 (z i j))])
              (fun h i => ⟨h.blks, [.dead, .live i.1 37 4 i.1 fun i j => .int .i64 (moreZ z more i j)]⟩) (fun i => n - i.1) (fun _ => ⟨rfl, rfl⟩) ⟨0, by omega⟩ (by (apply sub_of <;> simp only [go_sem, ↓reduceIte, Nat.reduceAdd, Nat.reduceSub, Nat.reduceMul, Nat.reduceEqDiff, Nat.reduceLT, Nat.reduceLeDiff, Int.reduceToNat, Int.reduceLE, Int.reduceLT, Int.reduceEq, Int.reduceNeg, reduceCtorEq] <;> (try simp [catF]))) ?_
            rintro ⟨i, hi⟩
            simp only [alive_eq, rink_eq, span_eq, kTup, bTup, play_at, keeps_at, pTup, breaks_at, Try.f11, go_sem, ↓reduceIte, Nat.reduceAdd, Nat.reduceSub, Nat.reduceMul, Nat.reduceEqDiff, Nat.reduceLT, Nat.reduceLeDiff, Int.reduceToNat, Int.reduceLE, Int.reduceLT, Int.reduceEq, Int.reduceNeg, reduceCtorEq]
            have hw2 : IntKind.i64.wrap ((i : Int) + 1) = ((i + 1 : Nat) : Int) := by rw [wrap_id (by omega) (by omega)]; omega
            have hw3 : IntKind.i64.wrap more = more := wrap_id (by omega) (by omega)
            refine ⟨fun d1 => ?_, fun d1 => ?_⟩
            · simp only [decide_eq_true_eq] at d1
              refine ⟨by omega, by omega, ⟨i + 1, by omega⟩, by simp only []; omega, ?_⟩
              apply sub_of <;> simp only [hw2, hw3, go_sem, ↓reduceIte, Nat.reduceAdd, Nat.reduceSub, Nat.reduceMul, Nat.reduceEqDiff, Nat.reduceLT, Nat.reduceLeDiff, Int.reduceToNat, Int.reduceLE, Int.reduceLT, Int.reduceEq, Int.reduceNeg, reduceCtorEq] <;> (try simp)
              exact fun a c ha hc => row_more ha hc
            · simp only [decide_eq_false_iff_not] at d1
              obtain rfl : i = n := by omega
              obtain ⟨b4, b0⟩ := breaks_more (n := i) (k := k) (m := mp) (z := z) (t := t) (p := p) (w := w) hmo
              refine ⟨by omega, ?_⟩
              clear wf_more hw2 hw3
              repeat' first | exact trivial | refine And.intro (fun _ => ?_) (fun _ => ?_)
              all_goals
                exfalso
                simp only [decide_eq_true_eq, decide_eq_false_iff_not, Bool.not_eq_true', Bool.not_eq_false'] at *
                omega
      · simp only [alive_eq, rink_eq, span_eq, kTup, bTup, play_at, keeps_at, pTup, breaks_at, Try.f11, go_sem, ↓reduceIte, Nat.reduceAdd, Nat.reduceSub, Nat.reduceMul, Nat.reduceEqDiff, Nat.reduceLT, Nat.reduceLeDiff, Int.reduceToNat, Int.reduceLE, Int.reduceLT, Int.reduceEq, Int.reduceNeg, reduceCtorEq]
        refine ⟨fun e1 => ?_, fun e1 => ?_⟩
        · simp only [decide_eq_true_eq] at e1
          obtain ⟨k1, k2⟩ := keep_day (days := days) (d := (d + 1)) (by rw [hKK]; exact hK) hrx (by omega) (.inr (by omega)) (fun _ => hrun (.inl (by omega)))
          rw [hKK] at k1 k2
          refine ⟨fun e2 => ?_, fun e2 => ?_⟩
          · simp only [Bool.not_eq_true', decide_eq_false_iff_not] at e2
            rw [k1 e2]
            refine ⟨fun _ => ⟨fun _ => ⟨fun _ => trivial, fun h => ?_⟩, fun h => ?_⟩, fun h => ?_⟩ <;> simp at h
          · simp only [Bool.not_eq_false', decide_eq_true_eq] at e2
            obtain ⟨k3, k4, k5, k6, k7⟩ := k2 e2
            have F : ∀ a, a < n → (((playT n m x l).z a 0 < least ∨ most < (playT n m x l).z a 1) → K.2.2 = 0 ∧ K.1 = (((d + 1) : Nat) : Int) ∧ K.2.1 ≤ a) ∧ (¬ ((playT n m x l).z a 0 < least ∨ most < (playT n m x l).z a 1) → ¬ (K.2.2 = 0 ∧ K.1 = (((d + 1) : Nat) : Int) ∧ K.2.1 = a)) := fun a ha => by
              rcases fstI_range (badP least most (playT n m x l).z) n 0 with h1 | ⟨j, h1, h2, h3, h4, h5⟩
              · have h6 := fstI_none h1 a (by omega) (by omega)
                simp only [badP, Bool.or_eq_false_iff, decide_eq_false_iff_not] at h6
                have h7 := k7 (by omega)
                refine ⟨fun h => by omega, fun _ h => ?_⟩
                have h8 := hK2.trans h7.symm
                have h9 := kRun_in (days.toNat - ((d + 1) + 1)) ((d + 1) + 1) (playT n m x l).z (by rw [← h8]; exact h.1)
                rw [← h8] at h9
                omega
              · have h6 := k6 (by omega)
                rw [h6, h1]
                simp only [badP, Bool.or_eq_true, decide_eq_true_eq] at h4
                refine ⟨fun h => ⟨rfl, rfl, ?_⟩, fun h h' => ?_⟩
                · show (j : Int) ≤ a
                  rcases Nat.lt_or_ge a j with h7 | h7
                  · have := h5 a (by omega) h7
                    simp only [badP, Bool.or_eq_false_iff, decide_eq_false_iff_not] at this
                    omega
                  · omega
                · have h8 : (j : Int) = a := h'.2.2
                  obtain rfl : j = a := by omega
                  exact h h4
            have G : ¬ 0 ≤ fstI (badP least most (playT n m x l).z) n 0 ∨ L = (d + 1) + 1 := by
              by_cases h : 0 ≤ fstI (badP least most (playT n m x l).z) n 0
              · right
                have := k6 h
                have h3 := hL3 (by rw [this])
                rw [this] at h3
                simp only [] at h3
                omega
              · exact .inl h
            simp only [k3]
            refine loop_ofH { a : Nat // a ≤ n } (fun a => [(129, .int .i64 (a.1 : Int)), (128, .int .i64 (n : Int)), (127, .vec 1 0), (25, .vec 1 0), (24, .int .i64 (((d + 1) : Nat) : Int)), (100, .int .i64 (((d + 1) : Nat) : Int)), (99, .int .i64 (L : Int)), (23, .int .i64 (L : Int)), (21, .int .i64 K.2.2), (20, .int .i64 K.2.1), (19, .int .i64 K.1), (8, .int .u8 more), (4, .int .i64 most), (3, .int .i64 least), (2, .int .i64 days), (1, .row m 5 fun i j => .int .i64 (l i j)), (5, .row k 2 fun i j => .int .i64 (t i j)), (6, .row mp 1 fun i j => .int .i64 (p i j)), (7, .int .i64 w), (0, .row n 4 fun i j => .int .i64 (z i j))]) (fun h _ => h) (fun a => n - a.1) (fun _ => ⟨rfl, rfl⟩) ⟨0, by omega⟩ (by (apply sub_of <;> simp only [go_sem, ↓reduceIte, Nat.reduceAdd, Nat.reduceSub, Nat.reduceMul, Nat.reduceEqDiff, Nat.reduceLT, Nat.reduceLeDiff, Int.reduceToNat, Int.reduceLE, Int.reduceLT, Int.reduceEq, Int.reduceNeg, reduceCtorEq] <;> (try simp [catF]))) ?_
            rintro ⟨a, ha⟩
            simp only [alive_eq, rink_eq, span_eq, kTup, bTup, play_at, keeps_at, pTup, breaks_at, Try.f11, go_sem, ↓reduceIte, Nat.reduceAdd, Nat.reduceSub, Nat.reduceMul, Nat.reduceEqDiff, Nat.reduceLT, Nat.reduceLeDiff, Int.reduceToNat, Int.reduceLE, Int.reduceLT, Int.reduceEq, Int.reduceNeg, reduceCtorEq]
            have hw5 : IntKind.i64.wrap ((a : Int) + 1) = ((a + 1 : Nat) : Int) := by rw [wrap_id (by omega) (by omega)]; omega
            refine ⟨fun g1 => ?_, fun g1 => ?_⟩
            · simp only [decide_eq_true_eq] at g1
              have Fa := F a (by omega)
              clear k1 k2 k5 k6 k7 F G hrun hok hrx hb i_z i_l i_t i_p wf_more
              repeat' first | refine And.intro (fun _ => ?_) (fun _ => ?_) | refine And.intro ?_ ?_
              all_goals first | omega | (exfalso; simp only [decide_eq_true_eq, decide_eq_false_iff_not, Bool.not_eq_true', Bool.not_eq_false'] at *; omega) | (refine ⟨⟨a + 1, by omega⟩, by simp only []; omega, ?_⟩; apply sub_of <;> simp only [hw5, go_sem, ↓reduceIte, Nat.reduceAdd, Nat.reduceSub, Nat.reduceMul, Nat.reduceEqDiff, Nat.reduceLT, Nat.reduceLeDiff, Int.reduceToNat, Int.reduceLE, Int.reduceLT, Int.reduceEq, Int.reduceNeg, reduceCtorEq] <;> (try simp))
            · refine ⟨⟨((d + 1) + 1, (playT n m x l).z), by omega, k5, fun h => k7 (fun h2 => ?_)⟩, by simp only []; omega, ?_⟩
              · have := k6 h2
                rw [this] at h
                simp only [] at h
                omega
              · refine sub_mv 0 1 22 rfl rfl (by omega) (by simp only [go_sem, ↓reduceIte, Nat.reduceAdd, Nat.reduceSub, Nat.reduceMul, Nat.reduceEqDiff, Nat.reduceLT, Nat.reduceLeDiff, Int.reduceToNat, Int.reduceLE, Int.reduceLT, Int.reduceEq, Int.reduceNeg, reduceCtorEq]) ?_
                apply sub_of <;> simp only [hw4, go_sem, ↓reduceIte, Nat.reduceAdd, Nat.reduceSub, Nat.reduceMul, Nat.reduceEqDiff, Nat.reduceLT, Nat.reduceLeDiff, Int.reduceToNat, Int.reduceLE, Int.reduceLT, Int.reduceEq, Int.reduceNeg, reduceCtorEq] <;> (try simp)
        · simp only [decide_eq_false_iff_not] at e1
          have hend : K.2.2 ≠ 0 → K.2.2 = 4 := fun h => by
            have h2 := hrun (.inr h)
            have h3 := hL4 h
            rw [show days.toNat - (d + 1) = 0 by omega] at h2
            rw [hK2, ← h2]
            rfl
          repeat' first | refine And.intro (fun _ => ?_) (fun _ => ?_) | refine And.intro ?_ ?_
          all_goals first | omega | (exfalso; clear hrun hok hrx hb i_z i_l i_t i_p wf_more; simp only [decide_eq_true_eq, decide_eq_false_iff_not, Bool.not_eq_true', Bool.not_eq_false'] at *; omega) | skip
          all_goals
            refine loop_ofH { i : Nat // i ≤ n } (fun i => [(227, .int .i64 (i.1 : Int)), (226, .int .i64 (n : Int)), (225, .row n 4 fun i j => .int .i64 (z i j)), (34, .vec 1 i.1), (33, .int .i64 (breaksO n k mp z t p w).2), (32, .int .i64 (breaksO n k mp z t p w).1), (8, .int .u8 more), (5, .row k 2 fun i j => .int .i64 (t i j)), (6, .row mp 1 fun i j => .int .i64 (p i j)), (7, .int .i64 w), (0, .row n 4 fun i j => .int .i64 (z i j))])
              (fun h i => ⟨h.blks, [.dead, .live i.1 37 4 i.1 fun i j => .int .i64 (moreZ z more i j)]⟩) (fun i => n - i.1) (fun _ => ⟨rfl, rfl⟩) ⟨0, by omega⟩ (by (apply sub_of <;> simp only [go_sem, ↓reduceIte, Nat.reduceAdd, Nat.reduceSub, Nat.reduceMul, Nat.reduceEqDiff, Nat.reduceLT, Nat.reduceLeDiff, Int.reduceToNat, Int.reduceLE, Int.reduceLT, Int.reduceEq, Int.reduceNeg, reduceCtorEq] <;> (try simp [catF]))) ?_
            rintro ⟨i, hi⟩
            simp only [alive_eq, rink_eq, span_eq, kTup, bTup, play_at, keeps_at, pTup, breaks_at, Try.f11, go_sem, ↓reduceIte, Nat.reduceAdd, Nat.reduceSub, Nat.reduceMul, Nat.reduceEqDiff, Nat.reduceLT, Nat.reduceLeDiff, Int.reduceToNat, Int.reduceLE, Int.reduceLT, Int.reduceEq, Int.reduceNeg, reduceCtorEq]
            have hw2 : IntKind.i64.wrap ((i : Int) + 1) = ((i + 1 : Nat) : Int) := by rw [wrap_id (by omega) (by omega)]; omega
            have hw3 : IntKind.i64.wrap more = more := wrap_id (by omega) (by omega)
            refine ⟨fun d1 => ?_, fun d1 => ?_⟩
            · simp only [decide_eq_true_eq] at d1
              refine ⟨by omega, by omega, ⟨i + 1, by omega⟩, by simp only []; omega, ?_⟩
              apply sub_of <;> simp only [hw2, hw3, go_sem, ↓reduceIte, Nat.reduceAdd, Nat.reduceSub, Nat.reduceMul, Nat.reduceEqDiff, Nat.reduceLT, Nat.reduceLeDiff, Int.reduceToNat, Int.reduceLE, Int.reduceLT, Int.reduceEq, Int.reduceNeg, reduceCtorEq] <;> (try simp)
              exact fun a c ha hc => row_more ha hc
            · simp only [decide_eq_false_iff_not] at d1
              obtain rfl : i = n := by omega
              obtain ⟨b4, b0⟩ := breaks_more (n := i) (k := k) (m := mp) (z := z) (t := t) (p := p) (w := w) hmo
              refine ⟨by omega, ?_⟩
              clear wf_more hw2 hw3
              repeat' first | exact trivial | refine And.intro (fun _ => ?_) (fun _ => ?_)
              all_goals
                exfalso
                simp only [decide_eq_true_eq, decide_eq_false_iff_not, Bool.not_eq_true', Bool.not_eq_false'] at *
                omega
    · simp only [decide_eq_false_iff_not] at d1; exact absurd hE d1
  all_goals
    exfalso
    obtain ⟨v1, v2, v3, v4, v5⟩ := hV
    simp only [decide_eq_true_eq, decide_eq_false_iff_not, v1] at *
    first | omega | contradiction
end Go.Eng
end

/- IceHolds: another way. -/
section
namespace Go.Eng
open Go Go.RowKit Go.Proofs
set_option maxRecDepth 100000
set_option maxHeartbeats 4000000
attribute [local irreducible] OwnT DefS
set_option maxHeartbeats 100000000
def iceHoldsCBase : BaseF := fun args => match args with
  | [.row n sz_z f_z, .row m sz_l f_l, .int .i64 days, .int .i64 least, .int .i64 most, .row k sz_t f_t, .row mp sz_p f_p, .int .i64 w, .int .u8 more] => some ((sz_z = 4 ∧ IntR n 4 f_z) ∧ (sz_l = 5 ∧ IntR m 5 f_l) ∧ (sz_t = 2 ∧ IntR k 2 f_t) ∧ (sz_p = 1 ∧ IntR mp 1 f_p) ∧ ((Lit.int .u8 more).wf = true) ∧ ((n : Int) * 32 ≤ 140737488355328 ∧ (rinkB n (fun i j => iv (f_z i j)) = true ∧ 0 ≤ days ∧ 0 ≤ least ∧ least ≤ most ∧ most ≤ 20000) ∧ ¬ (keepsO n m (fun i j => iv (f_z i j)) (fun i j => iv (f_l i j)) days least most).2.2 = 0), .bool true)
  | _ => none
theorem iceHoldsC_eq (n : Nat) (z : Nat → Nat → Int) (m : Nat) (l : Nat → Nat → Int) (days : Int) (least : Int) (most : Int) (k : Nat) (t : Nat → Nat → Int) (mp : Nat) (p : Nat → Nat → Int) (w : Int) (more : Int) : iceHoldsCBase [.row n 4 (fun i j => .int .i64 (z i j)), .row m 5 (fun i j => .int .i64 (l i j)), .int .i64 days, .int .i64 least, .int .i64 most, .row k 2 (fun i j => .int .i64 (t i j)), .row mp 1 (fun i j => .int .i64 (p i j)), .int .i64 w, .int .u8 more] = some ((4 = 4 ∧ IntR n 4 (fun i j => .int .i64 (z i j))) ∧ (5 = 5 ∧ IntR m 5 (fun i j => .int .i64 (l i j))) ∧ (2 = 2 ∧ IntR k 2 (fun i j => .int .i64 (t i j))) ∧ (1 = 1 ∧ IntR mp 1 (fun i j => .int .i64 (p i j))) ∧ ((Lit.int .u8 more).wf = true) ∧ ((n : Int) * 32 ≤ 140737488355328 ∧ (rinkB n z = true ∧ 0 ≤ days ∧ 0 ≤ least ∧ least ≤ most ∧ most ≤ 20000) ∧ ¬ (keepsO n m z l days least most).2.2 = 0), .bool true) := rfl
theorem iceHoldsC_base : Base Try.prog 11 iceHoldsCBase := by
  intro args p v hq hp
  unfold iceHoldsCBase at hq
  split at hq
  rotate_left
  · cases hq
  rename_i n sz_z f_z m sz_l f_l days least most k sz_t f_t mp sz_p f_p w more
  cases hq
  obtain ⟨⟨rfl, i_z⟩, ⟨rfl, i_l⟩, ⟨rfl, i_t⟩, ⟨rfl, i_p⟩, wf_more, pre⟩ := hp
  refine base_of (C := cx [] [(19, 37, playBase)] [(13, aliveBase), (16, rinkBase), (23, spanBase), (32, keepsBase), (33, breaksBase)] [] none) (cx_ok ⟨play_base, trivial⟩ ⟨alive_base, rink_base, span_base, keeps_base, breaks_base, trivial⟩) rfl (g := 11) (fn := Try.f11)
    (args' := [.row n 4 (rowF .i64 (fun i j => iv (f_z i j))), .row m 5 (rowF .i64 (fun i j => iv (f_l i j))), .int .i64 days, .int .i64 least, .int .i64 most, .row k 2 (rowF .i64 (fun i j => iv (f_t i j))), .row mp 1 (rowF .i64 (fun i j => iv (f_p i j))), .int .i64 w, .int .u8 more]) (fn_11) rfl 1000 (by simp only [BdL, Bd, and_self, and_true, true_and]; exact ⟨fun i j hi hj => by rw [i_z i j hi hj]; trivial, fun i j hi hj => by rw [i_l i j hi hj]; trivial, fun i j hi hj => by rw [i_t i j hi hj]; trivial, fun i j hi hj => by rw [i_p i j hi hj]; trivial⟩) ⟨SameD.int i_z, SameD.int i_l, SameD.rfl' _, SameD.rfl' _, SameD.rfl' _, SameD.int i_t, SameD.int i_p, SameD.rfl' _, SameD.rfl' _, trivial⟩ ?_
  generalize (fun i j => iv (f_z i j)) = z at *
  generalize (fun i j => iv (f_l i j)) = l at *
  generalize (fun i j => iv (f_t i j)) = t at *
  generalize (fun i j => iv (f_p i j)) = p at *
  simp only [rowF_eq]
  simp only [alive_eq, rink_eq, span_eq, kTup, bTup, play_at, keeps_at, pTup, breaks_at, Try.f11, go_sem, ↓reduceIte, Nat.reduceAdd, Nat.reduceSub, Nat.reduceMul, Nat.reduceEqDiff, Nat.reduceLT, Nat.reduceLeDiff, Int.reduceToNat, Int.reduceLE, Int.reduceLT, Int.reduceEq, Int.reduceNeg, reduceCtorEq]
  obtain ⟨pre, hV, hE⟩ := pre
  refine ⟨fun _ => trivial, fun c1 => ⟨fun _ => trivial, fun c2 => ⟨fun _ => trivial, fun c3 => ⟨fun _ => trivial, fun c4 => ?_⟩⟩⟩⟩
  simp only [decide_eq_false_iff_not] at c1 c2 c3 c4
  have hmo : 0 ≤ more ∧ more ≤ 255 := wf_u8 wf_more
  refine ⟨fun c5 => ⟨fun c6 => ⟨fun c7 => ⟨fun c8 => ⟨fun c9 => ?_, fun c9 => ?_⟩, fun c8 => ?_⟩, fun c7 => ?_⟩, fun c6 => ?_⟩, fun c5 => ?_⟩
  · simp only [decide_eq_true_eq] at c6 c7 c8 c9
    have hK := keepsO_eq (n := n) (m := m) (z := z) (l := l) (days := days) (least := least) (most := most) c5 (in3_iff.2 ⟨c6, by omega⟩) (in3_iff.2 ⟨by omega, by omega⟩) (in3_iff.2 ⟨by omega, by omega⟩)
    have hK2 := hK
    rw [if_neg (by omega)] at hK2
    have hin : (keepsO n m z l days least most).2.2 = 0 → 0 ≤ (keepsO n m z l days least most).1 ∧ (keepsO n m z l days least most).1 < days ∧ 0 ≤ (keepsO n m z l days least most).2.1 ∧ (keepsO n m z l days least most).2.1 < n := fun h => by
      rw [hK2] at h ⊢
      have := kRun_in days.toNat 0 z h
      omega
    have hb := rinkB_iff.1 c5
    generalize hKK : keepsO n m z l days least most = K at *
    have hL : ∀ a : Int, (K.2.2 = 0 → a = K.1 + 1) → (K.2.2 ≠ 0 → a = days) → ∃ L : Nat, a = (L : Int) ∧ L ≤ days.toNat ∧ (K.2.2 = 0 → (L : Int) = K.1 + 1) ∧ (K.2.2 ≠ 0 → (L : Int) = days) := fun a h1 h2 => ⟨a.toNat, by
      by_cases h : K.2.2 = 0
      · have := hin h; have := h1 h; omega
      · have := h2 h; omega⟩
    refine ⟨fun d1 => ?_, fun d1 => ?_⟩
    · simp only [decide_eq_true_eq] at d1; exact absurd d1 hE
    · simp only [decide_eq_false_iff_not] at d1
      obtain ⟨L, hL1, hL2, hL3, hL4⟩ := hL days (fun h => absurd h d1) (fun _ => rfl)
      refine loop_mk [(37, 4)] { q : Nat × (Nat → Nat → Int) // q.1 ≤ L ∧ (∀ i, i < n → okZ (q.2 i) = true) ∧ (q.1 < L ∨ K.2.2 ≠ 0 → kRun n m l least most (days.toNat - q.1) q.1 q.2 = kRun n m l least most days.toNat 0 z) }
        (fun q => [(100, .int .i64 (q.1.1 : Int)), (99, .int .i64 (L : Int)), (22, match q.1.1 with | 0 => .row n 4 fun i j => .int .i64 (q.1.2 i j) | d + 1 => .vec 0 (d + 1)), (23, .int .i64 (L : Int)), (21, .int .i64 K.2.2), (20, .int .i64 K.2.1), (19, .int .i64 K.1), (8, .int .u8 more), (4, .int .i64 most), (3, .int .i64 least), (2, .int .i64 days), (1, .row m 5 fun i j => .int .i64 (l i j)), (5, .row k 2 fun i j => .int .i64 (t i j)), (6, .row mp 1 fun i j => .int .i64 (p i j)), (7, .int .i64 w), (0, .row n 4 fun i j => .int .i64 (z i j))])
        (fun q => ⟨[], [.live q.1.1 37 4 (match q.1.1 with | 0 => 0 | _ + 1 => n) fun i j => .int .i64 (q.1.2 i j)]⟩) (fun q => L - q.1.1) (by simp) (fun _ => ⟨rfl, rfl⟩) ⟨(0, z), by omega, hb.2, fun _ => rfl⟩ (by apply sub_of <;> simp only [mkH, go_sem, ↓reduceIte, Nat.reduceAdd, Nat.reduceSub, Nat.reduceMul, Nat.reduceEqDiff, Nat.reduceLT, Nat.reduceLeDiff, Int.reduceToNat, Int.reduceLE, Int.reduceLT, Int.reduceEq, Int.reduceNeg, reduceCtorEq] <;> (try simp) <;> (try exact hL1)) ?_
      rintro ⟨⟨d, x⟩, hdl, hok, hrun⟩
      simp only [] at hdl hok hrun
      have hw4 : IntKind.i64.wrap ((d : Int) + 1) = ((d + 1 : Nat) : Int) := by rw [wrap_id (by omega) (by omega)]; omega
      have hrx : rinkB n x = true := rinkB_iff.2 ⟨hb.1, hok⟩
      rcases d with _ | d
      · simp only [alive_eq, rink_eq, span_eq, kTup, bTup, play_at, keeps_at, pTup, breaks_at, Try.f11, go_sem, ↓reduceIte, Nat.reduceAdd, Nat.reduceSub, Nat.reduceMul, Nat.reduceEqDiff, Nat.reduceLT, Nat.reduceLeDiff, Int.reduceToNat, Int.reduceLE, Int.reduceLT, Int.reduceEq, Int.reduceNeg, reduceCtorEq]
        refine ⟨fun e1 => ?_, fun e1 => ?_⟩
        · simp only [decide_eq_true_eq] at e1
          obtain ⟨k1, k2⟩ := keep_day (days := days) (d := 0) (by rw [hKK]; exact hK) hrx (by omega) (.inr (by omega)) (fun _ => hrun (.inl (by omega)))
          rw [hKK] at k1 k2
          refine ⟨fun e2 => ?_, fun e2 => ?_⟩
          · simp only [Bool.not_eq_true', decide_eq_false_iff_not] at e2
            rw [k1 e2]
            refine ⟨fun _ => ⟨fun _ => ⟨fun _ => trivial, fun h => ?_⟩, fun h => ?_⟩, fun h => ?_⟩ <;> simp at h
          · simp only [Bool.not_eq_false', decide_eq_true_eq] at e2
            obtain ⟨k3, k4, k5, k6, k7⟩ := k2 e2
            have F : ∀ a, a < n → (((playT n m x l).z a 0 < least ∨ most < (playT n m x l).z a 1) → K.2.2 = 0 ∧ K.1 = ((0 : Nat) : Int) ∧ K.2.1 ≤ a) ∧ (¬ ((playT n m x l).z a 0 < least ∨ most < (playT n m x l).z a 1) → ¬ (K.2.2 = 0 ∧ K.1 = ((0 : Nat) : Int) ∧ K.2.1 = a)) := fun a ha => by
              rcases fstI_range (badP least most (playT n m x l).z) n 0 with h1 | ⟨j, h1, h2, h3, h4, h5⟩
              · have h6 := fstI_none h1 a (by omega) (by omega)
                simp only [badP, Bool.or_eq_false_iff, decide_eq_false_iff_not] at h6
                have h7 := k7 (by omega)
                refine ⟨fun h => by omega, fun _ h => ?_⟩
                have h8 := hK2.trans h7.symm
                have h9 := kRun_in (days.toNat - (0 + 1)) (0 + 1) (playT n m x l).z (by rw [← h8]; exact h.1)
                rw [← h8] at h9
                omega
              · have h6 := k6 (by omega)
                rw [h6, h1]
                simp only [badP, Bool.or_eq_true, decide_eq_true_eq] at h4
                refine ⟨fun h => ⟨rfl, rfl, ?_⟩, fun h h' => ?_⟩
                · show (j : Int) ≤ a
                  rcases Nat.lt_or_ge a j with h7 | h7
                  · have := h5 a (by omega) h7
                    simp only [badP, Bool.or_eq_false_iff, decide_eq_false_iff_not] at this
                    omega
                  · omega
                · have h8 : (j : Int) = a := h'.2.2
                  obtain rfl : j = a := by omega
                  exact h h4
            have G : ¬ 0 ≤ fstI (badP least most (playT n m x l).z) n 0 ∨ L = 0 + 1 := by
              by_cases h : 0 ≤ fstI (badP least most (playT n m x l).z) n 0
              · right
                have := k6 h
                have h3 := hL3 (by rw [this])
                rw [this] at h3
                simp only [] at h3
                omega
              · exact .inl h
            simp only [k3]
            refine loop_ofH { a : Nat // a ≤ n } (fun a => [(129, .int .i64 (a.1 : Int)), (128, .int .i64 (n : Int)), (127, .vec 1 0), (25, .vec 1 0), (24, .int .i64 ((0 : Nat) : Int)), (100, .int .i64 ((0 : Nat) : Int)), (99, .int .i64 (L : Int)), (23, .int .i64 (L : Int)), (21, .int .i64 K.2.2), (20, .int .i64 K.2.1), (19, .int .i64 K.1), (8, .int .u8 more), (4, .int .i64 most), (3, .int .i64 least), (2, .int .i64 days), (1, .row m 5 fun i j => .int .i64 (l i j)), (5, .row k 2 fun i j => .int .i64 (t i j)), (6, .row mp 1 fun i j => .int .i64 (p i j)), (7, .int .i64 w), (0, .row n 4 fun i j => .int .i64 (z i j))]) (fun h _ => h) (fun a => n - a.1) (fun _ => ⟨rfl, rfl⟩) ⟨0, by omega⟩ (by (apply sub_of <;> simp only [go_sem, ↓reduceIte, Nat.reduceAdd, Nat.reduceSub, Nat.reduceMul, Nat.reduceEqDiff, Nat.reduceLT, Nat.reduceLeDiff, Int.reduceToNat, Int.reduceLE, Int.reduceLT, Int.reduceEq, Int.reduceNeg, reduceCtorEq] <;> (try simp [catF]))) ?_
            rintro ⟨a, ha⟩
            simp only [alive_eq, rink_eq, span_eq, kTup, bTup, play_at, keeps_at, pTup, breaks_at, Try.f11, go_sem, ↓reduceIte, Nat.reduceAdd, Nat.reduceSub, Nat.reduceMul, Nat.reduceEqDiff, Nat.reduceLT, Nat.reduceLeDiff, Int.reduceToNat, Int.reduceLE, Int.reduceLT, Int.reduceEq, Int.reduceNeg, reduceCtorEq]
            have hw5 : IntKind.i64.wrap ((a : Int) + 1) = ((a + 1 : Nat) : Int) := by rw [wrap_id (by omega) (by omega)]; omega
            refine ⟨fun g1 => ?_, fun g1 => ?_⟩
            · simp only [decide_eq_true_eq] at g1
              have Fa := F a (by omega)
              clear k1 k2 k5 k6 k7 F G hrun hok hrx hb i_z i_l i_t i_p wf_more
              repeat' first | refine And.intro (fun _ => ?_) (fun _ => ?_) | refine And.intro ?_ ?_
              all_goals first | omega | (exfalso; simp only [decide_eq_true_eq, decide_eq_false_iff_not, Bool.not_eq_true', Bool.not_eq_false'] at *; omega) | (refine ⟨⟨a + 1, by omega⟩, by simp only []; omega, ?_⟩; apply sub_of <;> simp only [hw5, go_sem, ↓reduceIte, Nat.reduceAdd, Nat.reduceSub, Nat.reduceMul, Nat.reduceEqDiff, Nat.reduceLT, Nat.reduceLeDiff, Int.reduceToNat, Int.reduceLE, Int.reduceLT, Int.reduceEq, Int.reduceNeg, reduceCtorEq] <;> (try simp))
            · refine ⟨⟨(0 + 1, (playT n m x l).z), by omega, k5, fun h => k7 (fun h2 => ?_)⟩, by simp only []; omega, ?_⟩
              · have := k6 h2
                rw [this] at h
                simp only [] at h
                omega
              · refine sub_mv 0 1 22 rfl rfl (by omega) (by simp only [go_sem, ↓reduceIte, Nat.reduceAdd, Nat.reduceSub, Nat.reduceMul, Nat.reduceEqDiff, Nat.reduceLT, Nat.reduceLeDiff, Int.reduceToNat, Int.reduceLE, Int.reduceLT, Int.reduceEq, Int.reduceNeg, reduceCtorEq]) ?_
                apply sub_of <;> simp only [hw4, go_sem, ↓reduceIte, Nat.reduceAdd, Nat.reduceSub, Nat.reduceMul, Nat.reduceEqDiff, Nat.reduceLT, Nat.reduceLeDiff, Int.reduceToNat, Int.reduceLE, Int.reduceLT, Int.reduceEq, Int.reduceNeg, reduceCtorEq] <;> (try simp)
        · simp only [decide_eq_false_iff_not] at e1
          have hend : K.2.2 ≠ 0 → K.2.2 = 4 := fun h => by
            have h2 := hrun (.inr h)
            have h3 := hL4 h
            rw [show days.toNat - 0 = 0 by omega] at h2
            rw [hK2, ← h2]
            rfl
          repeat' first | refine And.intro (fun _ => ?_) (fun _ => ?_) | refine And.intro ?_ ?_
          all_goals first | omega | (exfalso; clear hrun hok hrx hb i_z i_l i_t i_p wf_more; simp only [decide_eq_true_eq, decide_eq_false_iff_not, Bool.not_eq_true', Bool.not_eq_false'] at *; omega) | skip
          all_goals
            refine loop_ofH { i : Nat // i ≤ n } (fun i => [(227, .int .i64 (i.1 : Int)), (226, .int .i64 (n : Int)), (225, .row n 4 fun i j => .int .i64 (z i j)), (34, .vec 1 i.1), (33, .int .i64 (breaksO n k mp z t p w).2), (32, .int .i64 (breaksO n k mp z t p w).1), (8, .int .u8 more), (5, .row k 2 fun i j => .int .i64 (t i j)), (6, .row mp 1 fun i j => .int .i64 (p i j)), (7, .int .i64 w), (0, .row n 4 fun i j => .int .i64 (z i j))])
              (fun h i => ⟨h.blks, [.dead, .live i.1 37 4 i.1 fun i j => .int .i64 (moreZ z more i j)]⟩) (fun i => n - i.1) (fun _ => ⟨rfl, rfl⟩) ⟨0, by omega⟩ (by (apply sub_of <;> simp only [go_sem, ↓reduceIte, Nat.reduceAdd, Nat.reduceSub, Nat.reduceMul, Nat.reduceEqDiff, Nat.reduceLT, Nat.reduceLeDiff, Int.reduceToNat, Int.reduceLE, Int.reduceLT, Int.reduceEq, Int.reduceNeg, reduceCtorEq] <;> (try simp [catF]))) ?_
            rintro ⟨i, hi⟩
            simp only [alive_eq, rink_eq, span_eq, kTup, bTup, play_at, keeps_at, pTup, breaks_at, Try.f11, go_sem, ↓reduceIte, Nat.reduceAdd, Nat.reduceSub, Nat.reduceMul, Nat.reduceEqDiff, Nat.reduceLT, Nat.reduceLeDiff, Int.reduceToNat, Int.reduceLE, Int.reduceLT, Int.reduceEq, Int.reduceNeg, reduceCtorEq]
            have hw2 : IntKind.i64.wrap ((i : Int) + 1) = ((i + 1 : Nat) : Int) := by rw [wrap_id (by omega) (by omega)]; omega
            have hw3 : IntKind.i64.wrap more = more := wrap_id (by omega) (by omega)
            refine ⟨fun d1 => ?_, fun d1 => ?_⟩
            · simp only [decide_eq_true_eq] at d1
              refine ⟨by omega, by omega, ⟨i + 1, by omega⟩, by simp only []; omega, ?_⟩
              apply sub_of <;> simp only [hw2, hw3, go_sem, ↓reduceIte, Nat.reduceAdd, Nat.reduceSub, Nat.reduceMul, Nat.reduceEqDiff, Nat.reduceLT, Nat.reduceLeDiff, Int.reduceToNat, Int.reduceLE, Int.reduceLT, Int.reduceEq, Int.reduceNeg, reduceCtorEq] <;> (try simp)
              exact fun a c ha hc => row_more ha hc
            · simp only [decide_eq_false_iff_not] at d1
              obtain rfl : i = n := by omega
              obtain ⟨b4, b0⟩ := breaks_more (n := i) (k := k) (m := mp) (z := z) (t := t) (p := p) (w := w) hmo
              refine ⟨by omega, ?_⟩
              clear wf_more hw2 hw3
              repeat' first | exact trivial | refine And.intro (fun _ => ?_) (fun _ => ?_)
              all_goals
                exfalso
                simp only [decide_eq_true_eq, decide_eq_false_iff_not, Bool.not_eq_true', Bool.not_eq_false'] at *
                omega
      · simp only [alive_eq, rink_eq, span_eq, kTup, bTup, play_at, keeps_at, pTup, breaks_at, Try.f11, go_sem, ↓reduceIte, Nat.reduceAdd, Nat.reduceSub, Nat.reduceMul, Nat.reduceEqDiff, Nat.reduceLT, Nat.reduceLeDiff, Int.reduceToNat, Int.reduceLE, Int.reduceLT, Int.reduceEq, Int.reduceNeg, reduceCtorEq]
        refine ⟨fun e1 => ?_, fun e1 => ?_⟩
        · simp only [decide_eq_true_eq] at e1
          obtain ⟨k1, k2⟩ := keep_day (days := days) (d := (d + 1)) (by rw [hKK]; exact hK) hrx (by omega) (.inr (by omega)) (fun _ => hrun (.inl (by omega)))
          rw [hKK] at k1 k2
          refine ⟨fun e2 => ?_, fun e2 => ?_⟩
          · simp only [Bool.not_eq_true', decide_eq_false_iff_not] at e2
            rw [k1 e2]
            refine ⟨fun _ => ⟨fun _ => ⟨fun _ => trivial, fun h => ?_⟩, fun h => ?_⟩, fun h => ?_⟩ <;> simp at h
          · simp only [Bool.not_eq_false', decide_eq_true_eq] at e2
            obtain ⟨k3, k4, k5, k6, k7⟩ := k2 e2
            have F : ∀ a, a < n → (((playT n m x l).z a 0 < least ∨ most < (playT n m x l).z a 1) → K.2.2 = 0 ∧ K.1 = (((d + 1) : Nat) : Int) ∧ K.2.1 ≤ a) ∧ (¬ ((playT n m x l).z a 0 < least ∨ most < (playT n m x l).z a 1) → ¬ (K.2.2 = 0 ∧ K.1 = (((d + 1) : Nat) : Int) ∧ K.2.1 = a)) := fun a ha => by
              rcases fstI_range (badP least most (playT n m x l).z) n 0 with h1 | ⟨j, h1, h2, h3, h4, h5⟩
              · have h6 := fstI_none h1 a (by omega) (by omega)
                simp only [badP, Bool.or_eq_false_iff, decide_eq_false_iff_not] at h6
                have h7 := k7 (by omega)
                refine ⟨fun h => by omega, fun _ h => ?_⟩
                have h8 := hK2.trans h7.symm
                have h9 := kRun_in (days.toNat - ((d + 1) + 1)) ((d + 1) + 1) (playT n m x l).z (by rw [← h8]; exact h.1)
                rw [← h8] at h9
                omega
              · have h6 := k6 (by omega)
                rw [h6, h1]
                simp only [badP, Bool.or_eq_true, decide_eq_true_eq] at h4
                refine ⟨fun h => ⟨rfl, rfl, ?_⟩, fun h h' => ?_⟩
                · show (j : Int) ≤ a
                  rcases Nat.lt_or_ge a j with h7 | h7
                  · have := h5 a (by omega) h7
                    simp only [badP, Bool.or_eq_false_iff, decide_eq_false_iff_not] at this
                    omega
                  · omega
                · have h8 : (j : Int) = a := h'.2.2
                  obtain rfl : j = a := by omega
                  exact h h4
            have G : ¬ 0 ≤ fstI (badP least most (playT n m x l).z) n 0 ∨ L = (d + 1) + 1 := by
              by_cases h : 0 ≤ fstI (badP least most (playT n m x l).z) n 0
              · right
                have := k6 h
                have h3 := hL3 (by rw [this])
                rw [this] at h3
                simp only [] at h3
                omega
              · exact .inl h
            simp only [k3]
            refine loop_ofH { a : Nat // a ≤ n } (fun a => [(129, .int .i64 (a.1 : Int)), (128, .int .i64 (n : Int)), (127, .vec 1 0), (25, .vec 1 0), (24, .int .i64 (((d + 1) : Nat) : Int)), (100, .int .i64 (((d + 1) : Nat) : Int)), (99, .int .i64 (L : Int)), (23, .int .i64 (L : Int)), (21, .int .i64 K.2.2), (20, .int .i64 K.2.1), (19, .int .i64 K.1), (8, .int .u8 more), (4, .int .i64 most), (3, .int .i64 least), (2, .int .i64 days), (1, .row m 5 fun i j => .int .i64 (l i j)), (5, .row k 2 fun i j => .int .i64 (t i j)), (6, .row mp 1 fun i j => .int .i64 (p i j)), (7, .int .i64 w), (0, .row n 4 fun i j => .int .i64 (z i j))]) (fun h _ => h) (fun a => n - a.1) (fun _ => ⟨rfl, rfl⟩) ⟨0, by omega⟩ (by (apply sub_of <;> simp only [go_sem, ↓reduceIte, Nat.reduceAdd, Nat.reduceSub, Nat.reduceMul, Nat.reduceEqDiff, Nat.reduceLT, Nat.reduceLeDiff, Int.reduceToNat, Int.reduceLE, Int.reduceLT, Int.reduceEq, Int.reduceNeg, reduceCtorEq] <;> (try simp [catF]))) ?_
            rintro ⟨a, ha⟩
            simp only [alive_eq, rink_eq, span_eq, kTup, bTup, play_at, keeps_at, pTup, breaks_at, Try.f11, go_sem, ↓reduceIte, Nat.reduceAdd, Nat.reduceSub, Nat.reduceMul, Nat.reduceEqDiff, Nat.reduceLT, Nat.reduceLeDiff, Int.reduceToNat, Int.reduceLE, Int.reduceLT, Int.reduceEq, Int.reduceNeg, reduceCtorEq]
            have hw5 : IntKind.i64.wrap ((a : Int) + 1) = ((a + 1 : Nat) : Int) := by rw [wrap_id (by omega) (by omega)]; omega
            refine ⟨fun g1 => ?_, fun g1 => ?_⟩
            · simp only [decide_eq_true_eq] at g1
              have Fa := F a (by omega)
              clear k1 k2 k5 k6 k7 F G hrun hok hrx hb i_z i_l i_t i_p wf_more
              repeat' first | refine And.intro (fun _ => ?_) (fun _ => ?_) | refine And.intro ?_ ?_
              all_goals first | omega | (exfalso; simp only [decide_eq_true_eq, decide_eq_false_iff_not, Bool.not_eq_true', Bool.not_eq_false'] at *; omega) | (refine ⟨⟨a + 1, by omega⟩, by simp only []; omega, ?_⟩; apply sub_of <;> simp only [hw5, go_sem, ↓reduceIte, Nat.reduceAdd, Nat.reduceSub, Nat.reduceMul, Nat.reduceEqDiff, Nat.reduceLT, Nat.reduceLeDiff, Int.reduceToNat, Int.reduceLE, Int.reduceLT, Int.reduceEq, Int.reduceNeg, reduceCtorEq] <;> (try simp))
            · refine ⟨⟨((d + 1) + 1, (playT n m x l).z), by omega, k5, fun h => k7 (fun h2 => ?_)⟩, by simp only []; omega, ?_⟩
              · have := k6 h2
                rw [this] at h
                simp only [] at h
                omega
              · refine sub_mv 0 1 22 rfl rfl (by omega) (by simp only [go_sem, ↓reduceIte, Nat.reduceAdd, Nat.reduceSub, Nat.reduceMul, Nat.reduceEqDiff, Nat.reduceLT, Nat.reduceLeDiff, Int.reduceToNat, Int.reduceLE, Int.reduceLT, Int.reduceEq, Int.reduceNeg, reduceCtorEq]) ?_
                apply sub_of <;> simp only [hw4, go_sem, ↓reduceIte, Nat.reduceAdd, Nat.reduceSub, Nat.reduceMul, Nat.reduceEqDiff, Nat.reduceLT, Nat.reduceLeDiff, Int.reduceToNat, Int.reduceLE, Int.reduceLT, Int.reduceEq, Int.reduceNeg, reduceCtorEq] <;> (try simp)
        · simp only [decide_eq_false_iff_not] at e1
          have hend : K.2.2 ≠ 0 → K.2.2 = 4 := fun h => by
            have h2 := hrun (.inr h)
            have h3 := hL4 h
            rw [show days.toNat - (d + 1) = 0 by omega] at h2
            rw [hK2, ← h2]
            rfl
          repeat' first | refine And.intro (fun _ => ?_) (fun _ => ?_) | refine And.intro ?_ ?_
          all_goals first | omega | (exfalso; clear hrun hok hrx hb i_z i_l i_t i_p wf_more; simp only [decide_eq_true_eq, decide_eq_false_iff_not, Bool.not_eq_true', Bool.not_eq_false'] at *; omega) | skip
          all_goals
            refine loop_ofH { i : Nat // i ≤ n } (fun i => [(227, .int .i64 (i.1 : Int)), (226, .int .i64 (n : Int)), (225, .row n 4 fun i j => .int .i64 (z i j)), (34, .vec 1 i.1), (33, .int .i64 (breaksO n k mp z t p w).2), (32, .int .i64 (breaksO n k mp z t p w).1), (8, .int .u8 more), (5, .row k 2 fun i j => .int .i64 (t i j)), (6, .row mp 1 fun i j => .int .i64 (p i j)), (7, .int .i64 w), (0, .row n 4 fun i j => .int .i64 (z i j))])
              (fun h i => ⟨h.blks, [.dead, .live i.1 37 4 i.1 fun i j => .int .i64 (moreZ z more i j)]⟩) (fun i => n - i.1) (fun _ => ⟨rfl, rfl⟩) ⟨0, by omega⟩ (by (apply sub_of <;> simp only [go_sem, ↓reduceIte, Nat.reduceAdd, Nat.reduceSub, Nat.reduceMul, Nat.reduceEqDiff, Nat.reduceLT, Nat.reduceLeDiff, Int.reduceToNat, Int.reduceLE, Int.reduceLT, Int.reduceEq, Int.reduceNeg, reduceCtorEq] <;> (try simp [catF]))) ?_
            rintro ⟨i, hi⟩
            simp only [alive_eq, rink_eq, span_eq, kTup, bTup, play_at, keeps_at, pTup, breaks_at, Try.f11, go_sem, ↓reduceIte, Nat.reduceAdd, Nat.reduceSub, Nat.reduceMul, Nat.reduceEqDiff, Nat.reduceLT, Nat.reduceLeDiff, Int.reduceToNat, Int.reduceLE, Int.reduceLT, Int.reduceEq, Int.reduceNeg, reduceCtorEq]
            have hw2 : IntKind.i64.wrap ((i : Int) + 1) = ((i + 1 : Nat) : Int) := by rw [wrap_id (by omega) (by omega)]; omega
            have hw3 : IntKind.i64.wrap more = more := wrap_id (by omega) (by omega)
            refine ⟨fun d1 => ?_, fun d1 => ?_⟩
            · simp only [decide_eq_true_eq] at d1
              refine ⟨by omega, by omega, ⟨i + 1, by omega⟩, by simp only []; omega, ?_⟩
              apply sub_of <;> simp only [hw2, hw3, go_sem, ↓reduceIte, Nat.reduceAdd, Nat.reduceSub, Nat.reduceMul, Nat.reduceEqDiff, Nat.reduceLT, Nat.reduceLeDiff, Int.reduceToNat, Int.reduceLE, Int.reduceLT, Int.reduceEq, Int.reduceNeg, reduceCtorEq] <;> (try simp)
              exact fun a c ha hc => row_more ha hc
            · simp only [decide_eq_false_iff_not] at d1
              obtain rfl : i = n := by omega
              obtain ⟨b4, b0⟩ := breaks_more (n := i) (k := k) (m := mp) (z := z) (t := t) (p := p) (w := w) hmo
              refine ⟨by omega, ?_⟩
              clear wf_more hw2 hw3
              repeat' first | exact trivial | refine And.intro (fun _ => ?_) (fun _ => ?_)
              all_goals
                exfalso
                simp only [decide_eq_true_eq, decide_eq_false_iff_not, Bool.not_eq_true', Bool.not_eq_false'] at *
                omega
  all_goals
    exfalso
    obtain ⟨v1, v2, v3, v4, v5⟩ := hV
    simp only [decide_eq_true_eq, decide_eq_false_iff_not, v1] at *
    first | omega | contradiction
end Go.Eng
end

/- IceHolds: its call returns true. -/
section
namespace Go.Eng
open Go Go.RowKit Go.Proofs
set_option maxRecDepth 100000
set_option maxHeartbeats 4000000
attribute [local irreducible] OwnT DefS
set_option maxHeartbeats 100000000
def iceHoldsBBase : BaseF := fun args => match args with
  | [.row n sz_z f_z, .row m sz_l f_l, .int .i64 days, .int .i64 least, .int .i64 most, .row k sz_t f_t, .row mp sz_p f_p, .int .i64 w, .int .u8 more] => some ((sz_z = 4 ∧ IntR n 4 f_z) ∧ (sz_l = 5 ∧ IntR m 5 f_l) ∧ (sz_t = 2 ∧ IntR k 2 f_t) ∧ (sz_p = 1 ∧ IntR mp 1 f_p) ∧ ((Lit.int .u8 more).wf = true) ∧ ((n : Int) * 32 ≤ 140737488355328 ∧ ¬ (rinkB n (fun i j => iv (f_z i j)) = true ∧ 0 ≤ days ∧ 0 ≤ least ∧ least ≤ most ∧ most ≤ 20000)), .bool true)
  | _ => none
theorem iceHoldsB_eq (n : Nat) (z : Nat → Nat → Int) (m : Nat) (l : Nat → Nat → Int) (days : Int) (least : Int) (most : Int) (k : Nat) (t : Nat → Nat → Int) (mp : Nat) (p : Nat → Nat → Int) (w : Int) (more : Int) : iceHoldsBBase [.row n 4 (fun i j => .int .i64 (z i j)), .row m 5 (fun i j => .int .i64 (l i j)), .int .i64 days, .int .i64 least, .int .i64 most, .row k 2 (fun i j => .int .i64 (t i j)), .row mp 1 (fun i j => .int .i64 (p i j)), .int .i64 w, .int .u8 more] = some ((4 = 4 ∧ IntR n 4 (fun i j => .int .i64 (z i j))) ∧ (5 = 5 ∧ IntR m 5 (fun i j => .int .i64 (l i j))) ∧ (2 = 2 ∧ IntR k 2 (fun i j => .int .i64 (t i j))) ∧ (1 = 1 ∧ IntR mp 1 (fun i j => .int .i64 (p i j))) ∧ ((Lit.int .u8 more).wf = true) ∧ ((n : Int) * 32 ≤ 140737488355328 ∧ ¬ (rinkB n z = true ∧ 0 ≤ days ∧ 0 ≤ least ∧ least ≤ most ∧ most ≤ 20000)), .bool true) := rfl
theorem iceHoldsB_base : Base Try.prog 11 iceHoldsBBase := by
  intro args p v hq hp
  unfold iceHoldsBBase at hq
  split at hq
  rotate_left
  · cases hq
  rename_i n sz_z f_z m sz_l f_l days least most k sz_t f_t mp sz_p f_p w more
  cases hq
  obtain ⟨⟨rfl, i_z⟩, ⟨rfl, i_l⟩, ⟨rfl, i_t⟩, ⟨rfl, i_p⟩, wf_more, pre⟩ := hp
  refine base_of (C := cx [] [(19, 37, playBase)] [(13, aliveBase), (16, rinkBase), (23, spanBase), (32, keepsBase), (33, breaksBase)] [] none) (cx_ok ⟨play_base, trivial⟩ ⟨alive_base, rink_base, span_base, keeps_base, breaks_base, trivial⟩) rfl (g := 11) (fn := Try.f11)
    (args' := [.row n 4 (rowF .i64 (fun i j => iv (f_z i j))), .row m 5 (rowF .i64 (fun i j => iv (f_l i j))), .int .i64 days, .int .i64 least, .int .i64 most, .row k 2 (rowF .i64 (fun i j => iv (f_t i j))), .row mp 1 (rowF .i64 (fun i j => iv (f_p i j))), .int .i64 w, .int .u8 more]) (fn_11) rfl 1000 (by simp only [BdL, Bd, and_self, and_true, true_and]; exact ⟨fun i j hi hj => by rw [i_z i j hi hj]; trivial, fun i j hi hj => by rw [i_l i j hi hj]; trivial, fun i j hi hj => by rw [i_t i j hi hj]; trivial, fun i j hi hj => by rw [i_p i j hi hj]; trivial⟩) ⟨SameD.int i_z, SameD.int i_l, SameD.rfl' _, SameD.rfl' _, SameD.rfl' _, SameD.int i_t, SameD.int i_p, SameD.rfl' _, SameD.rfl' _, trivial⟩ ?_
  generalize (fun i j => iv (f_z i j)) = z at *
  generalize (fun i j => iv (f_l i j)) = l at *
  generalize (fun i j => iv (f_t i j)) = t at *
  generalize (fun i j => iv (f_p i j)) = p at *
  simp only [rowF_eq]
  simp only [alive_eq, rink_eq, span_eq, kTup, bTup, play_at, keeps_at, pTup, breaks_at, Try.f11, go_sem, ↓reduceIte, Nat.reduceAdd, Nat.reduceSub, Nat.reduceMul, Nat.reduceEqDiff, Nat.reduceLT, Nat.reduceLeDiff, Int.reduceToNat, Int.reduceLE, Int.reduceLT, Int.reduceEq, Int.reduceNeg, reduceCtorEq]
  obtain ⟨pre, hV⟩ := pre
  refine ⟨fun _ => trivial, fun c1 => ⟨fun _ => trivial, fun c2 => ⟨fun _ => trivial, fun c3 => ⟨fun _ => trivial, fun c4 => ?_⟩⟩⟩⟩
  simp only [decide_eq_false_iff_not] at c1 c2 c3 c4
  have hmo : 0 ≤ more ∧ more ≤ 255 := wf_u8 wf_more
  have hk : (keepsO n m z l days least most).2.2 ≠ 0 ∧ (keepsO n m z l days least most).2.2 ≠ 4 := by
    unfold keepsO
    split
    · rename_i h1
      split
      · rename_i h2
        exact absurd ⟨h1, (in3_iff.1 h2.1).1, (in3_iff.1 h2.2.2).1, (in3_iff.1 h2.2.2).2, (in3_iff.1 h2.2.1).2⟩ hV
      · decide
    · decide
  refine ⟨fun c5 => ⟨fun c6 => ⟨fun c7 => ⟨fun c8 => ⟨fun c9 => ?_, fun c9 => ?_⟩, fun c8 => ?_⟩, fun c7 => ?_⟩, fun c6 => ?_⟩, fun c5 => ?_⟩
  · simp only [decide_eq_true_eq] at c6 c7 c8 c9
    exact absurd ⟨c5, c6, c7, c8, c9⟩ hV
  all_goals
    refine ⟨fun h => absurd (by simpa using h) hk.1, fun _ => ⟨fun h => absurd (by simpa using h) hk.2, fun _ => ⟨by omega, ?_⟩⟩⟩
    refine loop_ofH { i : Nat // i ≤ n } (fun i => [(227, .int .i64 (i.1 : Int)), (226, .int .i64 (n : Int)), (225, .row n 4 fun i j => .int .i64 (z i j)), (34, .vec 0 i.1), (33, .int .i64 (breaksO n k mp z t p w).2), (32, .int .i64 (breaksO n k mp z t p w).1), (8, .int .u8 more), (5, .row k 2 fun i j => .int .i64 (t i j)), (6, .row mp 1 fun i j => .int .i64 (p i j)), (7, .int .i64 w), (0, .row n 4 fun i j => .int .i64 (z i j))])
      (fun h i => ⟨h.blks, [.live i.1 37 4 i.1 fun i j => .int .i64 (moreZ z more i j)]⟩) (fun i => n - i.1) (fun _ => ⟨rfl, rfl⟩) ⟨0, by omega⟩ (by (apply sub_of <;> simp only [go_sem, ↓reduceIte, Nat.reduceAdd, Nat.reduceSub, Nat.reduceMul, Nat.reduceEqDiff, Nat.reduceLT, Nat.reduceLeDiff, Int.reduceToNat, Int.reduceLE, Int.reduceLT, Int.reduceEq, Int.reduceNeg, reduceCtorEq] <;> (try simp [catF]))) ?_
    rintro ⟨i, hi⟩
    simp only [alive_eq, rink_eq, span_eq, kTup, bTup, play_at, keeps_at, pTup, breaks_at, Try.f11, go_sem, ↓reduceIte, Nat.reduceAdd, Nat.reduceSub, Nat.reduceMul, Nat.reduceEqDiff, Nat.reduceLT, Nat.reduceLeDiff, Int.reduceToNat, Int.reduceLE, Int.reduceLT, Int.reduceEq, Int.reduceNeg, reduceCtorEq]
    have hw2 : IntKind.i64.wrap ((i : Int) + 1) = ((i + 1 : Nat) : Int) := by rw [wrap_id (by omega) (by omega)]; omega
    have hw3 : IntKind.i64.wrap more = more := wrap_id (by omega) (by omega)
    refine ⟨fun d1 => ?_, fun d1 => ?_⟩
    · simp only [decide_eq_true_eq] at d1
      refine ⟨by omega, by omega, ⟨i + 1, by omega⟩, by simp only []; omega, ?_⟩
      apply sub_of <;> simp only [hw2, hw3, go_sem, ↓reduceIte, Nat.reduceAdd, Nat.reduceSub, Nat.reduceMul, Nat.reduceEqDiff, Nat.reduceLT, Nat.reduceLeDiff, Int.reduceToNat, Int.reduceLE, Int.reduceLT, Int.reduceEq, Int.reduceNeg, reduceCtorEq] <;> (try simp)
      exact fun a c ha hc => row_more ha hc
    · simp only [decide_eq_false_iff_not] at d1
      obtain rfl : i = n := by omega
      obtain ⟨b4, b0⟩ := breaks_more (n := i) (k := k) (m := mp) (z := z) (t := t) (p := p) (w := w) hmo
      refine ⟨by omega, ?_⟩
      clear wf_more hw2 hw3
      repeat' first | exact trivial | refine And.intro (fun _ => ?_) (fun _ => ?_)
      all_goals
        exfalso
        simp only [decide_eq_true_eq, decide_eq_false_iff_not, Bool.not_eq_true', Bool.not_eq_false'] at *
        omega
def iceHoldsBase : BaseF := fun args => match args with
  | [.row n sz_z f_z, .row m sz_l f_l, .int .i64 days, .int .i64 least, .int .i64 most, .row k sz_t f_t, .row mp sz_p f_p, .int .i64 w, .int .u8 more] => some ((sz_z = 4 ∧ IntR n 4 f_z) ∧ (sz_l = 5 ∧ IntR m 5 f_l) ∧ (sz_t = 2 ∧ IntR k 2 f_t) ∧ (sz_p = 1 ∧ IntR mp 1 f_p) ∧ ((Lit.int .u8 more).wf = true) ∧ ((n : Int) * 32 ≤ 140737488355328), .bool true)
  | _ => none
theorem iceHolds_eq (n : Nat) (z : Nat → Nat → Int) (m : Nat) (l : Nat → Nat → Int) (days : Int) (least : Int) (most : Int) (k : Nat) (t : Nat → Nat → Int) (mp : Nat) (p : Nat → Nat → Int) (w : Int) (more : Int) : iceHoldsBase [.row n 4 (fun i j => .int .i64 (z i j)), .row m 5 (fun i j => .int .i64 (l i j)), .int .i64 days, .int .i64 least, .int .i64 most, .row k 2 (fun i j => .int .i64 (t i j)), .row mp 1 (fun i j => .int .i64 (p i j)), .int .i64 w, .int .u8 more] = some ((4 = 4 ∧ IntR n 4 (fun i j => .int .i64 (z i j))) ∧ (5 = 5 ∧ IntR m 5 (fun i j => .int .i64 (l i j))) ∧ (2 = 2 ∧ IntR k 2 (fun i j => .int .i64 (t i j))) ∧ (1 = 1 ∧ IntR mp 1 (fun i j => .int .i64 (p i j))) ∧ ((Lit.int .u8 more).wf = true) ∧ ((n : Int) * 32 ≤ 140737488355328), .bool true) := rfl
theorem iceHolds_base : Base Try.prog 11 iceHoldsBase := by
  intro args p v hq hp
  unfold iceHoldsBase at hq
  split at hq
  rotate_left
  · cases hq
  rename_i n sz f_z m sl f_l days least most k st f_t mp sp f_p w more
  cases hq
  obtain ⟨h1, h2, h3, h4, h5, h6⟩ := hp
  by_cases hV : rinkB n (fun i j => iv (f_z i j)) = true ∧ 0 ≤ days ∧ 0 ≤ least ∧ least ≤ most ∧ most ≤ 20000
  · by_cases hE : (keepsO n m (fun i j => iv (f_z i j)) (fun i j => iv (f_l i j)) days least most).2.2 = 0
    · exact iceHoldsA_base _ _ _ rfl ⟨h1, h2, h3, h4, h5, h6, hV, hE⟩
    · exact iceHoldsC_base _ _ _ rfl ⟨h1, h2, h3, h4, h5, h6, hV, hE⟩
  · exact iceHoldsB_base _ _ _ rfl ⟨h1, h2, h3, h4, h5, h6, hV⟩
end Go.Eng
end

/-
  IceHolds: for every input the law returns true, and each argument reads afterwards as it read before. No condition.
-/
section
namespace Go.Proofs.Ytmpcdcphgepeiaa.iceHolds
open Go.ChangeShapes Go.WideShapes Go.ChangeAt Go.RowKit Go.Eng
set_option linter.unusedVariables false
theorem own : ownKnob Try.prog.godebug = none := by kernel_rfl
theorem laid : laidOutB Try.prog = true := by kernel_rfl
set_option maxRecDepth 100000 in
theorem lifted (os : Os) (started : os.Started) (H : Type) (enc : TypeId × Value → H) :
    ReturnsInHanded {} Try.checked os 11 .any (Rows.iceHoldsSpec.pre6 enc Try.prog Try.f11 Rows.iceHoldsRow.domain false) (Rows.iceHoldsSpec.post enc Try.prog Try.f11 false true false false) := by
  refine returnsInHanded_of_change_sized (C := Try.checked) own started (by kernel_rfl) Try.func11
    (ChangeSpec.witness6 (enc := enc) (C := Try.checked) false ⟨#[], #[.slice none 0 0, .slice none 0 0, .int .i64 0, .int .i64 0, .int .i64 0, .slice none 0 0, .slice none 0 0, .int .i64 0, .int .u8 0], []⟩ 8 (by kernel_rfl) (by kernel_rfl) (by kernel_rfl) (by kernel_rfl)) ?_
  intro W base args ds gs before hval0 hW hcnd hsized _
  have hval : ∀ (j : Nat) t v, Try.f11.params[j]? = some t → args[j]? = some v → Value.okWide Try.prog W .any base t v := hval0
  have hW' := hW
  obtain ⟨p, q, hA0, hV, rfl, hfz, hnd⟩ := hW
  have hA : DataW.TrodAll enc Try.prog W 0 (fun _ => true) true Try.f11.params.toList args.toList ds p := hA0
  rw [Try.params11] at hA hval
  obtain ⟨v0, vs0, d0, ds0, p0, q0, hargs, rfl, rfl, h0, r0⟩ := trodAll_cons hA
  obtain ⟨v1, vs1, d1, ds1, p1, q1, rfl, rfl, rfl, h1, r1⟩ := trodAll_cons r0
  obtain ⟨v2, vs2, d2, ds2, p2, q2, rfl, rfl, rfl, h2, r2⟩ := trodAll_cons r1
  obtain ⟨v3, vs3, d3, ds3, p3, q3, rfl, rfl, rfl, h3, r3⟩ := trodAll_cons r2
  obtain ⟨v4, vs4, d4, ds4, p4, q4, rfl, rfl, rfl, h4, r4⟩ := trodAll_cons r3
  obtain ⟨v5, vs5, d5, ds5, p5, q5, rfl, rfl, rfl, h5, r5⟩ := trodAll_cons r4
  obtain ⟨v6, vs6, d6, ds6, p6, q6, rfl, rfl, rfl, h6, r6⟩ := trodAll_cons r5
  obtain ⟨v7, vs7, d7, ds7, p7, q7, rfl, rfl, rfl, h7, r7⟩ := trodAll_cons r6
  obtain ⟨v8, vs8, d8, ds8, p8, q8, rfl, rfl, rfl, h8, r8⟩ := trodAll_cons r7
  obtain ⟨rfl, rfl, rfl⟩ := trodAll_nil r8
  obtain rfl : args = #[v0, v1, v2, v3, v4, v5, v6, v7, v8] := by cases args; simp_all
  obtain ⟨rfl, rfl⟩ := trodVars_none hV
  obtain ⟨n0, f0, e0, m0, t0⟩ := arg_row (s := [.int .i64, .int .i64, .int .i64, .int .i64]) Try.underlying22 (by kernel_rfl) (hval 0 22 v0 rfl rfl) h0
  obtain ⟨i0, b0⟩ := intK_of_typ (k := .i64) (c := 4) rfl t0
  obtain ⟨n1, f1, e1, m1, t1⟩ := arg_row (s := [.int .i64, .int .i64, .int .i64, .int .i64, .int .i64]) Try.underlying30 (by kernel_rfl) (hval 1 30 v1 rfl rfl) h1
  obtain ⟨i1, b1⟩ := intK_of_typ (k := .i64) (c := 5) rfl t1
  obtain ⟨x2, rfl, rfl, rfl, w2⟩ := open_int Try.underlying3 (hval 2 3 v2 rfl rfl) h2
  obtain ⟨x3, rfl, rfl, rfl, w3⟩ := open_int Try.underlying3 (hval 3 3 v3 rfl rfl) h3
  obtain ⟨x4, rfl, rfl, rfl, w4⟩ := open_int Try.underlying3 (hval 4 3 v4 rfl rfl) h4
  obtain ⟨n5, f5, e5, m5, t5⟩ := arg_row (s := [.int .i64, .int .i64]) Try.underlying68 (by kernel_rfl) (hval 5 68 v5 rfl rfl) h5
  obtain ⟨i5, b5⟩ := intK_of_typ (k := .i64) (c := 2) rfl t5
  obtain ⟨n6, f6, e6, m6, t6⟩ := arg_row (s := [.int .i64]) Try.underlying33 (by kernel_rfl) (hval 6 33 v6 rfl rfl) h6
  obtain ⟨i6, b6⟩ := intK_of_typ (k := .i64) (c := 1) rfl t6
  obtain ⟨x7, rfl, rfl, rfl, w7⟩ := open_int Try.underlying3 (hval 7 3 v7 rfl rfl) h7
  obtain ⟨x8, rfl, rfl, rfl, w8⟩ := open_int Try.underlying5 (hval 8 5 v8 rfl rfl) h8
  have room0 := arg_room (j := 0) Try.underlying22 (hval 0 22 v0 rfl rfl) h0 e0 hsized rfl rfl
  have hd : DenL Env.emp W [.row n0 4 f0, .row n1 5 f1, .int .i64 x2, .int .i64 x3, .int .i64 x4, .row n5 2 f5, .row n6 1 f6, .int .i64 x7, .int .u8 x8] [v0, v1, .int .i64 x2, .int .i64 x3, .int .i64 x4, v5, v6, .int .i64 x7, .int .u8 x8] := ⟨e0, e1, .int _ _, .int _ _, .int _ _, e5, e6, .int _ _, .int _ _, trivial⟩
  refine (law_calls iceHolds_base (args := [.row n0 4 f0, .row n1 5 f1, .int .i64 x2, .int .i64 x3, .int .i64 x4, .row n5 2 f5, .row n6 1 f6, .int .i64 x7, .int .u8 x8]) rfl ⟨⟨rfl, fun i j hi hj => i0 i j hi hj⟩, ⟨rfl, fun i j hi hj => i1 i j hi hj⟩, ⟨rfl, fun i j hi hj => i5 i j hi hj⟩, ⟨rfl, fun i j hi hj => i6 i j hi hj⟩, w8, by
    have hb : Try.prog.bytesOf 37 = 32 := by kernel_rfl
    rw [hb] at room0
    have : reachBytes = 140737488351232 := rfl
    omega⟩ (denA_of hd)).mono fun e W' ⟨he, hb⟩ => ?_
  subst he
  exact ⟨_, rfl, law_end laid rfl Try.underlying4 (by kernel_rfl) rfl hW' rfl hb⟩
theorem over : Rows.iceHoldsRow.holds Try.pinned (OpenSpec.ofChange Rows.iceHoldsSpec) :=
  OpenClaim.holds_of_wide 11 Try.f11 rfl rfl rfl rfl rfl rfl rfl ⟨rfl, rfl, rfl, rfl, rfl⟩ rfl rfl rfl rfl rfl (by kernel_rfl) Try.func11 (by kernel_rfl)
    (of_decide_eq_true (by kernel_rfl)) (by unfold Func.isWrapper; first | (rw [if_pos (by decide +kernel)]; kernel_rfl) | (rw [if_neg (by decide +kernel)]; exact ⟨rfl, rfl⟩))
    (fun os started H enc _ => lifted os started H enc)
end Go.Proofs.Ytmpcdcphgepeiaa.iceHolds
namespace Go.Proofs.Ytmpcdcphgepeiaa
/-- The given statement. -/
theorem iceHolds_holds : Rows.IceHoldsSaid := iceHolds.over
#print axioms iceHolds_holds
end Go.Proofs.Ytmpcdcphgepeiaa
end
