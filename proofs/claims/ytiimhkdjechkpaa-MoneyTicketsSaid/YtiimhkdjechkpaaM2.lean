/-
  A part of the symbolic machine, of its soundness, and of what functions compute. No condition.
-/
import Derived.Test.YtiimhkdjechkpaaM1
set_option linter.unusedSimpArgs false
set_option linter.unusedVariables false
/- money: budgets. -/
section
namespace Go.Eng
open Go Go.RowKit Go.Proofs
set_option maxRecDepth 100000
set_option maxHeartbeats 4000000
attribute [local irreducible] OwnT DefS
def dayOk (l : Nat → Nat → Int) (i : Nat) : Bool := dyBl l i && (decide (i = 0) || decide (l (i - 1) 0 < l i 0))
def bdgB (n : Nat) (l : Nat → Nat → Int) : Bool := allU (dayOk l) n && decide (n ≤ 128)
theorem dyBl_iff {l : Nat → Nat → Int} {i : Nat} : dyBl l i = true ↔ (0 ≤ l i 0 ∧ l i 0 ≤ 16384) ∧ (0 ≤ l i 1 ∧ l i 1 ≤ l i 2 ∧ l i 2 ≤ 1099511627776) ∧ 0 ≤ l i 3 ∧ l i 3 ≤ l i 4 ∧ l i 4 ≤ 1099511627776 := by
  simp only [dyBl, dyB, Bool.and_eq_true, in3_iff, spB_iff]
theorem bdgB_iff {n : Nat} {l : Nat → Nat → Int} : bdgB n l = true ↔ n ≤ 128 ∧ ∀ i, i < n → dyBl l i = true ∧ (i = 0 ∨ l (i - 1) 0 < l i 0) := by
  simp only [bdgB, Bool.and_eq_true, decide_eq_true_eq, allU_iff, dayOk, Bool.or_eq_true]
  exact ⟨fun h => ⟨h.2, h.1⟩, fun h => ⟨h.2, h.1⟩⟩
def risingBase : BaseF := fun args => match args with
  | [.agg [.int .i64 a0, .int .i64 a1, .int .i64 a2, .int .i64 a3, .int .i64 a4], .agg [.int .i64 b0, .int .i64 b1, .int .i64 b2, .int .i64 b3, .int .i64 b4]] => some (True, .int .i64 (IntKind.i64.wrap (a0 - b0)))
  | _ => none
theorem rising_eq (a0 : Int) (a1 : Int) (a2 : Int) (a3 : Int) (a4 : Int) (b0 : Int) (b1 : Int) (b2 : Int) (b3 : Int) (b4 : Int) : risingBase [.agg [.int .i64 a0, .int .i64 a1, .int .i64 a2, .int .i64 a3, .int .i64 a4], .agg [.int .i64 b0, .int .i64 b1, .int .i64 b2, .int .i64 b3, .int .i64 b4]] = some (True, .int .i64 (IntKind.i64.wrap (a0 - b0))) := rfl
theorem rising_base : Base Try.prog 66 risingBase := by
  intro args p v hq hp
  unfold risingBase at hq
  split at hq
  rotate_left
  · cases hq
  rename_i a0 a1 a2 a3 a4 b0 b1 b2 b3 b4
  cases hq
  refine base_of (C := cx [] [] [] [] none) (cx_ok trivial trivial) rfl (g := 66) (fn := Try.f66)
    (args' := [.agg [.int .i64 a0, .int .i64 a1, .int .i64 a2, .int .i64 a3, .int .i64 a4], .agg [.int .i64 b0, .int .i64 b1, .int .i64 b2, .int .i64 b3, .int .i64 b4]]) (fn_66) rfl 1000 (by simp only [BdL, Bd, and_self, and_true, true_and]) ⟨SameD.rfl' _, SameD.rfl' _, trivial⟩ ?_
  simp only [Try.f66, go_sem, ↓reduceIte, Nat.reduceAdd, Nat.reduceSub, Nat.reduceMul, Nat.reduceEqDiff, Nat.reduceLT, Nat.reduceLeDiff, Int.reduceToNat, Int.reduceLE, Int.reduceLT, Int.reduceEq, Int.reduceNeg, reduceCtorEq]
def areDaysBase : BaseF := fun args => match args with
  | [.row n sz_l f_l] => some ((sz_l = 5 ∧ IntR n 5 f_l) ∧ (n ≤ 1000000), .bool (bdgB n (ivf f_l)))
  | _ => none
theorem areDays_eq (n : Nat) (sz_l : Nat) (f_l : Nat → Nat → SV) : areDaysBase [.row n sz_l f_l] = some ((sz_l = 5 ∧ IntR n 5 f_l) ∧ (n ≤ 1000000), .bool (bdgB n (ivf f_l))) := rfl
theorem areDays_base : Base Try.prog 51 areDaysBase := by
  intro args p v hq hp
  unfold areDaysBase at hq
  split at hq
  rotate_left
  · cases hq
  rename_i n sz_l f_l
  cases hq
  obtain ⟨⟨rfl, i_l⟩, pre⟩ := hp
  refine base_of (C := cx [] [] [(67, allDayBase), (66, risingBase)] [(51, 6, p51_6)] none) (cx_ok trivial ⟨allDay_base, rising_base, trivial⟩) rfl (g := 51) (fn := Try.f51)
    (args' := [.row n 5 (rowF .i64 (ivf f_l))]) (fn_51) rfl 1000 (by
    simp only [BdL, Bd, and_self, and_true, true_and]
    exact (fun i j hi hj => by rw [i_l i j hi hj]; trivial)) ⟨SameD.int i_l, trivial⟩ ?_
  generalize ivf f_l = l at *
  simp only [rowF_eq]
  simp only [allDay_eq, rising_eq, p51_6, Try.f51, go_sem, ↓reduceIte, Nat.reduceAdd, Nat.reduceSub, Nat.reduceMul, Nat.reduceEqDiff, Nat.reduceLT, Nat.reduceLeDiff, Int.reduceToNat, Int.reduceLE, Int.reduceLT, Int.reduceEq, Int.reduceNeg, reduceCtorEq]
  refine loop_ofH { i : Nat // 1 ≤ i ∧ (i ≤ n ∨ i = 1) ∧ ∀ j, 1 ≤ j → j < i → IntKind.i64.wrap (l (j - 1) 0 - l j 0) < 0 } (fun i => [(5, .int .i64 (i.1 : Int)), (4, .func 66 []), (3, .func 65 []), (0, .row n 5 fun i j => .int .i64 (l i j))]) (fun h _ => h) (fun i => n - i.1) (fun _ => ⟨rfl, rfl⟩) ⟨1, by omega, by omega, by omega⟩ (by (apply sub_of <;> simp only [go_sem, ↓reduceIte, Nat.reduceAdd, Nat.reduceSub, Nat.reduceMul, Nat.reduceEqDiff, Nat.reduceLT, Nat.reduceLeDiff, Int.reduceToNat, Int.reduceLE, Int.reduceLT, Int.reduceEq, Int.reduceNeg, reduceCtorEq] <;> (try simp [catF]) <;> (try exact fun j _ => Bd_nth (by simp [BdL, Bd]) j) <;> (try exact bd_setL (by simp [bdAs, BdL, Bd])) <;> (try exact nestF_bd _ _ _ _ _ _ _ _ _))) ?_
  rintro ⟨i, hi1, hi, h3⟩
  simp only [allDay_eq, rising_eq, p51_6, Try.f51, go_sem, ↓reduceIte, Nat.reduceAdd, Nat.reduceSub, Nat.reduceMul, Nat.reduceEqDiff, Nat.reduceLT, Nat.reduceLeDiff, Int.reduceToNat, Int.reduceLE, Int.reduceLT, Int.reduceEq, Int.reduceNeg, reduceCtorEq]
  have hp1 : 1 ≤ i → IntKind.i64.wrap ((i : Int) - 1) = ((i - 1 : Nat) : Int) := fun h => by rw [wrap_id (by omega) (by omega)]; omega
  have hw3 : i < n → IntKind.i64.wrap ((i : Int) + 1) = ((i + 1 : Nat) : Int) := fun h => by rw [wrap_id (by omega) (by omega)]; omega
  rw [hp1 hi1]
  simp only [Int.toNat_natCast]
  refine ⟨fun e1 => ?_, fun e1 => ?_⟩
  · simp only [decide_eq_true_eq] at e1
    refine ⟨⟨by kernel_rfl, by kernel_rfl⟩, ⟨by omega, by omega⟩, ⟨by omega, by omega⟩, fun e2 => ?_, fun e2 => ?_⟩
    · simp only [decide_eq_true_eq] at e2
      congr 1
      cases hb : bdgB n l with
      | false => rfl
      | true =>
        obtain ⟨_, h2⟩ := bdgB_iff.1 hb
        have a1 := h2 i (by omega)
        have a2 := dyBl_iff.1 (h2 (i - 1) (by omega)).1
        have a3 := dyBl_iff.1 a1.1
        rw [wrap_id (by omega) (by omega)] at e2
        omega
    · simp only [decide_eq_false_iff_not, Int.not_le] at e2
      refine ⟨⟨i + 1, by omega, by omega, fun j h1 h2 => ?_⟩, by simp only []; omega, ?_⟩
      · rcases Nat.lt_or_ge j i with h | h
        · exact h3 j h1 h
        · obtain rfl : j = i := by omega
          exact e2
      · apply sub_of <;> simp only [hw3 (by omega), go_sem, ↓reduceIte, Nat.reduceAdd, Nat.reduceSub, Nat.reduceMul, Nat.reduceEqDiff, Nat.reduceLT, Nat.reduceLeDiff, Int.reduceToNat, Int.reduceLE, Int.reduceLT, Int.reduceEq, Int.reduceNeg, reduceCtorEq] <;> (try simp) <;> (try exact fun j _ => Bd_nth (by simp [BdL, Bd]) j) <;> (try exact bd_setL (by simp [bdAs, BdL, Bd])) <;> (try exact nestF_bd _ _ _ _ _ _ _ _ _)
  · simp only [decide_eq_false_iff_not] at e1
    refine ⟨pre, ?_⟩
    congr 1
    rw [Bool.eq_iff_iff, bdgB_iff, Bool.and_eq_true, decide_eq_true_eq, allU_iff]
    refine ⟨fun h => ⟨by omega, fun j hj => ⟨h.2 j hj, ?_⟩⟩, fun h => ⟨by omega, fun j hj => (h.2 j hj).1⟩⟩
    rcases Nat.eq_zero_or_pos j with h0 | h0
    · exact .inl h0
    · right
      have a2 := dyBl_iff.1 (h.2 (j - 1) (by omega))
      have a3 := dyBl_iff.1 (h.2 j hj)
      have := h3 j h0 (by omega)
      rw [wrap_id (by omega) (by omega)] at this
      omega
def budgetBase : BaseF := fun args => match args with
  | [.row n sz_l f_l] => some ((sz_l = 5 ∧ IntR n 5 f_l) ∧ (n ≤ 1000000), .bool (bdgB n (ivf f_l)))
  | _ => none
theorem budget_eq (n : Nat) (sz_l : Nat) (f_l : Nat → Nat → SV) : budgetBase [.row n sz_l f_l] = some ((sz_l = 5 ∧ IntR n 5 f_l) ∧ (n ≤ 1000000), .bool (bdgB n (ivf f_l))) := rfl
theorem budget_base : Base Try.prog 29 budgetBase := by
  intro args p v hq hp
  unfold budgetBase at hq
  split at hq
  rotate_left
  · cases hq
  rename_i n sz_l f_l
  cases hq
  obtain ⟨⟨rfl, i_l⟩, pre⟩ := hp
  refine base_of (C := cx [] [] [(39, inBase), (56, spanBase)] [(29, 4, p29_4)] none) (cx_ok trivial ⟨in_base, span_base, trivial⟩) rfl (g := 29) (fn := Try.f29)
    (args' := [.row n 5 (rowF .i64 (ivf f_l))]) (fn_29) rfl 1000 (by
    simp only [BdL, Bd, and_self, and_true, true_and]
    exact (fun i j hi hj => by rw [i_l i j hi hj]; trivial)) ⟨SameD.int i_l, trivial⟩ ?_
  generalize ivf f_l = l at *
  simp only [rowF_eq]
  simp only [in_eq, span_eq, p29_4, Try.f29, go_sem, ↓reduceIte, Nat.reduceAdd, Nat.reduceSub, Nat.reduceMul, Nat.reduceEqDiff, Nat.reduceLT, Nat.reduceLeDiff, Int.reduceToNat, Int.reduceLE, Int.reduceLT, Int.reduceEq, Int.reduceNeg, reduceCtorEq]
  refine loop_ofH { i : Nat // i ≤ n ∧ ∀ j, j < i → dayOk l j = true } (fun i => [(3, .int .i64 (i.1 : Int)), (0, .row n 5 fun i j => .int .i64 (l i j))]) (fun h _ => h) (fun i => n - i.1) (fun _ => ⟨rfl, rfl⟩) ⟨0, by omega, by omega⟩ (by (apply sub_of <;> simp only [go_sem, ↓reduceIte, Nat.reduceAdd, Nat.reduceSub, Nat.reduceMul, Nat.reduceEqDiff, Nat.reduceLT, Nat.reduceLeDiff, Int.reduceToNat, Int.reduceLE, Int.reduceLT, Int.reduceEq, Int.reduceNeg, reduceCtorEq] <;> (try simp [catF]) <;> (try exact fun j _ => Bd_nth (by simp [BdL, Bd]) j) <;> (try exact bd_setL (by simp [bdAs, BdL, Bd])) <;> (try exact nestF_bd _ _ _ _ _ _ _ _ _))) ?_
  rintro ⟨i, hi, h3⟩
  simp only [in_eq, span_eq, p29_4, Try.f29, go_sem, ↓reduceIte, Nat.reduceAdd, Nat.reduceSub, Nat.reduceMul, Nat.reduceEqDiff, Nat.reduceLT, Nat.reduceLeDiff, Int.reduceToNat, Int.reduceLE, Int.reduceLT, Int.reduceEq, Int.reduceNeg, reduceCtorEq]
  have hw3 : IntKind.i64.wrap ((i : Int) + 1) = ((i + 1 : Nat) : Int) := by rw [wrap_id (by omega) (by omega)]; omega
  have bad : i < n → dayOk l i = false → SV.bool false = .bool (bdgB n l) := fun hi h => by unfold bdgB; rw [allU_false hi h, Bool.false_and]
  refine ⟨fun e1 => ?_, fun e1 => ?_⟩
  · simp only [decide_eq_true_eq] at e1
    have ik : i < n := by omega
    refine ⟨⟨by kernel_rfl, by kernel_rfl⟩, ⟨by omega, by omega⟩, fun e2 => bad ik (by simp [dayOk, dyBl, dyB, show in3 (l i 0) 0 16384 = false by simpa using e2]), fun e2 => ⟨⟨by omega, by omega⟩, fun e3 => bad ik (by simp [dayOk, dyBl, dyB, show spB (l i 1) (l i 2) = false by simpa using e3]), fun e3 => ⟨⟨by omega, by omega⟩, fun e4 => bad ik (by simp [dayOk, dyBl, dyB, show spB (l i 3) (l i 4) = false by simpa using e4]), fun e4 => ⟨fun e5 => ?_, fun e5 => ?_⟩⟩⟩⟩
    all_goals simp only [Bool.not_eq_false'] at e2 e3 e4
    · simp only [decide_eq_true_eq] at e5
      have hp1 : IntKind.i64.wrap ((i : Int) - 1) = ((i - 1 : Nat) : Int) := by rw [wrap_id (by omega) (by omega)]; omega
      rw [hp1]
      simp only [Int.toNat_natCast]
      refine ⟨⟨by omega, by omega⟩, ⟨by omega, by omega⟩, fun e6 => bad ik ?_, fun e6 => ?_⟩
      · simp only [decide_eq_true_eq] at e6
        simp [dayOk, show ¬ i = 0 by omega, show ¬ l (i - 1) 0 < l i 0 by omega]
      · simp only [decide_eq_false_iff_not] at e6
        refine ⟨⟨i + 1, by omega, below h3 (by simp [dayOk, dyBl, dyB, e2, e3, e4, show l (i - 1) 0 < l i 0 by omega])⟩, by simp only []; omega, ?_⟩
        apply sub_of <;> simp only [hw3, go_sem, ↓reduceIte, Nat.reduceAdd, Nat.reduceSub, Nat.reduceMul, Nat.reduceEqDiff, Nat.reduceLT, Nat.reduceLeDiff, Int.reduceToNat, Int.reduceLE, Int.reduceLT, Int.reduceEq, Int.reduceNeg, reduceCtorEq] <;> (try simp) <;> (try exact fun j _ => Bd_nth (by simp [BdL, Bd]) j) <;> (try exact bd_setL (by simp [bdAs, BdL, Bd])) <;> (try exact nestF_bd _ _ _ _ _ _ _ _ _)
    · simp only [decide_eq_false_iff_not] at e5
      refine ⟨⟨i + 1, by omega, below h3 (by simp only [dayOk, dyBl, dyB, e2, e3, e4, decide_eq_true (show i = 0 by omega), Bool.true_and, Bool.true_or])⟩, by simp only []; omega, ?_⟩
      apply sub_of <;> simp only [hw3, go_sem, ↓reduceIte, Nat.reduceAdd, Nat.reduceSub, Nat.reduceMul, Nat.reduceEqDiff, Nat.reduceLT, Nat.reduceLeDiff, Int.reduceToNat, Int.reduceLE, Int.reduceLT, Int.reduceEq, Int.reduceNeg, reduceCtorEq] <;> (try simp) <;> (try exact fun j _ => Bd_nth (by simp [BdL, Bd]) j) <;> (try exact bd_setL (by simp [bdAs, BdL, Bd])) <;> (try exact nestF_bd _ _ _ _ _ _ _ _ _)
  · simp only [decide_eq_false_iff_not] at e1
    obtain rfl : i = n := by omega
    congr 1
    simp only [bdgB, allU_true h3, Bool.true_and]
    congr 1
    simp
    omega
end Go.Eng
end

/- money: when it runs out, and how much is enough. -/
section
namespace Go.Eng
open Go Go.RowKit Go.Proofs
set_option maxRecDepth 100000
set_option maxHeartbeats 4000000
attribute [local irreducible] OwnT DefS
/-- The least money, behind i days. -/
def loS (s : Int) (l : Nat → Nat → Int) : Nat → Int
  | 0 => s
  | i + 1 => loS s l i + (l i 1 - l i 4)
/-- The greatest. -/
def hiS (s : Int) (l : Nat → Nat → Int) : Nat → Int
  | 0 => s
  | i + 1 => hiS s l i + (l i 2 - l i 3)
theorem loS_bd {l : Nat → Nat → Int} {n : Nat} {s : Int} (hl : ∀ i, i < n → dyBl l i = true) (hs : -1099511627776 ≤ s ∧ s ≤ 1099511627776) : ∀ i, i ≤ n → -(1099511627776 * (i + 1 : Int)) ≤ loS s l i ∧ loS s l i ≤ 1099511627776 * (i + 1 : Int)
  | 0, _ => by simp only [loS]; omega
  | i + 1, hi => by
    have h1 := loS_bd hl hs i (by omega)
    have h2 := dyBl_iff.1 (hl i (by omega))
    simp only [loS]
    omega
theorem hiS_bd {l : Nat → Nat → Int} {n : Nat} {s : Int} (hl : ∀ i, i < n → dyBl l i = true) (hs : -1099511627776 ≤ s ∧ s ≤ 1099511627776) : ∀ i, i ≤ n → -(1099511627776 * (i + 1 : Int)) ≤ hiS s l i ∧ hiS s l i ≤ 1099511627776 * (i + 1 : Int)
  | 0, _ => by simp only [hiS]; omega
  | i + 1, hi => by
    have h1 := hiS_bd hl hs i (by omega)
    have h2 := dyBl_iff.1 (hl i (by omega))
    simp only [hiS]
    omega
def ltL (s : Nat → Int) (l : Nat → Nat → Int) : Nat → Int
  | 0 => -1
  | n + 1 => if s (n + 1) < 0 then if ltL s l n < 0 then l n 0 else ltL s l n else ltL s l n
/-- The first day behind which there is less than nothing. -/
def day1 (s : Nat → Int) (l : Nat → Nat → Int) (n : Nat) : Int := ltL s l n
theorem ltL_none {s : Nat → Int} {l : Nat → Nat → Int} : ∀ {n : Nat}, (∀ i, i < n → 0 ≤ s (i + 1)) → ltL s l n = -1
  | 0, _ => rfl
  | n + 1, h => by
    have := h n (by omega)
    rw [ltL, ltL_none (fun i hi => h i (by omega)), if_neg (by omega)]
theorem ltL_hit {s : Nat → Int} {l : Nat → Nat → Int} {q : Nat} (hq : s (q + 1) < 0) (hl : 0 ≤ l q 0) (h0 : ∀ i, i < q → 0 ≤ s (i + 1)) : ∀ {n : Nat}, q < n → ltL s l n = l q 0
  | 0, h => by omega
  | n + 1, h => by
    rcases Nat.lt_or_ge q n with h1 | h1
    · rw [ltL, ltL_hit hq hl h0 h1, if_neg (show ¬ l q 0 < 0 by omega), ite_self]
    · obtain rfl : q = n := by omega
      rw [ltL, ltL_none h0, if_pos hq, if_pos (show (-1 : Int) < 0 by omega)]
theorem ltL_cases (s : Nat → Int) (l : Nat → Nat → Int) (n : Nat) (hl : ∀ i, i < n → 0 ≤ l i 0) : (ltL s l n = -1 ∧ ∀ i, i < n → 0 ≤ s (i + 1)) ∨ ∃ q, q < n ∧ s (q + 1) < 0 ∧ (∀ i, i < q → 0 ≤ s (i + 1)) ∧ ltL s l n = l q 0 := by
  by_cases h : ∃ q, q < n ∧ s (q + 1) < 0
  · have key : ∀ q, q < n → s (q + 1) < 0 → ∃ q, q < n ∧ s (q + 1) < 0 ∧ ∀ i, i < q → 0 ≤ s (i + 1) := by
      intro q
      induction q using Nat.strongRecOn with
      | ind q ih =>
        intro hq hs
        by_cases h2 : ∃ i, i < q ∧ s (i + 1) < 0
        · obtain ⟨i, hi, hsi⟩ := h2
          exact ih i hi (by omega) hsi
        · exact ⟨q, hq, hs, fun i hi => by
            rcases Int.lt_or_le (s (i + 1)) 0 with h3 | h3
            · exact absurd ⟨i, hi, h3⟩ h2
            · exact h3⟩
    obtain ⟨q, hq, hs⟩ := h
    obtain ⟨q, hq, hs, h0⟩ := key q hq hs
    exact .inr ⟨q, hq, hs, h0, ltL_hit hs (hl q hq) h0 hq⟩
  · have h0 : ∀ i, i < n → 0 ≤ s (i + 1) := fun i hi => by
      rcases Int.lt_or_le (s (i + 1)) 0 with h3 | h3
      · exact absurd ⟨i, hi, h3⟩ h
      · exact h3
    exact .inl ⟨ltL_none h0, h0⟩
def belE (n : Nat) (l : Nat → Nat → Int) (a b : Int) : Int := if bdgB n l then if spB a b then if ltL (loS a l) l n < 0 then 4 else 0 else 2 else 1
def belS (n : Nat) (l : Nat → Nat → Int) (a b : Int) : Int := if belE n l a b = 0 then ltL (hiS b l) l n else 0
def belP (n : Nat) (l : Nat → Nat → Int) (a b : Int) : Int := if belE n l a b = 0 then ltL (loS a l) l n else 0
/-- The purse that takes the most, or the least, is told of days one after the other. -/
theorem rich_calls0 {n : Nat} {l : Nat → Nat → Int} (hn : n ≤ 128) (hl : ∀ i, i < n → dyBl l i = true) {s : Int} (hs : -1099511627776 ≤ s ∧ s ≤ 1099511627776) :
    CallsS Try.prog 53 [.row n 5 fun i j => .int .i64 (l i j), .meth 54 [.ptr 0 0]] ⟨[.live 99 [.int .i64 s]], []⟩ (fun o h' => ∃ z, o = .ret (.int .i64 (ltL (hiS s l) l n)) ∧ h' = ⟨[.live 99 [.int .i64 z]], []⟩) := by
  refine calls_trim (K := fun o h' => ∃ z ext, o = .ret (.int .i64 (ltL (hiS s l) l n)) ∧ h' = ⟨.live 99 [.int .i64 z] :: ext, []⟩) (calls_of_run (C := cx [] [] [] [(54, 1, p54_1)] none) (cx_ok trivial trivial) rfl fn_53 rfl 1000 ?_) ?_
  · simp only [Try.f53, Try.f54, p54_1, go_sem, ↓reduceIte, Nat.reduceAdd, Nat.reduceSub, Nat.reduceMul, Nat.reduceEqDiff, Nat.reduceLT, Nat.reduceLeDiff, Int.reduceToNat, Int.reduceLE, Int.reduceLT, Int.reduceEq, Int.reduceNeg, reduceCtorEq]
    refine loop_of { i : Nat // i ≤ n ∧ ∀ j, j < i → 0 ≤ hiS s l (j + 1) } (fun i => [(9, .int .i64 (i.1 : Int)), (8, .int .i64 (n : Int)), (7, .row n 5 fun i j => .int .i64 (l i j)), (1, .meth 54 [.ptr 0 0])]) (fun i => ⟨[.live 99 [.int .i64 (hiS s l i.1)]], []⟩) (fun i => n - i.1) (fun _ => ⟨rfl, rfl⟩) ⟨0, by omega, by omega⟩ (by simp only [hiS]; (apply sub_of <;> simp only [go_sem, ↓reduceIte, Nat.reduceAdd, Nat.reduceSub, Nat.reduceMul, Nat.reduceEqDiff, Nat.reduceLT, Nat.reduceLeDiff, Int.reduceToNat, Int.reduceLE, Int.reduceLT, Int.reduceEq, Int.reduceNeg, reduceCtorEq] <;> (try simp [catF]) <;> (try exact fun j _ => Bd_nth (by simp [BdL, Bd]) j) <;> (try exact bd_setL (by simp [bdAs, BdL, Bd])) <;> (try exact nestF_bd _ _ _ _ _ _ _ _ _))) ?_
    rintro ⟨i, hi, h3⟩
    simp only [Try.f53, Try.f54, p54_1, go_sem, ↓reduceIte, Nat.reduceAdd, Nat.reduceSub, Nat.reduceMul, Nat.reduceEqDiff, Nat.reduceLT, Nat.reduceLeDiff, Int.reduceToNat, Int.reduceLE, Int.reduceLT, Int.reduceEq, Int.reduceNeg, reduceCtorEq]
    have hw3 : IntKind.i64.wrap ((i : Int) + 1) = ((i + 1 : Nat) : Int) := by rw [wrap_id (by omega) (by omega)]; omega
    refine ⟨fun e1 => ?_, fun e1 => ?_⟩
    · simp only [decide_eq_true_eq] at e1
      have ik : i < n := by omega
      have hd := dyBl_iff.1 (hl i ik)
      have hb := hiS_bd hl hs i (by omega)
      have w1 : IntKind.i64.wrap (l i 2 - l i 3) = l i 2 - l i 3 := wrap_id (by omega) (by omega)
      have w2 : IntKind.i64.wrap (hiS s l i + (l i 2 - l i 3)) = hiS s l (i + 1) := by rw [wrap_id (by omega) (by omega)]; rfl
      rw [w1, w2]
      refine ⟨⟨by omega, by omega⟩, ⟨by kernel_rfl, by kernel_rfl⟩, fun e2 => ?_, fun e2 => ?_⟩
      · simp only [decide_eq_true_eq] at e2
        exact ⟨_, _, by rw [ltL_hit e2 hd.1.1 h3 ik], rfl⟩
      · simp only [decide_eq_false_iff_not, Int.not_lt] at e2
        refine ⟨⟨i + 1, by omega, fun j hj => ?_⟩, by simp only []; omega, ?_⟩
        · rcases Nat.lt_or_ge j i with h | h
          · exact h3 j h
          · obtain rfl : j = i := by omega
            exact e2
        · apply sub_of <;> simp only [hw3, w1, w2, go_sem, ↓reduceIte, Nat.reduceAdd, Nat.reduceSub, Nat.reduceMul, Nat.reduceEqDiff, Nat.reduceLT, Nat.reduceLeDiff, Int.reduceToNat, Int.reduceLE, Int.reduceLT, Int.reduceEq, Int.reduceNeg, reduceCtorEq] <;> (try simp) <;> (try exact fun j _ => Bd_nth (by simp [BdL, Bd]) j) <;> (try exact bd_setL (by simp [bdAs, BdL, Bd])) <;> (try exact nestF_bd _ _ _ _ _ _ _ _ _)
    · simp only [decide_eq_false_iff_not] at e1
      obtain rfl : i = n := by omega
      exact ⟨_, [], by rw [ltL_none h3], rfl⟩
  · rintro o h' ⟨z, ext, rfl, rfl⟩
    exact ⟨_, _, ⟨[.live 99 [.int .i64 z]], []⟩, ⟨rfl, z, rfl, rfl⟩, ⟨by simp only [go_sem, ↓reduceIte, Nat.reduceAdd, Nat.reduceSub, Nat.reduceMul, Nat.reduceEqDiff, Nat.reduceLT, Nat.reduceLeDiff, Int.reduceToNat, Int.reduceLE, Int.reduceLT, Int.reduceEq, Int.reduceNeg, reduceCtorEq], by simp only [go_sem, ↓reduceIte, Nat.reduceAdd, Nat.reduceSub, Nat.reduceMul, Nat.reduceEqDiff, Nat.reduceLT, Nat.reduceLeDiff, Int.reduceToNat, Int.reduceLE, Int.reduceLT, Int.reduceEq, Int.reduceNeg, reduceCtorEq], by simp only [go_sem, ↓reduceIte, Nat.reduceAdd, Nat.reduceSub, Nat.reduceMul, Nat.reduceEqDiff, Nat.reduceLT, Nat.reduceLeDiff, Int.reduceToNat, Int.reduceLE, Int.reduceLT, Int.reduceEq, Int.reduceNeg, reduceCtorEq], by simp only [go_sem, ↓reduceIte, Nat.reduceAdd, Nat.reduceSub, Nat.reduceMul, Nat.reduceEqDiff, Nat.reduceLT, Nat.reduceLeDiff, Int.reduceToNat, Int.reduceLE, Int.reduceLT, Int.reduceEq, Int.reduceNeg, reduceCtorEq], by simp only [go_sem, ↓reduceIte, Nat.reduceAdd, Nat.reduceSub, Nat.reduceMul, Nat.reduceEqDiff, Nat.reduceLT, Nat.reduceLeDiff, Int.reduceToNat, Int.reduceLE, Int.reduceLT, Int.reduceEq, Int.reduceNeg, reduceCtorEq], by simp only [go_sem, ↓reduceIte, Nat.reduceAdd, Nat.reduceSub, Nat.reduceMul, Nat.reduceEqDiff, Nat.reduceLT, Nat.reduceLeDiff, Int.reduceToNat, Int.reduceLE, Int.reduceLT, Int.reduceEq, Int.reduceNeg, reduceCtorEq]⟩, ⟨by simp [lenB], by simp [lenB]⟩, ⟨by simp [lenV], by simp [lenV]⟩⟩
theorem rich_calls {n : Nat} {l : Nat → Nat → Int} (hn : n ≤ 128) (hl : ∀ i, i < n → dyBl l i = true) {s : Int} (hs : -1099511627776 ≤ s ∧ s ≤ 1099511627776) (h : HS) (k : Nat) (hk : getB h.blks k = .live 99 [.int .i64 s]) :
    CallsS Try.prog 53 [.row n 5 fun i j => .int .i64 (l i j), .meth 54 [.ptr k 0]] h (fun o h' => ∃ z, o = .ret (.int .i64 (ltL (hiS s l) l n)) ∧ h' = ⟨setB h.blks k (.live 99 [.int .i64 z]), h.vecs⟩) := by
  have := calls_ren (h := h) [k] [] (rich_calls0 hn hl hs) (by simp) (by simp) (by simp [BdL, Bd]) (by simp [bdB, BdL, Bd]) (by simp [bdV])
    ⟨by simp only [go_sem, ↓reduceIte, Nat.reduceAdd, Nat.reduceSub, Nat.reduceMul, Nat.reduceEqDiff, Nat.reduceLT, Nat.reduceLeDiff, Int.reduceToNat, Int.reduceLE, Int.reduceLT, Int.reduceEq, Int.reduceNeg, reduceCtorEq]; exact hk, trivial⟩ (by simp only [go_sem, ↓reduceIte, Nat.reduceAdd, Nat.reduceSub, Nat.reduceMul, Nat.reduceEqDiff, Nat.reduceLT, Nat.reduceLeDiff, Int.reduceToNat, Int.reduceLE, Int.reduceLT, Int.reduceEq, Int.reduceNeg, reduceCtorEq]) (by intro k' hk'; simp at hk'; subst hk'; exact getB_lt hk) (by simp)
    (by rintro o h' ⟨z, rfl, rfl⟩; simp [bdO, bdB, bdV, BdL, Bd, lenB, lenV])
  simp only [go_sem, ↓reduceIte, Nat.reduceAdd, Nat.reduceSub, Nat.reduceMul, Nat.reduceEqDiff, Nat.reduceLT, Nat.reduceLeDiff, Int.reduceToNat, Int.reduceLE, Int.reduceLT, Int.reduceEq, Int.reduceNeg, reduceCtorEq] at this
  refine calls_mono ?_ this
  rintro o h' ⟨o0, h0', ⟨z, rfl, rfl⟩, rfl, rfl⟩
  exact ⟨z, by simp only [go_sem, ↓reduceIte, Nat.reduceAdd, Nat.reduceSub, Nat.reduceMul, Nat.reduceEqDiff, Nat.reduceLT, Nat.reduceLeDiff, Int.reduceToNat, Int.reduceLE, Int.reduceLT, Int.reduceEq, Int.reduceNeg, reduceCtorEq], by simp only [go_sem, ↓reduceIte, Nat.reduceAdd, Nat.reduceSub, Nat.reduceMul, Nat.reduceEqDiff, Nat.reduceLT, Nat.reduceLeDiff, Int.reduceToNat, Int.reduceLE, Int.reduceLT, Int.reduceEq, Int.reduceNeg, reduceCtorEq]⟩
theorem poor_calls0 {n : Nat} {l : Nat → Nat → Int} (hn : n ≤ 128) (hl : ∀ i, i < n → dyBl l i = true) {s : Int} (hs : -1099511627776 ≤ s ∧ s ≤ 1099511627776) :
    CallsS Try.prog 53 [.row n 5 fun i j => .int .i64 (l i j), .meth 55 [.ptr 0 0]] ⟨[.live 99 [.int .i64 s]], []⟩ (fun o h' => ∃ z, o = .ret (.int .i64 (ltL (loS s l) l n)) ∧ h' = ⟨[.live 99 [.int .i64 z]], []⟩) := by
  refine calls_trim (K := fun o h' => ∃ z ext, o = .ret (.int .i64 (ltL (loS s l) l n)) ∧ h' = ⟨.live 99 [.int .i64 z] :: ext, []⟩) (calls_of_run (C := cx [] [] [] [(55, 1, p55_1)] none) (cx_ok trivial trivial) rfl fn_53 rfl 1000 ?_) ?_
  · simp only [Try.f53, Try.f55, p55_1, go_sem, ↓reduceIte, Nat.reduceAdd, Nat.reduceSub, Nat.reduceMul, Nat.reduceEqDiff, Nat.reduceLT, Nat.reduceLeDiff, Int.reduceToNat, Int.reduceLE, Int.reduceLT, Int.reduceEq, Int.reduceNeg, reduceCtorEq]
    refine loop_of { i : Nat // i ≤ n ∧ ∀ j, j < i → 0 ≤ loS s l (j + 1) } (fun i => [(9, .int .i64 (i.1 : Int)), (8, .int .i64 (n : Int)), (7, .row n 5 fun i j => .int .i64 (l i j)), (1, .meth 55 [.ptr 0 0])]) (fun i => ⟨[.live 99 [.int .i64 (loS s l i.1)]], []⟩) (fun i => n - i.1) (fun _ => ⟨rfl, rfl⟩) ⟨0, by omega, by omega⟩ (by simp only [loS]; (apply sub_of <;> simp only [go_sem, ↓reduceIte, Nat.reduceAdd, Nat.reduceSub, Nat.reduceMul, Nat.reduceEqDiff, Nat.reduceLT, Nat.reduceLeDiff, Int.reduceToNat, Int.reduceLE, Int.reduceLT, Int.reduceEq, Int.reduceNeg, reduceCtorEq] <;> (try simp [catF]) <;> (try exact fun j _ => Bd_nth (by simp [BdL, Bd]) j) <;> (try exact bd_setL (by simp [bdAs, BdL, Bd])) <;> (try exact nestF_bd _ _ _ _ _ _ _ _ _))) ?_
    rintro ⟨i, hi, h3⟩
    simp only [Try.f53, Try.f55, p55_1, go_sem, ↓reduceIte, Nat.reduceAdd, Nat.reduceSub, Nat.reduceMul, Nat.reduceEqDiff, Nat.reduceLT, Nat.reduceLeDiff, Int.reduceToNat, Int.reduceLE, Int.reduceLT, Int.reduceEq, Int.reduceNeg, reduceCtorEq]
    have hw3 : IntKind.i64.wrap ((i : Int) + 1) = ((i + 1 : Nat) : Int) := by rw [wrap_id (by omega) (by omega)]; omega
    refine ⟨fun e1 => ?_, fun e1 => ?_⟩
    · simp only [decide_eq_true_eq] at e1
      have ik : i < n := by omega
      have hd := dyBl_iff.1 (hl i ik)
      have hb := loS_bd hl hs i (by omega)
      have w1 : IntKind.i64.wrap (l i 1 - l i 4) = l i 1 - l i 4 := wrap_id (by omega) (by omega)
      have w2 : IntKind.i64.wrap (loS s l i + (l i 1 - l i 4)) = loS s l (i + 1) := by rw [wrap_id (by omega) (by omega)]; rfl
      rw [w1, w2]
      refine ⟨⟨by omega, by omega⟩, ⟨by kernel_rfl, by kernel_rfl⟩, fun e2 => ?_, fun e2 => ?_⟩
      · simp only [decide_eq_true_eq] at e2
        exact ⟨_, _, by rw [ltL_hit e2 hd.1.1 h3 ik], rfl⟩
      · simp only [decide_eq_false_iff_not, Int.not_lt] at e2
        refine ⟨⟨i + 1, by omega, fun j hj => ?_⟩, by simp only []; omega, ?_⟩
        · rcases Nat.lt_or_ge j i with h | h
          · exact h3 j h
          · obtain rfl : j = i := by omega
            exact e2
        · apply sub_of <;> simp only [hw3, w1, w2, go_sem, ↓reduceIte, Nat.reduceAdd, Nat.reduceSub, Nat.reduceMul, Nat.reduceEqDiff, Nat.reduceLT, Nat.reduceLeDiff, Int.reduceToNat, Int.reduceLE, Int.reduceLT, Int.reduceEq, Int.reduceNeg, reduceCtorEq] <;> (try simp) <;> (try exact fun j _ => Bd_nth (by simp [BdL, Bd]) j) <;> (try exact bd_setL (by simp [bdAs, BdL, Bd])) <;> (try exact nestF_bd _ _ _ _ _ _ _ _ _)
    · simp only [decide_eq_false_iff_not] at e1
      obtain rfl : i = n := by omega
      exact ⟨_, [], by rw [ltL_none h3], rfl⟩
  · rintro o h' ⟨z, ext, rfl, rfl⟩
    exact ⟨_, _, ⟨[.live 99 [.int .i64 z]], []⟩, ⟨rfl, z, rfl, rfl⟩, ⟨by simp only [go_sem, ↓reduceIte, Nat.reduceAdd, Nat.reduceSub, Nat.reduceMul, Nat.reduceEqDiff, Nat.reduceLT, Nat.reduceLeDiff, Int.reduceToNat, Int.reduceLE, Int.reduceLT, Int.reduceEq, Int.reduceNeg, reduceCtorEq], by simp only [go_sem, ↓reduceIte, Nat.reduceAdd, Nat.reduceSub, Nat.reduceMul, Nat.reduceEqDiff, Nat.reduceLT, Nat.reduceLeDiff, Int.reduceToNat, Int.reduceLE, Int.reduceLT, Int.reduceEq, Int.reduceNeg, reduceCtorEq], by simp only [go_sem, ↓reduceIte, Nat.reduceAdd, Nat.reduceSub, Nat.reduceMul, Nat.reduceEqDiff, Nat.reduceLT, Nat.reduceLeDiff, Int.reduceToNat, Int.reduceLE, Int.reduceLT, Int.reduceEq, Int.reduceNeg, reduceCtorEq], by simp only [go_sem, ↓reduceIte, Nat.reduceAdd, Nat.reduceSub, Nat.reduceMul, Nat.reduceEqDiff, Nat.reduceLT, Nat.reduceLeDiff, Int.reduceToNat, Int.reduceLE, Int.reduceLT, Int.reduceEq, Int.reduceNeg, reduceCtorEq], by simp only [go_sem, ↓reduceIte, Nat.reduceAdd, Nat.reduceSub, Nat.reduceMul, Nat.reduceEqDiff, Nat.reduceLT, Nat.reduceLeDiff, Int.reduceToNat, Int.reduceLE, Int.reduceLT, Int.reduceEq, Int.reduceNeg, reduceCtorEq], by simp only [go_sem, ↓reduceIte, Nat.reduceAdd, Nat.reduceSub, Nat.reduceMul, Nat.reduceEqDiff, Nat.reduceLT, Nat.reduceLeDiff, Int.reduceToNat, Int.reduceLE, Int.reduceLT, Int.reduceEq, Int.reduceNeg, reduceCtorEq]⟩, ⟨by simp [lenB], by simp [lenB]⟩, ⟨by simp [lenV], by simp [lenV]⟩⟩
theorem poor_calls {n : Nat} {l : Nat → Nat → Int} (hn : n ≤ 128) (hl : ∀ i, i < n → dyBl l i = true) {s : Int} (hs : -1099511627776 ≤ s ∧ s ≤ 1099511627776) (h : HS) (k : Nat) (hk : getB h.blks k = .live 99 [.int .i64 s]) :
    CallsS Try.prog 53 [.row n 5 fun i j => .int .i64 (l i j), .meth 55 [.ptr k 0]] h (fun o h' => ∃ z, o = .ret (.int .i64 (ltL (loS s l) l n)) ∧ h' = ⟨setB h.blks k (.live 99 [.int .i64 z]), h.vecs⟩) := by
  have := calls_ren (h := h) [k] [] (poor_calls0 hn hl hs) (by simp) (by simp) (by simp [BdL, Bd]) (by simp [bdB, BdL, Bd]) (by simp [bdV])
    ⟨by simp only [go_sem, ↓reduceIte, Nat.reduceAdd, Nat.reduceSub, Nat.reduceMul, Nat.reduceEqDiff, Nat.reduceLT, Nat.reduceLeDiff, Int.reduceToNat, Int.reduceLE, Int.reduceLT, Int.reduceEq, Int.reduceNeg, reduceCtorEq]; exact hk, trivial⟩ (by simp only [go_sem, ↓reduceIte, Nat.reduceAdd, Nat.reduceSub, Nat.reduceMul, Nat.reduceEqDiff, Nat.reduceLT, Nat.reduceLeDiff, Int.reduceToNat, Int.reduceLE, Int.reduceLT, Int.reduceEq, Int.reduceNeg, reduceCtorEq]) (by intro k' hk'; simp at hk'; subst hk'; exact getB_lt hk) (by simp)
    (by rintro o h' ⟨z, rfl, rfl⟩; simp [bdO, bdB, bdV, BdL, Bd, lenB, lenV])
  simp only [go_sem, ↓reduceIte, Nat.reduceAdd, Nat.reduceSub, Nat.reduceMul, Nat.reduceEqDiff, Nat.reduceLT, Nat.reduceLeDiff, Int.reduceToNat, Int.reduceLE, Int.reduceLT, Int.reduceEq, Int.reduceNeg, reduceCtorEq] at this
  refine calls_mono ?_ this
  rintro o h' ⟨o0, h0', ⟨z, rfl, rfl⟩, rfl, rfl⟩
  exact ⟨z, by simp only [go_sem, ↓reduceIte, Nat.reduceAdd, Nat.reduceSub, Nat.reduceMul, Nat.reduceEqDiff, Nat.reduceLT, Nat.reduceLeDiff, Int.reduceToNat, Int.reduceLE, Int.reduceLT, Int.reduceEq, Int.reduceNeg, reduceCtorEq], by simp only [go_sem, ↓reduceIte, Nat.reduceAdd, Nat.reduceSub, Nat.reduceMul, Nat.reduceEqDiff, Nat.reduceLT, Nat.reduceLeDiff, Int.reduceToNat, Int.reduceLE, Int.reduceLT, Int.reduceEq, Int.reduceNeg, reduceCtorEq]⟩
def below_Base : BaseF := fun args => match args with
  | [.agg [.int .i64 a, .int .i64 b], .row n sz_l f_l] => some ((sz_l = 5 ∧ IntR n 5 f_l) ∧ (n ≤ 1000000), .tup [.int .i64 (belS n (ivf f_l) a b), .int .i64 (belP n (ivf f_l) a b), .int .i64 (belE n (ivf f_l) a b)])
  | _ => none
theorem below__eq (a : Int) (b : Int) (n : Nat) (sz_l : Nat) (f_l : Nat → Nat → SV) : below_Base [.agg [.int .i64 a, .int .i64 b], .row n sz_l f_l] = some ((sz_l = 5 ∧ IntR n 5 f_l) ∧ (n ≤ 1000000), .tup [.int .i64 (belS n (ivf f_l) a b), .int .i64 (belP n (ivf f_l) a b), .int .i64 (belE n (ivf f_l) a b)]) := rfl
theorem below__base : Base Try.prog 20 below_Base := by
  intro args p v hq hp
  unfold below_Base at hq
  split at hq
  rotate_left
  · cases hq
  rename_i a b n sz_l f_l
  cases hq
  obtain ⟨⟨rfl, i_l⟩, pre⟩ := hp
  refine base_of (C := cx [53] [] [(51, areDaysBase), (52, isSpanBase)] [(20, 5, p20_5)] none) (cx_ok trivial ⟨areDays_base, isSpan_base, trivial⟩) rfl (g := 20) (fn := Try.f20)
    (args' := [.agg [.int .i64 a, .int .i64 b], .row n 5 (rowF .i64 (ivf f_l))]) (fn_20) rfl 1000 (by
    simp only [BdL, Bd, and_self, and_true, true_and]
    exact (fun i j hi hj => by rw [i_l i j hi hj]; trivial)) ⟨SameD.rfl' _, SameD.int i_l, trivial⟩ ?_
  generalize ivf f_l = l at *
  simp only [rowF_eq]
  simp only [areDays_eq, isSpan_eq, p20_5, Try.f20, go_sem, ↓reduceIte, Nat.reduceAdd, Nat.reduceSub, Nat.reduceMul, Nat.reduceEqDiff, Nat.reduceLT, Nat.reduceLeDiff, Int.reduceToNat, Int.reduceLE, Int.reduceLT, Int.reduceEq, Int.reduceNeg, reduceCtorEq]
  have bad : ∀ e, belE n l a b = e → e ≠ 0 → SV.tup [.int .i64 0, .int .i64 0, .int .i64 e] = .tup [.int .i64 (belS n l a b), .int .i64 (belP n l a b), .int .i64 (belE n l a b)] := fun e he h0 => by
    simp [belS, belP, he, h0]
  refine ⟨pre, fun c1 => bad 1 ?_ (by decide), fun c1 => ⟨fun c2 => bad 2 ?_ (by decide), fun c2 => ?_⟩⟩
  · simp [belE, show bdgB n l = false by simpa using c1]
  · simp [belE, show bdgB n l = true by simpa using c1, show spB a b = false by simpa using c2]
  simp only [Bool.not_eq_false'] at c1 c2
  obtain ⟨h1, h2⟩ := bdgB_iff.1 c1
  have h3 := spB_iff.1 c2
  have hE : belE n l a b = if ltL (loS a l) l n < 0 then 4 else 0 := by simp [belE, c1, c2]
  have fin : ∀ (q : Prop), (q = (belE n l a b = 4)) → True := fun _ _ => trivial
  refine ⟨⟨by kernel_rfl, by kernel_rfl⟩, ?_, ?_⟩
  · unfold callS
    refine calls_mono ?_ (rich_calls (s := b) h1 (fun i hi => (h2 i hi).1) (by omega) _ 2 rfl)
    rintro o h' ⟨z, rfl, rfl⟩
    simp only [areDays_eq, isSpan_eq, p20_5, Try.f20, go_sem, ↓reduceIte, Nat.reduceAdd, Nat.reduceSub, Nat.reduceMul, Nat.reduceEqDiff, Nat.reduceLT, Nat.reduceLeDiff, Int.reduceToNat, Int.reduceLE, Int.reduceLT, Int.reduceEq, Int.reduceNeg, reduceCtorEq]
    unfold callS
    refine calls_mono ?_ (poor_calls (s := a) h1 (fun i hi => (h2 i hi).1) (by omega) _ 1 rfl)
    rintro o h' ⟨z, rfl, rfl⟩
    simp only [areDays_eq, isSpan_eq, p20_5, Try.f20, go_sem, ↓reduceIte, Nat.reduceAdd, Nat.reduceSub, Nat.reduceMul, Nat.reduceEqDiff, Nat.reduceLT, Nat.reduceLeDiff, Int.reduceToNat, Int.reduceLE, Int.reduceLT, Int.reduceEq, Int.reduceNeg, reduceCtorEq]
    refine ⟨fun c3 => bad 4 (by rw [hE]; simp [show ltL (loS a l) l n < 0 by simpa using c3]) (by decide), fun c3 => ?_⟩
    have hE0 : belE n l a b = 0 := by rw [hE]; simp [show ¬ ltL (loS a l) l n < 0 by simpa using c3]
    simp [belS, belP, hE0]
  · unfold callS
    refine calls_mono ?_ (rich_calls (s := b) h1 (fun i hi => (h2 i hi).1) (by omega) _ 1 rfl)
    rintro o h' ⟨z, rfl, rfl⟩
    simp only [areDays_eq, isSpan_eq, p20_5, Try.f20, go_sem, ↓reduceIte, Nat.reduceAdd, Nat.reduceSub, Nat.reduceMul, Nat.reduceEqDiff, Nat.reduceLT, Nat.reduceLeDiff, Int.reduceToNat, Int.reduceLE, Int.reduceLT, Int.reduceEq, Int.reduceNeg, reduceCtorEq]
    unfold callS
    refine calls_mono ?_ (poor_calls (s := a) h1 (fun i hi => (h2 i hi).1) (by omega) _ 2 rfl)
    rintro o h' ⟨z, rfl, rfl⟩
    simp only [areDays_eq, isSpan_eq, p20_5, Try.f20, go_sem, ↓reduceIte, Nat.reduceAdd, Nat.reduceSub, Nat.reduceMul, Nat.reduceEqDiff, Nat.reduceLT, Nat.reduceLeDiff, Int.reduceToNat, Int.reduceLE, Int.reduceLT, Int.reduceEq, Int.reduceNeg, reduceCtorEq]
    refine ⟨fun c3 => bad 4 (by rw [hE]; simp [show ltL (loS a l) l n < 0 by simpa using c3]) (by decide), fun c3 => ?_⟩
    have hE0 : belE n l a b = 0 := by rw [hE]; simp [show ¬ ltL (loS a l) l n < 0 by simpa using c3]
    simp [belS, belP, hE0]
def misS (l : Nat → Nat → Int) : Nat → Int
  | 0 => 0
  | i + 1 => max (misS l i) (-(loS 0 l (i + 1)))
def enoE (n : Nat) (l : Nat → Nat → Int) : Int := if bdgB n l then 0 else 1
def enoR (n : Nat) (l : Nat → Nat → Int) : Int := if bdgB n l then misS l n else 0
def enoughBase : BaseF := fun args => match args with
  | [.row n sz_l f_l] => some ((sz_l = 5 ∧ IntR n 5 f_l) ∧ (n ≤ 1000000), .tup [.int .i64 (enoR n (ivf f_l)), .int .i64 (enoE n (ivf f_l))])
  | _ => none
theorem enough_eq (n : Nat) (sz_l : Nat) (f_l : Nat → Nat → SV) : enoughBase [.row n sz_l f_l] = some ((sz_l = 5 ∧ IntR n 5 f_l) ∧ (n ≤ 1000000), .tup [.int .i64 (enoR n (ivf f_l)), .int .i64 (enoE n (ivf f_l))]) := rfl
theorem enough_base : Base Try.prog 22 enoughBase := by
  intro args p v hq hp
  unfold enoughBase at hq
  split at hq
  rotate_left
  · cases hq
  rename_i n sz_l f_l
  cases hq
  obtain ⟨⟨rfl, i_l⟩, pre⟩ := hp
  refine base_of (C := cx [] [] [(51, areDaysBase)] [(55, 1, p55_1)] none) (cx_ok trivial ⟨areDays_base, trivial⟩) rfl (g := 22) (fn := Try.f22)
    (args' := [.row n 5 (rowF .i64 (ivf f_l))]) (fn_22) rfl 1000 (by
    simp only [BdL, Bd, and_self, and_true, true_and]
    exact (fun i j hi hj => by rw [i_l i j hi hj]; trivial)) ⟨SameD.int i_l, trivial⟩ ?_
  generalize ivf f_l = l at *
  simp only [rowF_eq]
  simp only [areDays_eq, p55_1, Try.f55, Try.f22, go_sem, ↓reduceIte, Nat.reduceAdd, Nat.reduceSub, Nat.reduceMul, Nat.reduceEqDiff, Nat.reduceLT, Nat.reduceLeDiff, Int.reduceToNat, Int.reduceLE, Int.reduceLT, Int.reduceEq, Int.reduceNeg, reduceCtorEq]
  refine ⟨pre, fun c1 => by simp [enoR, enoE, show bdgB n l = false by simpa using c1], fun c1 => ?_⟩
  simp only [Bool.not_eq_false'] at c1
  obtain ⟨h1, h2⟩ := bdgB_iff.1 c1
  have hb := loS_bd (l := l) (n := n) (s := 0) (fun i hi => (h2 i hi).1) (by omega)
  simp only [enoR, enoE, c1, if_true]
  have hm : ∀ i, i ≤ n → 0 ≤ misS l i ∧ misS l i ≤ 1099511627776 * (i + 1 : Int) := fun i => by
    induction i with
    | zero => intro _; simp [misS]
    | succ i ih => intro hi; have := ih (by omega); have := hb (i + 1) hi; simp only [misS]; omega
  refine loop_of { i : Nat // i ≤ n } (fun i => [(13, .int .i64 (i.1 : Int)), (12, .int .i64 (n : Int)), (11, .row n 5 fun i j => .int .i64 (l i j)), (5, .int .i64 (misS l i.1)), (4, .ptr 0 0)]) (fun i => ⟨[.live 99 [.int .i64 (loS 0 l i.1)]], []⟩) (fun i => n - i.1) (fun _ => ⟨rfl, rfl⟩) ⟨0, by omega⟩ (by simp only [misS, loS]; (apply sub_of <;> simp only [go_sem, ↓reduceIte, Nat.reduceAdd, Nat.reduceSub, Nat.reduceMul, Nat.reduceEqDiff, Nat.reduceLT, Nat.reduceLeDiff, Int.reduceToNat, Int.reduceLE, Int.reduceLT, Int.reduceEq, Int.reduceNeg, reduceCtorEq] <;> (try simp [catF]) <;> (try exact fun j _ => Bd_nth (by simp [BdL, Bd]) j) <;> (try exact bd_setL (by simp [bdAs, BdL, Bd])) <;> (try exact nestF_bd _ _ _ _ _ _ _ _ _))) ?_
  rintro ⟨i, hi⟩
  simp only [areDays_eq, p55_1, Try.f55, Try.f22, go_sem, ↓reduceIte, Nat.reduceAdd, Nat.reduceSub, Nat.reduceMul, Nat.reduceEqDiff, Nat.reduceLT, Nat.reduceLeDiff, Int.reduceToNat, Int.reduceLE, Int.reduceLT, Int.reduceEq, Int.reduceNeg, reduceCtorEq]
  have hw3 : IntKind.i64.wrap ((i : Int) + 1) = ((i + 1 : Nat) : Int) := by rw [wrap_id (by omega) (by omega)]; omega
  refine ⟨fun e1 => ?_, fun e1 => ?_⟩
  · simp only [decide_eq_true_eq] at e1
    have ik : i < n := by omega
    have hd := dyBl_iff.1 (h2 i ik).1
    have hb1 := hb i hi
    have hb2 := hb (i + 1) ik
    have w1 : IntKind.i64.wrap (l i 1 - l i 4) = l i 1 - l i 4 := wrap_id (by omega) (by omega)
    have w2 : IntKind.i64.wrap (loS 0 l i + (l i 1 - l i 4)) = loS 0 l (i + 1) := by rw [wrap_id (by omega) (by omega)]; rfl
    have w3 : IntKind.i64.wrap (0 - loS 0 l (i + 1)) = -(loS 0 l (i + 1)) := by rw [wrap_id (by omega) (by omega)]; omega
    have w4 : max (misS l i) (-(loS 0 l (i + 1))) = misS l (i + 1) := rfl
    refine ⟨⟨by omega, by omega⟩, ⟨by kernel_rfl, by kernel_rfl⟩, ⟨i + 1, by omega⟩, by simp only []; omega, ?_⟩
    apply sub_of <;> simp only [hw3, w1, w2, w3, w4, go_sem, ↓reduceIte, Nat.reduceAdd, Nat.reduceSub, Nat.reduceMul, Nat.reduceEqDiff, Nat.reduceLT, Nat.reduceLeDiff, Int.reduceToNat, Int.reduceLE, Int.reduceLT, Int.reduceEq, Int.reduceNeg, reduceCtorEq] <;> (try simp) <;> (try exact fun j _ => Bd_nth (by simp [BdL, Bd]) j) <;> (try exact bd_setL (by simp [bdAs, BdL, Bd])) <;> (try exact nestF_bd _ _ _ _ _ _ _ _ _)
  · simp only [decide_eq_false_iff_not] at e1
    obtain rfl : i = n := by omega
    rfl
def enoughRBase : BaseF := fun args => match args with
  | [.row n sz_l f_l] => some ((sz_l = 5 ∧ IntR n 5 f_l) ∧ (n ≤ 1000000), .tup [.int .i64 (enoR n (ivf f_l)), .int .i64 (enoE n (ivf f_l))])
  | _ => none
theorem enoughR_eq (n : Nat) (sz_l : Nat) (f_l : Nat → Nat → SV) : enoughRBase [.row n sz_l f_l] = some ((sz_l = 5 ∧ IntR n 5 f_l) ∧ (n ≤ 1000000), .tup [.int .i64 (enoR n (ivf f_l)), .int .i64 (enoE n (ivf f_l))]) := rfl
theorem enoughR_base : Base Try.prog 23 enoughRBase := by
  intro args p v hq hp
  unfold enoughRBase at hq
  split at hq
  rotate_left
  · cases hq
  rename_i n sz_l f_l
  cases hq
  obtain ⟨⟨rfl, i_l⟩, pre⟩ := hp
  refine base_of (C := cx [] [] [(29, budgetBase)] [(23, 7, p23_7)] none) (cx_ok trivial ⟨budget_base, trivial⟩) rfl (g := 23) (fn := Try.f23)
    (args' := [.row n 5 (rowF .i64 (ivf f_l))]) (fn_23) rfl 1000 (by
    simp only [BdL, Bd, and_self, and_true, true_and]
    exact (fun i j hi hj => by rw [i_l i j hi hj]; trivial)) ⟨SameD.int i_l, trivial⟩ ?_
  generalize ivf f_l = l at *
  simp only [rowF_eq]
  simp only [budget_eq, p23_7, Try.f23, go_sem, ↓reduceIte, Nat.reduceAdd, Nat.reduceSub, Nat.reduceMul, Nat.reduceEqDiff, Nat.reduceLT, Nat.reduceLeDiff, Int.reduceToNat, Int.reduceLE, Int.reduceLT, Int.reduceEq, Int.reduceNeg, reduceCtorEq]
  refine ⟨pre, fun c1 => by simp [enoR, enoE, show bdgB n l = false by simpa using c1], fun c1 => ?_⟩
  simp only [Bool.not_eq_false'] at c1
  obtain ⟨h1, h2⟩ := bdgB_iff.1 c1
  have hb := loS_bd (l := l) (n := n) (s := 0) (fun i hi => (h2 i hi).1) (by omega)
  simp only [enoR, enoE, c1, if_true]
  refine loop_of { i : Nat // i ≤ n } (fun i => [(6, .int .i64 (i.1 : Int)), (5, .int .i64 (misS l i.1)), (4, .int .i64 (loS 0 l i.1)), (0, .row n 5 fun i j => .int .i64 (l i j))]) (fun _ => ⟨[], []⟩) (fun i => n - i.1) (fun _ => ⟨rfl, rfl⟩) ⟨0, by omega⟩ (by simp only [misS, loS]; (apply sub_of <;> simp only [go_sem, ↓reduceIte, Nat.reduceAdd, Nat.reduceSub, Nat.reduceMul, Nat.reduceEqDiff, Nat.reduceLT, Nat.reduceLeDiff, Int.reduceToNat, Int.reduceLE, Int.reduceLT, Int.reduceEq, Int.reduceNeg, reduceCtorEq] <;> (try simp [catF]) <;> (try exact fun j _ => Bd_nth (by simp [BdL, Bd]) j) <;> (try exact bd_setL (by simp [bdAs, BdL, Bd])) <;> (try exact nestF_bd _ _ _ _ _ _ _ _ _))) ?_
  rintro ⟨i, hi⟩
  simp only [budget_eq, p23_7, Try.f23, go_sem, ↓reduceIte, Nat.reduceAdd, Nat.reduceSub, Nat.reduceMul, Nat.reduceEqDiff, Nat.reduceLT, Nat.reduceLeDiff, Int.reduceToNat, Int.reduceLE, Int.reduceLT, Int.reduceEq, Int.reduceNeg, reduceCtorEq]
  have hw3 : IntKind.i64.wrap ((i : Int) + 1) = ((i + 1 : Nat) : Int) := by rw [wrap_id (by omega) (by omega)]; omega
  refine ⟨fun e1 => ?_, fun e1 => ?_⟩
  · simp only [decide_eq_true_eq] at e1
    have ik : i < n := by omega
    have hd := dyBl_iff.1 (h2 i ik).1
    have hb1 := hb i hi
    have hb2 := hb (i + 1) ik
    have w1 : IntKind.i64.wrap (loS 0 l i + l i 1) = loS 0 l i + l i 1 := wrap_id (by omega) (by omega)
    have w2 : IntKind.i64.wrap (loS 0 l i + l i 1 - l i 4) = loS 0 l (i + 1) := by rw [wrap_id (by omega) (by omega)]; simp only [loS]; omega
    have w3 : IntKind.i64.wrap (0 - loS 0 l (i + 1)) = -(loS 0 l (i + 1)) := by rw [wrap_id (by omega) (by omega)]; omega
    have w4 : max (misS l i) (-(loS 0 l (i + 1))) = misS l (i + 1) := rfl
    refine ⟨⟨by kernel_rfl, by kernel_rfl⟩, ⟨by omega, by omega⟩, ⟨by omega, by omega⟩, ⟨i + 1, by omega⟩, by simp only []; omega, ?_⟩
    apply sub_of <;> simp only [hw3, w1, w2, w3, w4, go_sem, ↓reduceIte, Nat.reduceAdd, Nat.reduceSub, Nat.reduceMul, Nat.reduceEqDiff, Nat.reduceLT, Nat.reduceLeDiff, Int.reduceToNat, Int.reduceLE, Int.reduceLT, Int.reduceEq, Int.reduceNeg, reduceCtorEq] <;> (try simp) <;> (try exact fun j _ => Bd_nth (by simp [BdL, Bd]) j) <;> (try exact bd_setL (by simp [bdAs, BdL, Bd])) <;> (try exact nestF_bd _ _ _ _ _ _ _ _ _)
  · simp only [decide_eq_false_iff_not] at e1
    obtain rfl : i = n := by omega
    rfl
def belowRBase : BaseF := fun args => match args with
  | [.agg [.int .i64 a, .int .i64 b], .row n sz_l f_l] => some ((sz_l = 5 ∧ IntR n 5 f_l) ∧ (n ≤ 1000000), .tup [.int .i64 (belS n (ivf f_l) a b), .int .i64 (belP n (ivf f_l) a b), .int .i64 (belE n (ivf f_l) a b)])
  | _ => none
theorem belowR_eq (a : Int) (b : Int) (n : Nat) (sz_l : Nat) (f_l : Nat → Nat → SV) : belowRBase [.agg [.int .i64 a, .int .i64 b], .row n sz_l f_l] = some ((sz_l = 5 ∧ IntR n 5 f_l) ∧ (n ≤ 1000000), .tup [.int .i64 (belS n (ivf f_l) a b), .int .i64 (belP n (ivf f_l) a b), .int .i64 (belE n (ivf f_l) a b)]) := rfl
theorem belowR_base : Base Try.prog 21 belowRBase := by
  intro args p v hq hp
  unfold belowRBase at hq
  split at hq
  rotate_left
  · cases hq
  rename_i a b n sz_l f_l
  cases hq
  obtain ⟨⟨rfl, i_l⟩, pre⟩ := hp
  refine base_of (C := cx [] [] [(29, budgetBase), (56, spanBase)] [(21, 10, p21_10)] none) (cx_ok trivial ⟨budget_base, span_base, trivial⟩) rfl (g := 21) (fn := Try.f21)
    (args' := [.agg [.int .i64 a, .int .i64 b], .row n 5 (rowF .i64 (ivf f_l))]) (fn_21) rfl 1000 (by
    simp only [BdL, Bd, and_self, and_true, true_and]
    exact (fun i j hi hj => by rw [i_l i j hi hj]; trivial)) ⟨SameD.rfl' _, SameD.int i_l, trivial⟩ ?_
  generalize ivf f_l = l at *
  simp only [rowF_eq]
  simp only [budget_eq, span_eq, p21_10, Try.f21, go_sem, ↓reduceIte, Nat.reduceAdd, Nat.reduceSub, Nat.reduceMul, Nat.reduceEqDiff, Nat.reduceLT, Nat.reduceLeDiff, Int.reduceToNat, Int.reduceLE, Int.reduceLT, Int.reduceEq, Int.reduceNeg, reduceCtorEq]
  have bad : ∀ e, belE n l a b = e → e ≠ 0 → SV.tup [.int .i64 0, .int .i64 0, .int .i64 e] = .tup [.int .i64 (belS n l a b), .int .i64 (belP n l a b), .int .i64 (belE n l a b)] := fun e he h0 => by
    simp [belS, belP, he, h0]
  refine ⟨pre, fun c1 => bad 1 ?_ (by decide), fun c1 => ⟨fun c2 => bad 2 ?_ (by decide), fun c2 => ?_⟩⟩
  · simp [belE, show bdgB n l = false by simpa using c1]
  · simp [belE, show bdgB n l = true by simpa using c1, show spB a b = false by simpa using c2]
  simp only [Bool.not_eq_false'] at c1 c2
  obtain ⟨h1, h2⟩ := bdgB_iff.1 c1
  have h3 := spB_iff.1 c2
  have hE : belE n l a b = if ltL (loS a l) l n < 0 then 4 else 0 := by simp [belE, c1, c2]
  refine loop_of { i : Nat // i ≤ n } (fun i => [(10, .int .i64 (i.1 : Int)), (9, .ptr 1 0), (8, .int .i64 (ltL (loS a l) l i.1)), (7, .int .i64 (ltL (hiS b l) l i.1)), (1, .row n 5 fun i j => .int .i64 (l i j))]) (fun i => ⟨[.live 34 [.int .i64 a, .int .i64 b], .live 34 [.int .i64 (loS a l i.1), .int .i64 (hiS b l i.1)]], []⟩) (fun i => n - i.1) (fun _ => ⟨rfl, rfl⟩) ⟨0, by omega⟩ (by simp only [ltL, loS, hiS]; (apply sub_of <;> simp only [go_sem, ↓reduceIte, Nat.reduceAdd, Nat.reduceSub, Nat.reduceMul, Nat.reduceEqDiff, Nat.reduceLT, Nat.reduceLeDiff, Int.reduceToNat, Int.reduceLE, Int.reduceLT, Int.reduceEq, Int.reduceNeg, reduceCtorEq] <;> (try simp [catF]) <;> (try exact fun j _ => Bd_nth (by simp [BdL, Bd]) j) <;> (try exact bd_setL (by simp [bdAs, BdL, Bd])) <;> (try exact nestF_bd _ _ _ _ _ _ _ _ _))) ?_
  rintro ⟨i, hi⟩
  simp only [budget_eq, span_eq, p21_10, Try.f21, go_sem, ↓reduceIte, Nat.reduceAdd, Nat.reduceSub, Nat.reduceMul, Nat.reduceEqDiff, Nat.reduceLT, Nat.reduceLeDiff, Int.reduceToNat, Int.reduceLE, Int.reduceLT, Int.reduceEq, Int.reduceNeg, reduceCtorEq]
  have hw3 : IntKind.i64.wrap ((i : Int) + 1) = ((i + 1 : Nat) : Int) := by rw [wrap_id (by omega) (by omega)]; omega
  have hA := loS_bd (l := l) (n := n) (s := a) (fun i hi => (h2 i hi).1) (by omega) i hi
  have hB := hiS_bd (l := l) (n := n) (s := b) (fun i hi => (h2 i hi).1) (by omega) i hi
  refine ⟨fun e1 => ?_, fun e1 => ?_⟩
  · simp only [decide_eq_true_eq] at e1
    have ik : i < n := by omega
    have hd := dyBl_iff.1 (h2 i ik).1
    have w1 : IntKind.i64.wrap (loS a l i + l i 1) = loS a l i + l i 1 := wrap_id (by omega) (by omega)
    have w2 : IntKind.i64.wrap (loS a l i + l i 1 - l i 4) = loS a l (i + 1) := by rw [wrap_id (by omega) (by omega)]; simp only [loS]; omega
    have w3 : IntKind.i64.wrap (hiS b l i + l i 2) = hiS b l i + l i 2 := wrap_id (by omega) (by omega)
    have w4 : IntKind.i64.wrap (hiS b l i + l i 2 - l i 3) = hiS b l (i + 1) := by rw [wrap_id (by omega) (by omega)]; simp only [hiS]; omega
    simp only [w1, w2, w3, w4]
    refine ⟨⟨by kernel_rfl, by kernel_rfl⟩, ⟨by omega, by omega⟩, ⟨by omega, by omega⟩, ⟨by omega, by omega⟩, ⟨by omega, by omega⟩, fun e2 => ⟨fun e3 => ⟨⟨by omega, by omega⟩, fun e4 => ⟨fun e5 => ⟨⟨by omega, by omega⟩, (by
      simp only [decide_eq_true_eq, decide_eq_false_iff_not] at *
      have LS : ltL (hiS b l) l (i + 1) = l i 0 := by simp only [ltL]; repeat' split <;> first | rfl | omega
      have LP : ltL (loS a l) l (i + 1) = l i 0 := by simp only [ltL]; repeat' split <;> first | rfl | omega
      refine ⟨⟨i + 1, by omega⟩, by simp only []; omega, ?_⟩
      apply sub_of <;> simp only [hw3, w1, w2, w3, w4, LS, LP, go_sem, ↓reduceIte, Nat.reduceAdd, Nat.reduceSub, Nat.reduceMul, Nat.reduceEqDiff, Nat.reduceLT, Nat.reduceLeDiff, Int.reduceToNat, Int.reduceLE, Int.reduceLT, Int.reduceEq, Int.reduceNeg, reduceCtorEq] <;> (try simp) <;> (try exact fun j _ => Bd_nth (by simp [BdL, Bd]) j) <;> (try exact bd_setL (by simp [bdAs, BdL, Bd])) <;> (try exact nestF_bd _ _ _ _ _ _ _ _ _))⟩, fun e5 => (by
      simp only [decide_eq_true_eq, decide_eq_false_iff_not] at *
      have LS : ltL (hiS b l) l (i + 1) = l i 0 := by simp only [ltL]; repeat' split <;> first | rfl | omega
      have LP : ltL (loS a l) l (i + 1) = ltL (loS a l) l i := by simp only [ltL]; repeat' split <;> first | rfl | omega
      refine ⟨⟨i + 1, by omega⟩, by simp only []; omega, ?_⟩
      apply sub_of <;> simp only [hw3, w1, w2, w3, w4, LS, LP, go_sem, ↓reduceIte, Nat.reduceAdd, Nat.reduceSub, Nat.reduceMul, Nat.reduceEqDiff, Nat.reduceLT, Nat.reduceLeDiff, Int.reduceToNat, Int.reduceLE, Int.reduceLT, Int.reduceEq, Int.reduceNeg, reduceCtorEq] <;> (try simp) <;> (try exact fun j _ => Bd_nth (by simp [BdL, Bd]) j) <;> (try exact bd_setL (by simp [bdAs, BdL, Bd])) <;> (try exact nestF_bd _ _ _ _ _ _ _ _ _))⟩, fun e4 => (by
      simp only [decide_eq_true_eq, decide_eq_false_iff_not] at *
      have LS : ltL (hiS b l) l (i + 1) = l i 0 := by simp only [ltL]; repeat' split <;> first | rfl | omega
      have LP : ltL (loS a l) l (i + 1) = ltL (loS a l) l i := by simp only [ltL]; repeat' split <;> first | rfl | omega
      refine ⟨⟨i + 1, by omega⟩, by simp only []; omega, ?_⟩
      apply sub_of <;> simp only [hw3, w1, w2, w3, w4, LS, LP, go_sem, ↓reduceIte, Nat.reduceAdd, Nat.reduceSub, Nat.reduceMul, Nat.reduceEqDiff, Nat.reduceLT, Nat.reduceLeDiff, Int.reduceToNat, Int.reduceLE, Int.reduceLT, Int.reduceEq, Int.reduceNeg, reduceCtorEq] <;> (try simp) <;> (try exact fun j _ => Bd_nth (by simp [BdL, Bd]) j) <;> (try exact bd_setL (by simp [bdAs, BdL, Bd])) <;> (try exact nestF_bd _ _ _ _ _ _ _ _ _))⟩, fun e3 => ⟨fun e4 => ⟨fun e5 => ⟨⟨by omega, by omega⟩, (by
      simp only [decide_eq_true_eq, decide_eq_false_iff_not] at *
      have LS : ltL (hiS b l) l (i + 1) = ltL (hiS b l) l i := by simp only [ltL]; repeat' split <;> first | rfl | omega
      have LP : ltL (loS a l) l (i + 1) = l i 0 := by simp only [ltL]; repeat' split <;> first | rfl | omega
      refine ⟨⟨i + 1, by omega⟩, by simp only []; omega, ?_⟩
      apply sub_of <;> simp only [hw3, w1, w2, w3, w4, LS, LP, go_sem, ↓reduceIte, Nat.reduceAdd, Nat.reduceSub, Nat.reduceMul, Nat.reduceEqDiff, Nat.reduceLT, Nat.reduceLeDiff, Int.reduceToNat, Int.reduceLE, Int.reduceLT, Int.reduceEq, Int.reduceNeg, reduceCtorEq] <;> (try simp) <;> (try exact fun j _ => Bd_nth (by simp [BdL, Bd]) j) <;> (try exact bd_setL (by simp [bdAs, BdL, Bd])) <;> (try exact nestF_bd _ _ _ _ _ _ _ _ _))⟩, fun e5 => (by
      simp only [decide_eq_true_eq, decide_eq_false_iff_not] at *
      have LS : ltL (hiS b l) l (i + 1) = ltL (hiS b l) l i := by simp only [ltL]; repeat' split <;> first | rfl | omega
      have LP : ltL (loS a l) l (i + 1) = ltL (loS a l) l i := by simp only [ltL]; repeat' split <;> first | rfl | omega
      refine ⟨⟨i + 1, by omega⟩, by simp only []; omega, ?_⟩
      apply sub_of <;> simp only [hw3, w1, w2, w3, w4, LS, LP, go_sem, ↓reduceIte, Nat.reduceAdd, Nat.reduceSub, Nat.reduceMul, Nat.reduceEqDiff, Nat.reduceLT, Nat.reduceLeDiff, Int.reduceToNat, Int.reduceLE, Int.reduceLT, Int.reduceEq, Int.reduceNeg, reduceCtorEq] <;> (try simp) <;> (try exact fun j _ => Bd_nth (by simp [BdL, Bd]) j) <;> (try exact bd_setL (by simp [bdAs, BdL, Bd])) <;> (try exact nestF_bd _ _ _ _ _ _ _ _ _))⟩, fun e4 => (by
      simp only [decide_eq_true_eq, decide_eq_false_iff_not] at *
      have LS : ltL (hiS b l) l (i + 1) = ltL (hiS b l) l i := by simp only [ltL]; repeat' split <;> first | rfl | omega
      have LP : ltL (loS a l) l (i + 1) = ltL (loS a l) l i := by simp only [ltL]; repeat' split <;> first | rfl | omega
      refine ⟨⟨i + 1, by omega⟩, by simp only []; omega, ?_⟩
      apply sub_of <;> simp only [hw3, w1, w2, w3, w4, LS, LP, go_sem, ↓reduceIte, Nat.reduceAdd, Nat.reduceSub, Nat.reduceMul, Nat.reduceEqDiff, Nat.reduceLT, Nat.reduceLeDiff, Int.reduceToNat, Int.reduceLE, Int.reduceLT, Int.reduceEq, Int.reduceNeg, reduceCtorEq] <;> (try simp) <;> (try exact fun j _ => Bd_nth (by simp [BdL, Bd]) j) <;> (try exact bd_setL (by simp [bdAs, BdL, Bd])) <;> (try exact nestF_bd _ _ _ _ _ _ _ _ _))⟩⟩, fun e2 => ⟨fun e4 => ⟨fun e5 => ⟨⟨by omega, by omega⟩, (by
      simp only [decide_eq_true_eq, decide_eq_false_iff_not] at *
      have LS : ltL (hiS b l) l (i + 1) = ltL (hiS b l) l i := by simp only [ltL]; repeat' split <;> first | rfl | omega
      have LP : ltL (loS a l) l (i + 1) = l i 0 := by simp only [ltL]; repeat' split <;> first | rfl | omega
      refine ⟨⟨i + 1, by omega⟩, by simp only []; omega, ?_⟩
      apply sub_of <;> simp only [hw3, w1, w2, w3, w4, LS, LP, go_sem, ↓reduceIte, Nat.reduceAdd, Nat.reduceSub, Nat.reduceMul, Nat.reduceEqDiff, Nat.reduceLT, Nat.reduceLeDiff, Int.reduceToNat, Int.reduceLE, Int.reduceLT, Int.reduceEq, Int.reduceNeg, reduceCtorEq] <;> (try simp) <;> (try exact fun j _ => Bd_nth (by simp [BdL, Bd]) j) <;> (try exact bd_setL (by simp [bdAs, BdL, Bd])) <;> (try exact nestF_bd _ _ _ _ _ _ _ _ _))⟩, fun e5 => (by
      simp only [decide_eq_true_eq, decide_eq_false_iff_not] at *
      have LS : ltL (hiS b l) l (i + 1) = ltL (hiS b l) l i := by simp only [ltL]; repeat' split <;> first | rfl | omega
      have LP : ltL (loS a l) l (i + 1) = ltL (loS a l) l i := by simp only [ltL]; repeat' split <;> first | rfl | omega
      refine ⟨⟨i + 1, by omega⟩, by simp only []; omega, ?_⟩
      apply sub_of <;> simp only [hw3, w1, w2, w3, w4, LS, LP, go_sem, ↓reduceIte, Nat.reduceAdd, Nat.reduceSub, Nat.reduceMul, Nat.reduceEqDiff, Nat.reduceLT, Nat.reduceLeDiff, Int.reduceToNat, Int.reduceLE, Int.reduceLT, Int.reduceEq, Int.reduceNeg, reduceCtorEq] <;> (try simp) <;> (try exact fun j _ => Bd_nth (by simp [BdL, Bd]) j) <;> (try exact bd_setL (by simp [bdAs, BdL, Bd])) <;> (try exact nestF_bd _ _ _ _ _ _ _ _ _))⟩, fun e4 => (by
      simp only [decide_eq_true_eq, decide_eq_false_iff_not] at *
      have LS : ltL (hiS b l) l (i + 1) = ltL (hiS b l) l i := by simp only [ltL]; repeat' split <;> first | rfl | omega
      have LP : ltL (loS a l) l (i + 1) = ltL (loS a l) l i := by simp only [ltL]; repeat' split <;> first | rfl | omega
      refine ⟨⟨i + 1, by omega⟩, by simp only []; omega, ?_⟩
      apply sub_of <;> simp only [hw3, w1, w2, w3, w4, LS, LP, go_sem, ↓reduceIte, Nat.reduceAdd, Nat.reduceSub, Nat.reduceMul, Nat.reduceEqDiff, Nat.reduceLT, Nat.reduceLeDiff, Int.reduceToNat, Int.reduceLE, Int.reduceLT, Int.reduceEq, Int.reduceNeg, reduceCtorEq] <;> (try simp) <;> (try exact fun j _ => Bd_nth (by simp [BdL, Bd]) j) <;> (try exact bd_setL (by simp [bdAs, BdL, Bd])) <;> (try exact nestF_bd _ _ _ _ _ _ _ _ _))⟩⟩
  · simp only [decide_eq_false_iff_not] at e1
    obtain rfl : i = n := by omega
    refine ⟨fun c3 => bad 4 (by rw [hE]; simp [show ltL (loS a l) l i < 0 by simpa using c3]) (by decide), fun c3 => ?_⟩
    have hE0 : belE i l a b = 0 := by rw [hE]; simp [show ¬ ltL (loS a l) l i < 0 by simpa using c3]
    simp [belS, belP, hE0]
end Go.Eng
end

/- money: accounts. -/
section
namespace Go.Eng
open Go Go.RowKit Go.Proofs
set_option maxRecDepth 100000
set_option maxHeartbeats 4000000
attribute [local irreducible] OwnT DefS
/-- An entry of n accounts. -/
def enB (n : Nat) (x : Nat → Int) : Bool := in3 (x 0) 0 16384 && (in3 (x 1) 0 ((n : Int) - 1) && (in3 (x 2) 0 ((n : Int) - 1) && (!decide (x 1 = x 2) && in3 (x 3) 1 1099511627776)))
theorem enB_iff {n : Nat} {x : Nat → Int} : enB n x = true ↔ (0 ≤ x 0 ∧ x 0 ≤ 16384) ∧ (0 ≤ x 1 ∧ x 1 ≤ (n : Int) - 1) ∧ (0 ≤ x 2 ∧ x 2 ≤ (n : Int) - 1) ∧ x 1 ≠ x 2 ∧ 1 ≤ x 3 ∧ x 3 ≤ 1099511627776 := by
  simp only [enB, Bool.and_eq_true, in3_iff, Bool.not_eq_true', decide_eq_false_iff_not, ne_eq]
def isEntryBase : BaseF := fun args => match args with
  | [.agg [.int .i64 d, .int .i64 f, .int .i64 t, .int .i64 a], .int .i64 n] => some ((0 ≤ n ∧ n ≤ 1000000), .bool (in3 d 0 16384 && (in3 f 0 (n - 1) && (in3 t 0 (n - 1) && (!decide (f = t) && in3 a 1 1099511627776)))))
  | _ => none
theorem isEntry_eq (d : Int) (f : Int) (t : Int) (a : Int) (n : Int) : isEntryBase [.agg [.int .i64 d, .int .i64 f, .int .i64 t, .int .i64 a], .int .i64 n] = some ((0 ≤ n ∧ n ≤ 1000000), .bool (in3 d 0 16384 && (in3 f 0 (n - 1) && (in3 t 0 (n - 1) && (!decide (f = t) && in3 a 1 1099511627776))))) := rfl
theorem isEntry_base : Base Try.prog 50 isEntryBase := by
  intro args p v hq hp
  unfold isEntryBase at hq
  split at hq
  rotate_left
  · cases hq
  rename_i d f t a n
  cases hq
  obtain pre := hp
  refine base_of (C := cx [] [] [(42, withinBase)] [] none) (cx_ok trivial ⟨within_base, trivial⟩) rfl (g := 50) (fn := Try.f50)
    (args' := [.agg [.int .i64 d, .int .i64 f, .int .i64 t, .int .i64 a], .int .i64 n]) (fn_50) rfl 1000 (by simp only [BdL, Bd, and_self, and_true, true_and]) ⟨SameD.agg ⟨SameD.rfl' _, SameD.rfl' _, SameD.rfl' _, SameD.rfl' _, trivial⟩, SameD.rfl' _, trivial⟩ ?_
  simp only [within_eq, Try.f64, Try.f50, go_sem, ↓reduceIte, Nat.reduceAdd, Nat.reduceSub, Nat.reduceMul, Nat.reduceEqDiff, Nat.reduceLT, Nat.reduceLeDiff, Int.reduceToNat, Int.reduceLE, Int.reduceLT, Int.reduceEq, Int.reduceNeg, reduceCtorEq]
  have w1 : IntKind.i64.wrap (n - 1) = n - 1 := wrap_id (by omega) (by omega)
  simp only [w1]
  refine ⟨fun c1 => ⟨fun c2 => ⟨fun c3 => ⟨fun c4 => ?_, fun c4 => ?_⟩, fun c3 => ?_⟩, fun c2 => ?_⟩, fun c1 => ?_⟩
  · simp only [c1, c2, c3, c4, Bool.true_and]
  · simp only [c1, c2, c3, c4, Bool.false_and, Bool.and_false]
  · simp only [c1, c2, c3, Bool.false_and, Bool.and_false]
  · simp only [c1, c2, Bool.false_and, Bool.and_false]
  · simp only [c1, Bool.false_and]
/-- The balance of an account behind q entries. -/
def balF (l : Nat → Nat → Int) : Nat → Nat → Int
  | 0, _ => 0
  | q + 1, a => balF l q a - (if l q 1 = (a : Int) then l q 3 else 0) + (if l q 2 = (a : Int) then l q 3 else 0)
/-- The error of an entry, if those before it are right. -/
def entE (n : Nat) (lim : Nat → Nat → Int) (l : Nat → Nat → Int) (q : Nat) : Int :=
  if enB n (l q) then if decide (q = 0) || decide (l (q - 1) 0 ≤ l q 0) then if -(lim (l q 1).toNat 0) ≤ balF l q (l q 1).toNat - l q 3 then 0 else 10 else 7 else 1
/-- The first one that is wrong. -/
def bad1 (n : Nat) (lim : Nat → Nat → Int) (l : Nat → Nat → Int) : Nat → Nat
  | 0 => 0
  | q + 1 => if bad1 n lim l q < q then bad1 n lim l q else if entE n lim l q = 0 then q + 1 else q
theorem bad1_all {n : Nat} {lim l : Nat → Nat → Int} : ∀ {q : Nat}, (∀ i, i < q → entE n lim l i = 0) → bad1 n lim l q = q
  | 0, _ => rfl
  | q + 1, h => by
    rw [bad1, bad1_all (fun i hi => h i (by omega)), if_neg (by omega), if_pos (h q (by omega))]
theorem bad1_hit {n : Nat} {lim l : Nat → Nat → Int} {q : Nat} (hq : entE n lim l q ≠ 0) (h0 : ∀ i, i < q → entE n lim l i = 0) : ∀ {m : Nat}, q < m → bad1 n lim l m = q
  | 0, h => by omega
  | m + 1, h => by
    rcases Nat.lt_or_ge q m with h1 | h1
    · rw [bad1, bad1_hit hq h0 h1, if_pos h1]
    · obtain rfl : q = m := by omega
      rw [bad1, bad1_all h0, if_neg (by omega), if_neg hq]
theorem bad1_spec {n : Nat} {lim l : Nat → Nat → Int} (m : Nat) : bad1 n lim l m ≤ m ∧ (∀ i, i < bad1 n lim l m → entE n lim l i = 0) ∧ (bad1 n lim l m < m → entE n lim l (bad1 n lim l m) ≠ 0) := by
  induction m with
  | zero => exact ⟨Nat.le_refl _, fun i hi => absurd hi (by simp [bad1]), fun h => absurd h (by simp [bad1])⟩
  | succ m ih =>
    obtain ⟨h1, h2, h3⟩ := ih
    by_cases h : bad1 n lim l m < m
    · rw [bad1, if_pos h]
      exact ⟨by omega, h2, fun _ => h3 h⟩
    · have he : bad1 n lim l m = m := by omega
      rw [he] at h2
      by_cases h4 : entE n lim l m = 0
      · rw [bad1, if_neg h, if_pos h4]
        refine ⟨by omega, fun i hi => ?_, fun h => by omega⟩
        rcases Nat.lt_or_ge i m with h5 | h5
        · exact h2 i h5
        · obtain rfl : i = m := by omega
          exact h4
      · rw [bad1, if_neg h, if_neg h4]
        exact ⟨by omega, h2, fun _ => h4⟩
theorem balF_bd {n : Nat} {lim l : Nat → Nat → Int} : ∀ (q : Nat), (∀ i, i < q → entE n lim l i = 0) → ∀ a, -(1099511627776 * (q : Int)) ≤ balF l q a ∧ balF l q a ≤ 1099511627776 * (q : Int)
  | 0, _, a => by simp [balF]
  | q + 1, h, a => by
    have h1 := balF_bd q (fun i hi => h i (by omega)) a
    have h2 : enB n (l q) = true := by
      have := h q (by omega)
      unfold entE at this
      cases hc : enB n (l q) with
      | true => rfl
      | false => rw [hc] at this; simp at this
    obtain ⟨_, _, _, _, h3⟩ := enB_iff.1 h2
    simp only [balF]
    split <;> split <;> omega
def limB (n : Nat) (lim : Nat → Nat → Int) : Bool := allU (fun i => in3 (lim i 0) 0 1099511627776) n && decide (n ≤ 16)
def plyI (n : Nat) (lim : Nat → Nat → Int) (m : Nat) (l : Nat → Nat → Int) : Nat := if m ≤ 256 then if limB n lim then bad1 n lim l m else 0 else 0
def plyE (n : Nat) (lim : Nat → Nat → Int) (m : Nat) (l : Nat → Nat → Int) : Int := if m ≤ 256 then if limB n lim then if bad1 n lim l m < m then entE n lim l (bad1 n lim l m) else 0 else 1 else 3
def plyN (n : Nat) (lim : Nat → Nat → Int) (m : Nat) (l : Nat → Nat → Int) : Nat := if plyE n lim m l = 0 then n else 0
theorem bal_upd {l : Nat → Nat → Int} {q n a b : Nat} {X Y : Int} (ha : l q 1 = (a : Int)) (hb : l q 2 = (b : Int)) (hne : a ≠ b) (hX : X = balF l q a - l q 3) (hY : Y = balF l q b + l q 3) :
    ∀ i j, i < n → j < 1 → updF (updF (fun i _ => .int .i64 (balF l q i)) a 0 1 [.int .i64 X]) b 0 1 [.int .i64 Y] i j = .int .i64 (balF l (q + 1) i) := fun i j hi hj => by
  obtain rfl : j = 0 := by omega
  simp only [updF, balF, ha, hb]
  by_cases h1 : i = b
  · subst h1
    have : ¬ (a : Int) = (i : Int) := by omega
    rw [if_pos (by omega), hY]
    simp [nth, this]
  · rw [if_neg (by omega)]
    by_cases h2 : i = a
    · subst h2
      have : ¬ (b : Int) = (i : Int) := by omega
      rw [if_pos (by omega), hX]
      simp [nth, this]
    · rw [if_neg (by omega)]
      have q1 : ¬ (a : Int) = (i : Int) := by omega
      have q2 : ¬ (b : Int) = (i : Int) := by omega
      simp [q1, q2]
def playRBase : BaseF := fun args => match args with
  | [.row n sz_lim f_lim, .row m sz_l f_l] => some ((sz_lim = 1 ∧ IntR n 1 f_lim) ∧ (sz_l = 4 ∧ IntR m 4 f_l) ∧ (n ≤ 1000000 ∧ m ≤ 1000000), .tup [.row (plyN n (ivf f_lim) m (ivf f_l)) 1 (fun i _ => .int .i64 (balF (ivf f_l) m i)), .int .i64 (plyI n (ivf f_lim) m (ivf f_l)), .int .i64 (plyE n (ivf f_lim) m (ivf f_l))])
  | _ => none
theorem playR_eq (n : Nat) (sz_lim : Nat) (f_lim : Nat → Nat → SV) (m : Nat) (sz_l : Nat) (f_l : Nat → Nat → SV) : playRBase [.row n sz_lim f_lim, .row m sz_l f_l] = some ((sz_lim = 1 ∧ IntR n 1 f_lim) ∧ (sz_l = 4 ∧ IntR m 4 f_l) ∧ (n ≤ 1000000 ∧ m ≤ 1000000), .tup [.row (plyN n (ivf f_lim) m (ivf f_l)) 1 (fun i _ => .int .i64 (balF (ivf f_l) m i)), .int .i64 (plyI n (ivf f_lim) m (ivf f_l)), .int .i64 (plyE n (ivf f_lim) m (ivf f_l))]) := rfl
theorem playR_base : Base Try.prog 19 playRBase := by
  intro args p v hq hp
  unfold playRBase at hq
  split at hq
  rotate_left
  · cases hq
  rename_i n sz_lim f_lim m sz_l f_l
  cases hq
  obtain ⟨⟨rfl, i_lim⟩, ⟨rfl, i_l⟩, pre⟩ := hp
  refine baseF_of (C := cx [] [] [(28, limitsBase), (39, inBase)] [(19, 13, p19_13), (19, 15, p19_15), (19, 17, p19_17), (19, 18, p19_18)] none) (cx_ok trivial ⟨limits_base, in_base, trivial⟩) rfl (g := 19) (fn := Try.f19)
    (args' := [.row n 1 (rowF .i64 (ivf f_lim)), .row m 4 (rowF .i64 (ivf f_l))]) (fn_19) rfl 1000 (by
    simp only [BdL, Bd, and_self, and_true, true_and]
    exact ⟨(fun i j hi hj => by rw [i_lim i j hi hj]; trivial), (fun i j hi hj => by rw [i_l i j hi hj]; trivial)⟩) ⟨SameD.int i_lim, SameD.int i_l, trivial⟩ ?_
  generalize ivf f_lim = lim at *
  generalize ivf f_l = l at *
  simp only [rowF_eq]
  simp only [limits_eq, in_eq, p19_13, p19_15, p19_17, p19_18, Try.f19, go_sem, ↓reduceIte, Nat.reduceAdd, Nat.reduceSub, Nat.reduceMul, Nat.reduceEqDiff, Nat.reduceLT, Nat.reduceLeDiff, Int.reduceToNat, Int.reduceLE, Int.reduceLT, Int.reduceEq, Int.reduceNeg, reduceCtorEq]
  obtain ⟨pn, pm⟩ := pre
  have bad : ∀ e i, plyE n lim m l = e → plyI n lim m l = i → e ≠ 0 → ((0 = plyN n lim m l ∧ ∀ (i j : Nat), i < plyN n lim m l → j < 1 → False) ∧ SV.int .i64 (i : Int) = .int .i64 (plyI n lim m l : Int) ∧ SV.int .i64 e = .int .i64 (plyE n lim m l)) := fun e i he hi h0 => by
    have h1 : plyN n lim m l = 0 := by simp [plyN, he, h0]
    rw [h1, he, hi]
    exact ⟨⟨rfl, fun i j hi => by omega⟩, rfl, rfl⟩
  refine ⟨fun c1 => ?_, fun c1 => ⟨pn, fun c2 => ?_, fun c2 => ?_⟩⟩
  · have h : ¬ m ≤ 256 := by simp at c1; omega
    exact bad 3 0 (by simp [plyE, h]) (by simp [plyI, h]) (by decide)
  · have h : m ≤ 256 := by simp at c1; omega
    have h2 : limB n lim = false := by simpa only [limB, Bool.not_eq_true'] using c2
    exact bad 1 0 (by simp [plyE, h, h2]) (by simp [plyI, h, h2]) (by decide)
  have hm : m ≤ 256 := by simp at c1; omega
  have hlim : limB n lim = true := by simpa only [limB, Bool.not_eq_false'] using c2
  obtain ⟨hl, hn⟩ : (∀ i, i < n → 0 ≤ lim i 0 ∧ lim i 0 ≤ 1099511627776) ∧ n ≤ 16 := by
    simp only [limB, Bool.and_eq_true, allU_iff, in3_iff, decide_eq_true_eq] at hlim; exact hlim
  have hI : plyI n lim m l = bad1 n lim l m := by simp [plyI, hm, hlim]
  have hE : plyE n lim m l = if bad1 n lim l m < m then entE n lim l (bad1 n lim l m) else 0 := by simp [plyE, hm, hlim]
  refine ⟨by omega, ?_⟩
  refine loop_of { q : Nat // q ≤ m ∧ ∀ i, i < q → entE n lim l i = 0 } (fun q => [(9, .int .i64 (q.1 : Int)), (8, .vec 1 0), (7, .int .i64 (n : Int)), (1, .row m 4 fun i j => .int .i64 (l i j)), (0, .row n 1 fun i j => .int .i64 (lim i j))])
    (fun q => ⟨[], [.live 0 3 1 0 fun _ _ => .any, .live 0 3 1 n fun i _ => .int .i64 (balF l q.1 i)]⟩) (fun q => m - q.1) (fun _ => ⟨rfl, rfl⟩) ⟨0, by omega, by omega⟩ (by simp only [balF]; (apply sub_of <;> simp only [go_sem, ↓reduceIte, Nat.reduceAdd, Nat.reduceSub, Nat.reduceMul, Nat.reduceEqDiff, Nat.reduceLT, Nat.reduceLeDiff, Int.reduceToNat, Int.reduceLE, Int.reduceLT, Int.reduceEq, Int.reduceNeg, reduceCtorEq] <;> (try simp [catF]) <;> (try exact fun j _ => Bd_nth (by simp [BdL, Bd]) j) <;> (try exact bd_setL (by simp [bdAs, BdL, Bd])) <;> (try exact nestF_bd _ _ _ _ _ _ _ _ _)); exact fun _ _ => rfl) ?_
  rintro ⟨q, hq, h3⟩
  simp only [limits_eq, in_eq, p19_13, p19_15, p19_17, p19_18, Try.f19, go_sem, ↓reduceIte, Nat.reduceAdd, Nat.reduceSub, Nat.reduceMul, Nat.reduceEqDiff, Nat.reduceLT, Nat.reduceLeDiff, Int.reduceToNat, Int.reduceLE, Int.reduceLT, Int.reduceEq, Int.reduceNeg, reduceCtorEq]
  have hw3 : IntKind.i64.wrap ((q : Int) + 1) = ((q + 1 : Nat) : Int) := by rw [wrap_id (by omega) (by omega)]; omega
  have hwn : IntKind.i64.wrap ((n : Int) - 1) = (n : Int) - 1 := wrap_id (by omega) (by omega)
  rw [hwn]
  have hb := balF_bd q h3
  have stop : ∀ e, q < m → entE n lim l q = e → e ≠ 0 → ((0 = plyN n lim m l ∧ ∀ (i j : Nat), i < plyN n lim m l → j < 1 → False) ∧ SV.int .i64 (q : Int) = .int .i64 (plyI n lim m l : Int) ∧ SV.int .i64 e = .int .i64 (plyE n lim m l)) := fun e hqm he h0 => by
    have h1 := bad1_hit (m := m) (by rw [he]; exact h0) h3 hqm
    exact bad e q (by rw [hE, h1, if_pos hqm, he]) (by rw [hI, h1]) h0
  refine ⟨fun e1 => ?_, fun e1 => ?_⟩
  · simp only [decide_eq_true_eq] at e1
    have hqm : q < m := by omega
    refine ⟨⟨by omega, by omega⟩, fun e2 => stop 1 hqm (by simp [entE, enB, show in3 (l q 0) 0 16384 = false by simpa using e2]) (by decide), fun e2 => ⟨fun e3 => stop 1 hqm (by simp [entE, enB, show in3 (l q 1) 0 ((n : Int) - 1) = false by simpa using e3]) (by decide), fun e3 => ⟨fun e4 => stop 1 hqm (by simp [entE, enB, show in3 (l q 2) 0 ((n : Int) - 1) = false by simpa using e4]) (by decide), fun e4 => ⟨fun e5 => stop 1 hqm (by simp only [entE, enB, e5, Bool.not_true, Bool.false_and, Bool.and_false]; rfl) (by decide), fun e5 => ⟨fun e6 => stop 1 hqm (by simp only [entE, enB, show in3 (l q 3) 1 1099511627776 = false by simpa using e6, Bool.and_false]; rfl) (by decide), fun e6 => ?_⟩⟩⟩⟩⟩
    simp only [Bool.not_eq_false'] at e2 e3 e4 e6
    have hen : enB n (l q) = true := by simp only [enB, e2, e3, e4, e5, e6, Bool.not_false, Bool.and_self]
    obtain ⟨g0, g1, g2, g3, g4⟩ := enB_iff.1 hen
    have w1 : IntKind.i64.wrap (balF l q (l q 1).toNat - l q 3) = balF l q (l q 1).toNat - l q 3 := by have := hb (l q 1).toNat; exact wrap_id (by omega) (by omega)
    have w2 : IntKind.i64.wrap (0 - lim (l q 1).toNat 0) = -(lim (l q 1).toNat 0) := by have := hl (l q 1).toNat (by omega); rw [wrap_id (by omega) (by omega)]; omega
    have hne : ¬ (l q 2).toNat = (l q 1).toNat := by omega
    simp only [w1, w2]
    have hwb : IntKind.i64.wrap (balF l q (l q 2).toNat + l q 3) = balF l q (l q 2).toNat + l q 3 := by have := hb (l q 2).toNat; exact wrap_id (by omega) (by omega)
    have hu := bal_upd (l := l) (q := q) (n := n) (a := (l q 1).toNat) (b := (l q 2).toNat) (X := balF l q (l q 1).toNat - l q 3) (Y := balF l q (l q 2).toNat + l q 3) (by omega) (by omega) (by omega) rfl rfl
    refine ⟨⟨by kernel_rfl, by kernel_rfl⟩, fun e7 => ?_, fun e7 => ?_⟩
    · simp only [decide_eq_true_eq] at e7
      have hp1 : IntKind.i64.wrap ((q : Int) - 1) = ((q - 1 : Nat) : Int) := by rw [wrap_id (by omega) (by omega)]; omega
      rw [hp1]
      simp only [Int.toNat_natCast]
      refine ⟨⟨by omega, by omega⟩, fun e8 => stop 7 hqm ?_ (by decide), fun e8 => ⟨⟨by kernel_rfl, by kernel_rfl⟩, ⟨by omega, by omega⟩, by omega, ⟨by omega, by omega⟩, fun e9 => stop 10 hqm ?_ (by decide), fun e9 => ⟨⟨by kernel_rfl, by kernel_rfl⟩, ⟨by omega, by omega⟩, by omega, ⟨by omega, by omega⟩, by omega, ⟨by kernel_rfl, by kernel_rfl⟩, ⟨by omega, by omega⟩, by omega, ?_⟩⟩⟩
      · simp only [decide_eq_true_eq] at e8
        simp [entE, hen, show ¬ q = 0 by omega, show ¬ l (q - 1) 0 ≤ l q 0 by omega]
      · simp only [decide_eq_true_eq, decide_eq_false_iff_not] at e8 e9
        simp [entE, hen, show l (q - 1) 0 ≤ l q 0 by omega, show ¬ -(lim (l q 1).toNat 0) ≤ balF l q (l q 1).toNat - l q 3 by omega]
      · simp only [decide_eq_true_eq, decide_eq_false_iff_not] at e8 e9
        have hq0 : entE n lim l q = 0 := by
          simp [entE, hen, show l (q - 1) 0 ≤ l q 0 by omega, show -(lim (l q 1).toNat 0) ≤ balF l q (l q 1).toNat - l q 3 by omega]
        rw [if_neg hne]
        simp only [limits_eq, in_eq, p19_13, p19_15, p19_17, p19_18, Try.f19, go_sem, ↓reduceIte, Nat.reduceAdd, Nat.reduceSub, Nat.reduceMul, Nat.reduceEqDiff, Nat.reduceLT, Nat.reduceLeDiff, Int.reduceToNat, Int.reduceLE, Int.reduceLT, Int.reduceEq, Int.reduceNeg, reduceCtorEq]
        refine ⟨⟨by omega, by omega⟩, by omega, ⟨q + 1, by omega, fun i hi => ?_⟩, by simp only []; omega, ?_⟩
        · rcases Nat.lt_or_ge i q with h | h
          · exact h3 i h
          · obtain rfl : i = q := by omega
            exact hq0
        · apply sub_of <;> simp only [hw3, hwb, go_sem, ↓reduceIte, Nat.reduceAdd, Nat.reduceSub, Nat.reduceMul, Nat.reduceEqDiff, Nat.reduceLT, Nat.reduceLeDiff, Int.reduceToNat, Int.reduceLE, Int.reduceLT, Int.reduceEq, Int.reduceNeg, reduceCtorEq] <;> (try simp) <;> (try exact fun j _ => Bd_nth (by simp [BdL, Bd]) j) <;> (try exact bd_setL (by simp [bdAs, BdL, Bd])) <;> (try exact nestF_bd _ _ _ _ _ _ _ _ _)
          exact fun i hi => by simpa [updF] using hu i 0 hi (by omega)
    · simp only [decide_eq_false_iff_not] at e7
      have hq00 : q = 0 := by omega
      refine ⟨⟨by kernel_rfl, by kernel_rfl⟩, ⟨by omega, by omega⟩, by omega, ⟨by omega, by omega⟩, fun e9 => stop 10 hqm ?_ (by decide), fun e9 => ⟨⟨by kernel_rfl, by kernel_rfl⟩, ⟨by omega, by omega⟩, by omega, ⟨by omega, by omega⟩, by omega, ⟨by kernel_rfl, by kernel_rfl⟩, ⟨by omega, by omega⟩, by omega, ?_⟩⟩
      · simp only [decide_eq_true_eq] at e9
        simp only [entE, hen, if_true, decide_eq_true hq00, Bool.true_or, if_neg (show ¬ -(lim (l q 1).toNat 0) ≤ balF l q (l q 1).toNat - l q 3 by omega)]
      · simp only [decide_eq_false_iff_not] at e9
        have hq0 : entE n lim l q = 0 := by
          simp only [entE, hen, if_true, decide_eq_true hq00, Bool.true_or, if_pos (show -(lim (l q 1).toNat 0) ≤ balF l q (l q 1).toNat - l q 3 by omega)]
        rw [if_neg hne]
        simp only [limits_eq, in_eq, p19_13, p19_15, p19_17, p19_18, Try.f19, go_sem, ↓reduceIte, Nat.reduceAdd, Nat.reduceSub, Nat.reduceMul, Nat.reduceEqDiff, Nat.reduceLT, Nat.reduceLeDiff, Int.reduceToNat, Int.reduceLE, Int.reduceLT, Int.reduceEq, Int.reduceNeg, reduceCtorEq]
        refine ⟨⟨by omega, by omega⟩, by omega, ⟨q + 1, by omega, fun i hi => ?_⟩, by simp only []; omega, ?_⟩
        · rcases Nat.lt_or_ge i q with h | h
          · exact h3 i h
          · obtain rfl : i = q := by omega
            exact hq0
        · apply sub_of <;> simp only [hw3, hwb, go_sem, ↓reduceIte, Nat.reduceAdd, Nat.reduceSub, Nat.reduceMul, Nat.reduceEqDiff, Nat.reduceLT, Nat.reduceLeDiff, Int.reduceToNat, Int.reduceLE, Int.reduceLT, Int.reduceEq, Int.reduceNeg, reduceCtorEq] <;> (try simp) <;> (try exact fun j _ => Bd_nth (by simp [BdL, Bd]) j) <;> (try exact bd_setL (by simp [bdAs, BdL, Bd])) <;> (try exact nestF_bd _ _ _ _ _ _ _ _ _)
          exact fun i hi => by simpa [updF] using hu i 0 hi (by omega)
  · simp only [decide_eq_false_iff_not] at e1
    obtain rfl : q = m := by omega
    have hb1 := bad1_all h3
    have hE0 : plyE n lim q l = 0 := by rw [hE, hb1, if_neg (by omega)]
    have hN : plyN n lim q l = n := by simp [plyN, hE0]
    rw [hE0, hN, hI, hb1]
    exact ⟨⟨rfl, fun _ _ _ _ => rfl⟩, rfl, rfl⟩
theorem def48_none (h : HS) (a b : Nat) : DefS Try.prog 48 [.ptr a 0, .ptr b 0] none h (fun p' h' => p' = none ∧ h' = h) := by
  refine defS_of_run (C := cx [] [] [] [] (some [])) (cx_ok trivial trivial) (g := 48) (fn := Try.f48) fn_48 rfl rfl rfl 1000 1000 ?_
  simp only [Try.f48, go_sem, ↓reduceIte, Nat.reduceAdd, Nat.reduceSub, Nat.reduceMul, Nat.reduceEqDiff, Nat.reduceLT, Nat.reduceLeDiff, Int.reduceToNat, Int.reduceLE, Int.reduceLT, Int.reduceEq, Int.reduceNeg, reduceCtorEq]
theorem def48_some (e : Int) (a b : SV) (c0 c1 c2 c3 : SV) (v0 v1 : Vc) : DefS Try.prog 48 [.ptr 0 0, .ptr 1 0] (some (.iface 93 (.agg [.int .i64 e]))) ⟨[.live 25 [a], .live 26 [b], .live 67 [c0, c1, c2, c3]], [v0, v1]⟩
    (fun p' h' => p' = none ∧ h' = ⟨[.live 25 [.vec 2 0], .live 26 [.int .i64 e], .live 67 [c0, c1, c2, c3], .live 93 [.int .i64 e]], [v0, v1, .live 0 3 1 0 fun _ _ => .any]⟩) := by
  refine defS_of_run (C := cx [] [] [] [(48, 5, p48_5)] (some [])) (cx_ok trivial trivial) (g := 48) (fn := Try.f48) fn_48 rfl rfl rfl 1000 1000 ?_
  simp only [Try.f48, p48_5, go_sem, ↓reduceIte, Nat.reduceAdd, Nat.reduceSub, Nat.reduceMul, Nat.reduceEqDiff, Nat.reduceLT, Nat.reduceLeDiff, Int.reduceToNat, Int.reduceLE, Int.reduceLT, Int.reduceEq, Int.reduceNeg, reduceCtorEq]
  exact ⟨by kernel_rfl, by kernel_rfl⟩
def playBase : BaseF := fun args => match args with
  | [.row n sz_lim f_lim, .row m sz_l f_l] => some ((sz_lim = 1 ∧ IntR n 1 f_lim) ∧ (sz_l = 4 ∧ IntR m 4 f_l) ∧ (n ≤ 1000000 ∧ m ≤ 1000000), .tup [.row (plyN n (ivf f_lim) m (ivf f_l)) 1 (fun i _ => .int .i64 (balF (ivf f_l) m i)), .int .i64 (plyI n (ivf f_lim) m (ivf f_l)), .int .i64 (plyE n (ivf f_lim) m (ivf f_l))])
  | _ => none
theorem play_eq (n : Nat) (sz_lim : Nat) (f_lim : Nat → Nat → SV) (m : Nat) (sz_l : Nat) (f_l : Nat → Nat → SV) : playBase [.row n sz_lim f_lim, .row m sz_l f_l] = some ((sz_lim = 1 ∧ IntR n 1 f_lim) ∧ (sz_l = 4 ∧ IntR m 4 f_l) ∧ (n ≤ 1000000 ∧ m ≤ 1000000), .tup [.row (plyN n (ivf f_lim) m (ivf f_l)) 1 (fun i _ => .int .i64 (balF (ivf f_l) m i)), .int .i64 (plyI n (ivf f_lim) m (ivf f_l)), .int .i64 (plyE n (ivf f_lim) m (ivf f_l))]) := rfl
theorem play_base : Base Try.prog 18 playBase := by
  intro args p v hq hp
  unfold playBase at hq
  split at hq
  rotate_left
  · cases hq
  rename_i n sz_lim f_lim m sz_l f_l
  cases hq
  obtain ⟨⟨rfl, i_lim⟩, ⟨rfl, i_l⟩, pre⟩ := hp
  refine ⟨(by
    simp only [BdL, Bd, and_self, and_true, true_and]
    exact ⟨(fun i j hi hj => by rw [i_lim i j hi hj]; trivial), (fun i j hi hj => by rw [i_l i j hi hj]; trivial)⟩), calls_mono (fun _ _ ⟨u, e1, e2⟩ => ⟨u, e1, .inr e2⟩) (calls_congr (args' := [.row n 1 (rowF .i64 (ivf f_lim)), .row m 4 (rowF .i64 (ivf f_l))]) ⟨SameD.int i_lim, SameD.int i_l, trivial⟩ (calls_of_defer (C := cx [] [] [(44, allLimBase), (50, isEntryBase)] [(18, 10, p18_10), (18, 11, p18_11), (18, 12, p18_12), (18, 13, p18_13)] (some [4, 5, 6])) (cx_ok trivial ⟨allLim_base, isEntry_base, trivial⟩) (g := 18) (fn := Try.f18) (fn_18) rfl rfl
    (args := [.row n 1 (rowF .i64 (ivf f_lim)), .row m 4 (rowF .i64 (ivf f_l))]) (K := fun o h' => ∃ u, o = .ret u ∧ FzT h' u (.tup [.row (plyN n (ivf f_lim) m (ivf f_l)) 1 (fun i _ => .int .i64 (balF (ivf f_l) m i)), .int .i64 (plyI n (ivf f_lim) m (ivf f_l)), .int .i64 (plyE n (ivf f_lim) m (ivf f_l))])) 1000 1000 ?_))⟩
  generalize ivf f_lim = lim at *
  generalize ivf f_l = l at *
  simp only [rowF_eq]
  simp only [allLim_eq, isEntry_eq, p18_10, p18_11, p18_12, p18_13, Try.f49, Try.f18, go_sem, ↓reduceIte, Nat.reduceAdd, Nat.reduceSub, Nat.reduceMul, Nat.reduceEqDiff, Nat.reduceLT, Nat.reduceLeDiff, Int.reduceToNat, Int.reduceLE, Int.reduceLT, Int.reduceEq, Int.reduceNeg, reduceCtorEq]
  obtain ⟨pn, pm⟩ := pre
  have hlc : (decide ((n : Int) ≤ 16) && allU (fun i => in3 (lim i 0) 0 1099511627776) n) = limB n lim := by
    have : ((n : Int) ≤ 16) ↔ n ≤ 16 := by omega
    simp only [limB, this, Bool.and_comm]
  have bad : ∀ e i, plyE n lim m l = e → plyI n lim m l = i → e ≠ 0 → ((0 = plyN n lim m l ∧ ∀ (i j : Nat), i < plyN n lim m l → j < 1 → False) ∧ SV.int .i64 (i : Int) = .int .i64 (plyI n lim m l : Int) ∧ SV.int .i64 e = .int .i64 (plyE n lim m l)) := fun e i he hi h0 => by
    have h1 : plyN n lim m l = 0 := by simp [plyN, he, h0]
    rw [h1, he, hi]
    exact ⟨⟨rfl, fun i j hi => by omega⟩, rfl, rfl⟩
  refine ⟨fun c1 => ?_, fun c1 => ⟨pn, fun c2 => ?_, fun c2 => ?_⟩⟩
  · have h : ¬ m ≤ 256 := by simp at c1; omega
    exact bad 3 0 (by simp [plyE, h]) (by simp [plyI, h]) (by decide)
  · have h : m ≤ 256 := by simp at c1; omega
    have h2 : limB n lim = false := by rw [← hlc]; simpa only [Bool.not_eq_true'] using c2
    exact bad 1 0 (by simp [plyE, h, h2]) (by simp [plyI, h, h2]) (by decide)
  have hm : m ≤ 256 := by simp at c1; omega
  have hlim : limB n lim = true := by rw [← hlc]; simpa only [Bool.not_eq_false'] using c2
  obtain ⟨hl, hn⟩ : (∀ i, i < n → 0 ≤ lim i 0 ∧ lim i 0 ≤ 1099511627776) ∧ n ≤ 16 := by
    simp only [limB, Bool.and_eq_true, allU_iff, in3_iff, decide_eq_true_eq] at hlim; exact hlim
  have hI : plyI n lim m l = bad1 n lim l m := by simp [plyI, hm, hlim]
  have hE : plyE n lim m l = if bad1 n lim l m < m then entE n lim l (bad1 n lim l m) else 0 := by simp [plyE, hm, hlim]
  refine ⟨by omega, ?_⟩
  refine loop_of { q : Nat // q ≤ m ∧ ∀ i, i < q → entE n lim l i = 0 } (fun q => [(6, .ptr 1 0), (5, .int .i64 (q.1 : Int)), (4, .ptr 0 0), (1, .row m 4 fun i j => .int .i64 (l i j)), (0, .row n 1 fun i j => .int .i64 (lim i j))])
    (fun q => ⟨[.live 25 [.vec 1 0], .live 26 [.int .i64 0]], [.live 0 3 1 0 fun _ _ => .any, .live 0 3 1 n fun i _ => .int .i64 (balF l q.1 i)]⟩) (fun q => m - q.1) (fun _ => ⟨rfl, rfl⟩) ⟨0, by omega, by omega⟩ (by simp only [balF]; (apply sub_of <;> simp only [go_sem, ↓reduceIte, Nat.reduceAdd, Nat.reduceSub, Nat.reduceMul, Nat.reduceEqDiff, Nat.reduceLT, Nat.reduceLeDiff, Int.reduceToNat, Int.reduceLE, Int.reduceLT, Int.reduceEq, Int.reduceNeg, reduceCtorEq] <;> (try simp [catF]) <;> (try exact fun j _ => Bd_nth (by simp [BdL, Bd]) j) <;> (try exact bd_setL (by simp [bdAs, BdL, Bd])) <;> (try exact nestF_bd _ _ _ _ _ _ _ _ _)); exact fun _ _ => rfl) ?_
  rintro ⟨q, hq, h3⟩
  simp only [allLim_eq, isEntry_eq, p18_10, p18_11, p18_12, p18_13, Try.f49, Try.f18, go_sem, ↓reduceIte, Nat.reduceAdd, Nat.reduceSub, Nat.reduceMul, Nat.reduceEqDiff, Nat.reduceLT, Nat.reduceLeDiff, Int.reduceToNat, Int.reduceLE, Int.reduceLT, Int.reduceEq, Int.reduceNeg, reduceCtorEq]
  have hw3 : IntKind.i64.wrap ((q : Int) + 1) = ((q + 1 : Nat) : Int) := by rw [wrap_id (by omega) (by omega)]; omega
  have hb := balF_bd q h3
  have stop : ∀ e, q < m → entE n lim l q = e → e ≠ 0 → ((0 = plyN n lim m l ∧ ∀ (i j : Nat), i < plyN n lim m l → j < 1 → False) ∧ SV.int .i64 (q : Int) = .int .i64 (plyI n lim m l : Int) ∧ SV.int .i64 e = .int .i64 (plyE n lim m l)) := fun e hqm he h0 => by
    have h1 := bad1_hit (m := m) (by rw [he]; exact h0) h3 hqm
    exact bad e q (by rw [hE, h1, if_pos hqm, he]) (by rw [hI, h1]) h0
  refine ⟨fun e1 => ?_, fun e1 => ?_⟩
  · simp only [decide_eq_true_eq] at e1
    have hqm : q < m := by omega
    have out : ∀ e, q < m → entE n lim l q = e → e ≠ 0 → ∀ {K : Option SV → HS → Prop}, (((0 = plyN n lim m l ∧ ∀ (i j : Nat), i < plyN n lim m l → j < 1 → False) ∧ SV.int .i64 (q : Int) = .int .i64 (plyI n lim m l : Int) ∧ SV.int .i64 e = .int .i64 (plyE n lim m l)) → K none ⟨[.live 25 [.vec 2 0], .live 26 [.int .i64 e], .live 67 [.int .i64 (l q 0), .int .i64 (l q 1), .int .i64 (l q 2), .int .i64 (l q 3)], .live 93 [.int .i64 e]], [.live 0 3 1 0 fun _ _ => .any, .live 0 3 1 n fun i _ => .int .i64 (balF l q i), .live 0 3 1 0 fun _ _ => .any]⟩) →
        DefS Try.prog 48 [.ptr 0 0, .ptr 1 0] (some (.iface 93 (.agg [.int .i64 e]))) ⟨[.live 25 [.vec 1 0], .live 26 [.int .i64 0], .live 67 [.int .i64 (l q 0), .int .i64 (l q 1), .int .i64 (l q 2), .int .i64 (l q 3)]], [.live 0 3 1 0 fun _ _ => .any, .live 0 3 1 n fun i _ => .int .i64 (balF l q i)]⟩ K :=
      fun e h1 h2 h3 K hK => defS_mono (def48_some e _ _ _ _ _ _ _ _) (fun p' h' ⟨e1, e2⟩ => by rw [e1, e2]; exact hK (stop e h1 h2 h3))
    refine ⟨⟨by omega, by omega⟩, ⟨by omega, by omega⟩, fun e2 => out 1 hqm ?_ (by decide) ?_, fun e2 => ?_⟩
    · simp only [entE]
      rw [if_neg]
      rw [show enB n (l q) = false by simp only [enB]; simpa only [Bool.not_eq_true'] using e2]
      decide
    · intro hs
      simp only [allLim_eq, isEntry_eq, p18_10, p18_11, p18_12, p18_13, Try.f49, Try.f18, go_sem, ↓reduceIte, Nat.reduceAdd, Nat.reduceSub, Nat.reduceMul, Nat.reduceEqDiff, Nat.reduceLT, Nat.reduceLeDiff, Int.reduceToNat, Int.reduceLE, Int.reduceLT, Int.reduceEq, Int.reduceNeg, reduceCtorEq]
      exact hs
    have hen : enB n (l q) = true := by simpa [enB] using e2
    obtain ⟨g0, g1, g2, g3, g4⟩ := enB_iff.1 hen
    have w1 : IntKind.i64.wrap (balF l q (l q 1).toNat - l q 3) = balF l q (l q 1).toNat - l q 3 := by have := hb (l q 1).toNat; exact wrap_id (by omega) (by omega)
    have w2 : IntKind.i64.wrap (0 - lim (l q 1).toNat 0) = -(lim (l q 1).toNat 0) := by have := hl (l q 1).toNat (by omega); rw [wrap_id (by omega) (by omega)]; omega
    have hne : ¬ (l q 2).toNat = (l q 1).toNat := by omega
    have hwb : IntKind.i64.wrap (balF l q (l q 2).toNat + l q 3) = balF l q (l q 2).toNat + l q 3 := by have := hb (l q 2).toNat; exact wrap_id (by omega) (by omega)
    have hu := bal_upd (l := l) (q := q) (n := n) (a := (l q 1).toNat) (b := (l q 2).toNat) (X := balF l q (l q 1).toNat - l q 3) (Y := balF l q (l q 2).toNat + l q 3) (by omega) (by omega) (by omega) rfl rfl
    simp only [w1, w2]
    refine ⟨⟨by kernel_rfl, by kernel_rfl⟩, fun e7 => ?_, fun e7 => ?_⟩
    · simp only [decide_eq_true_eq] at e7
      have hq00 : q = 0 := by omega
      refine ⟨⟨by kernel_rfl, by kernel_rfl⟩, ⟨by omega, by omega⟩, by omega, ⟨by omega, by omega⟩, fun e9 => out 10 hqm ?_ (by decide) ?_, fun e9 => ⟨⟨by kernel_rfl, by kernel_rfl⟩, ⟨by omega, by omega⟩, by omega, ⟨by omega, by omega⟩, by omega, ⟨by kernel_rfl, by kernel_rfl⟩, ⟨by omega, by omega⟩, by omega, ?_⟩⟩
      · simp only [Bool.not_eq_true', decide_eq_false_iff_not] at e9
        simp only [entE, hen, if_true, decide_eq_true hq00, Bool.true_or, if_neg e9]
      · intro hs
        simp only [allLim_eq, isEntry_eq, p18_10, p18_11, p18_12, p18_13, Try.f49, Try.f18, go_sem, ↓reduceIte, Nat.reduceAdd, Nat.reduceSub, Nat.reduceMul, Nat.reduceEqDiff, Nat.reduceLT, Nat.reduceLeDiff, Int.reduceToNat, Int.reduceLE, Int.reduceLT, Int.reduceEq, Int.reduceNeg, reduceCtorEq]
        exact hs
      · simp only [Bool.not_eq_false', decide_eq_true_eq] at e9
        have hq0 : entE n lim l q = 0 := by
          simp only [entE, hen, if_true, decide_eq_true hq00, Bool.true_or, if_pos e9]
        rw [if_neg hne]
        simp only [allLim_eq, isEntry_eq, p18_10, p18_11, p18_12, p18_13, Try.f49, Try.f18, go_sem, ↓reduceIte, Nat.reduceAdd, Nat.reduceSub, Nat.reduceMul, Nat.reduceEqDiff, Nat.reduceLT, Nat.reduceLeDiff, Int.reduceToNat, Int.reduceLE, Int.reduceLT, Int.reduceEq, Int.reduceNeg, reduceCtorEq]
        refine ⟨⟨by omega, by omega⟩, by omega, ⟨q + 1, by omega, fun i hi => ?_⟩, by simp only []; omega, ?_⟩
        · rcases Nat.lt_or_ge i q with h | h
          · exact h3 i h
          · obtain rfl : i = q := by omega
            exact hq0
        · apply sub_of <;> simp only [hw3, hwb, go_sem, ↓reduceIte, Nat.reduceAdd, Nat.reduceSub, Nat.reduceMul, Nat.reduceEqDiff, Nat.reduceLT, Nat.reduceLeDiff, Int.reduceToNat, Int.reduceLE, Int.reduceLT, Int.reduceEq, Int.reduceNeg, reduceCtorEq] <;> (try simp) <;> (try exact fun j _ => Bd_nth (by simp [BdL, Bd]) j) <;> (try exact bd_setL (by simp [bdAs, BdL, Bd])) <;> (try exact nestF_bd _ _ _ _ _ _ _ _ _)
          exact fun i hi => by simpa [updF] using hu i 0 hi (by omega)
    · simp only [decide_eq_false_iff_not] at e7
      have hp1 : IntKind.i64.wrap ((q : Int) - 1) = ((q - 1 : Nat) : Int) := by rw [wrap_id (by omega) (by omega)]; omega
      rw [hp1]
      simp only [Int.toNat_natCast]
      refine ⟨⟨by omega, by omega⟩, fun e8 => out 7 hqm ?_ (by decide) ?_, fun e8 => ⟨⟨by kernel_rfl, by kernel_rfl⟩, ⟨by omega, by omega⟩, by omega, ⟨by omega, by omega⟩, fun e9 => out 10 hqm ?_ (by decide) ?_, fun e9 => ⟨⟨by kernel_rfl, by kernel_rfl⟩, ⟨by omega, by omega⟩, by omega, ⟨by omega, by omega⟩, by omega, ⟨by kernel_rfl, by kernel_rfl⟩, ⟨by omega, by omega⟩, by omega, ?_⟩⟩⟩
      · simp only [Bool.not_eq_true', decide_eq_false_iff_not] at e8
        simp [entE, hen, show ¬ q = 0 by omega, e8]
      · intro hs
        simp only [allLim_eq, isEntry_eq, p18_10, p18_11, p18_12, p18_13, Try.f49, Try.f18, go_sem, ↓reduceIte, Nat.reduceAdd, Nat.reduceSub, Nat.reduceMul, Nat.reduceEqDiff, Nat.reduceLT, Nat.reduceLeDiff, Int.reduceToNat, Int.reduceLE, Int.reduceLT, Int.reduceEq, Int.reduceNeg, reduceCtorEq]
        exact hs
      · simp only [Bool.not_eq_true', Bool.not_eq_false', decide_eq_true_eq, decide_eq_false_iff_not] at e8 e9
        simp [entE, hen, e8, e9]
      · intro hs
        simp only [allLim_eq, isEntry_eq, p18_10, p18_11, p18_12, p18_13, Try.f49, Try.f18, go_sem, ↓reduceIte, Nat.reduceAdd, Nat.reduceSub, Nat.reduceMul, Nat.reduceEqDiff, Nat.reduceLT, Nat.reduceLeDiff, Int.reduceToNat, Int.reduceLE, Int.reduceLT, Int.reduceEq, Int.reduceNeg, reduceCtorEq]
        exact hs
      · simp only [Bool.not_eq_false', decide_eq_true_eq] at e8 e9
        have hq0 : entE n lim l q = 0 := by
          simp [entE, hen, e8, e9]
        rw [if_neg hne]
        simp only [allLim_eq, isEntry_eq, p18_10, p18_11, p18_12, p18_13, Try.f49, Try.f18, go_sem, ↓reduceIte, Nat.reduceAdd, Nat.reduceSub, Nat.reduceMul, Nat.reduceEqDiff, Nat.reduceLT, Nat.reduceLeDiff, Int.reduceToNat, Int.reduceLE, Int.reduceLT, Int.reduceEq, Int.reduceNeg, reduceCtorEq]
        refine ⟨⟨by omega, by omega⟩, by omega, ⟨q + 1, by omega, fun i hi => ?_⟩, by simp only []; omega, ?_⟩
        · rcases Nat.lt_or_ge i q with h | h
          · exact h3 i h
          · obtain rfl : i = q := by omega
            exact hq0
        · apply sub_of <;> simp only [hw3, hwb, go_sem, ↓reduceIte, Nat.reduceAdd, Nat.reduceSub, Nat.reduceMul, Nat.reduceEqDiff, Nat.reduceLT, Nat.reduceLeDiff, Int.reduceToNat, Int.reduceLE, Int.reduceLT, Int.reduceEq, Int.reduceNeg, reduceCtorEq] <;> (try simp) <;> (try exact fun j _ => Bd_nth (by simp [BdL, Bd]) j) <;> (try exact bd_setL (by simp [bdAs, BdL, Bd])) <;> (try exact nestF_bd _ _ _ _ _ _ _ _ _)
          exact fun i hi => by simpa [updF] using hu i 0 hi (by omega)
  · simp only [decide_eq_false_iff_not] at e1
    obtain rfl : q = m := by omega
    have hb1 := bad1_all h3
    have hE0 : plyE n lim q l = 0 := by rw [hE, hb1, if_neg (by omega)]
    have hN : plyN n lim q l = n := by simp [plyN, hE0]
    refine defS_mono (def48_none _ _ _) (fun p' h' ⟨e1, e2⟩ => ?_)
    rw [e1, e2]
    simp only [allLim_eq, isEntry_eq, p18_10, p18_11, p18_12, p18_13, Try.f49, Try.f18, go_sem, ↓reduceIte, Nat.reduceAdd, Nat.reduceSub, Nat.reduceMul, Nat.reduceEqDiff, Nat.reduceLT, Nat.reduceLeDiff, Int.reduceToNat, Int.reduceLE, Int.reduceLT, Int.reduceEq, Int.reduceNeg, reduceCtorEq]
    rw [hE0, hN, hI, hb1]
    exact ⟨⟨rfl, fun _ _ _ _ => trivial⟩, rfl, rfl⟩
end Go.Eng
end

/- money: passes. -/
section
namespace Go.Eng
open Go Go.RowKit Go.Proofs
set_option maxRecDepth 100000
set_option maxHeartbeats 4000000
attribute [local irreducible] OwnT DefS
def passB (h : Int) (A : Nat → Nat → Int) (M : Nat → Nat) (V : Nat → Nat → Nat → Int) (i : Nat) : Bool := in3 (A i 0) 0 1048576 && (decide (M i ≤ 128) && allU (fun k => in3 (V i k 0) 0 (h - 1)) (M i))
theorem passB_iff {h : Int} {A : Nat → Nat → Int} {M : Nat → Nat} {V : Nat → Nat → Nat → Int} {i : Nat} : passB h A M V i = true ↔ (0 ≤ A i 0 ∧ A i 0 ≤ 1048576) ∧ M i ≤ 128 ∧ ∀ k, k < M i → 0 ≤ V i k 0 ∧ V i k 0 ≤ h - 1 := by
  simp only [passB, Bool.and_eq_true, in3_iff, decide_eq_true_eq, allU_iff]
theorem passB_ns (h : Int) (A : Nat → Nat → Int) (M M' : Nat → Nat) (V V' : Nat → Nat → Nat → Int) : passB h (nsA (nestF 1 1 A M V)) M' V' = passB h A M' V' := by
  funext i
  simp only [passB, nsA_lit (k := 1) (s := 1) (A := A) (M := M) (V := V) i (show 0 ≠ 1 by omega)]
def visitsBase : BaseF := fun args => match args with
  | [.row n sz_A f_A] => some ((sz_A = 2 ∧ NestR n 2 1 1 f_A), .bool (decide (68 < n) || !allU (fun i => decide (70 ≤ i) || decide ((nsM 1 f_A) i ≤ 132)) n))
  | _ => none
theorem visits_eq (n : Nat) (sz_A : Nat) (f_A : Nat → Nat → SV) : visitsBase [.row n sz_A f_A] = some ((sz_A = 2 ∧ NestR n 2 1 1 f_A), .bool (decide (68 < n) || !allU (fun i => decide (70 ≤ i) || decide ((nsM 1 f_A) i ≤ 132)) n)) := rfl
theorem visits_base : Base Try.prog 15 visitsBase := by
  intro args p v hq hp
  unfold visitsBase at hq
  split at hq
  rotate_left
  · cases hq
  rename_i n sz_A f_A
  cases hq
  obtain ⟨rfl, i_A⟩ := hp
  refine base_of (C := cx [] [] [] [] none) (cx_ok trivial trivial) rfl (g := 15) (fn := Try.f15)
    (args' := [.row n 2 (nestF 1 1 (nsA f_A) (nsM 1 f_A) (nsV 1 f_A))]) (fn_15) rfl 1000 (by
    simp only [BdL, Bd, and_self, and_true, true_and]
    exact (fun i j hi hj => nest_bd i_A i j hi hj)) ⟨SameD.nest i_A, trivial⟩ ?_
  generalize nsA f_A = A
  generalize nsM 1 f_A = M
  generalize nsV 1 f_A = V
  simp only [nestF_eq, Try.f15, go_sem, ↓reduceIte, Nat.reduceAdd, Nat.reduceSub, Nat.reduceMul, Nat.reduceEqDiff, Nat.reduceLT, Nat.reduceLeDiff, Int.reduceToNat, Int.reduceLE, Int.reduceLT, Int.reduceEq, Int.reduceNeg, reduceCtorEq]
  refine loop_ofH { i : Nat // i ≤ n ∧ i ≤ 70 ∧ ∀ j, j < i → decide (M j ≤ 132) = true } (fun i => [(3, .int .i64 (i.1 : Int)), (0, .row n 2 (nestF 1 1 A M V))]) (fun h _ => h) (fun i => n - i.1) (fun _ => ⟨rfl, rfl⟩) ⟨0, by omega, by omega, by omega⟩ (by (apply sub_of <;> simp only [go_sem, ↓reduceIte, Nat.reduceAdd, Nat.reduceSub, Nat.reduceMul, Nat.reduceEqDiff, Nat.reduceLT, Nat.reduceLeDiff, Int.reduceToNat, Int.reduceLE, Int.reduceLT, Int.reduceEq, Int.reduceNeg, reduceCtorEq] <;> (try simp [catF]) <;> (try exact fun j _ => Bd_nth (by simp [BdL, Bd]) j) <;> (try exact bd_setL (by simp [bdAs, BdL, Bd])) <;> (try exact nestF_bd _ _ _ _ _ _ _ _ _))) ?_
  rintro ⟨i, hi, hi7, h3⟩
  simp only [nestF_eq, Try.f15, go_sem, ↓reduceIte, Nat.reduceAdd, Nat.reduceSub, Nat.reduceMul, Nat.reduceEqDiff, Nat.reduceLT, Nat.reduceLeDiff, Int.reduceToNat, Int.reduceLE, Int.reduceLT, Int.reduceEq, Int.reduceNeg, reduceCtorEq]
  have hw3 : IntKind.i64.wrap ((i : Int) + 1) = ((i + 1 : Nat) : Int) := by rw [wrap_id (by omega) (by omega)]; omega
  refine ⟨fun e1 => ⟨fun e2 => ⟨⟨by simp at e1; omega, by simp at e1; omega⟩, fun e3 => ?_, fun e3 => ?_⟩, fun e2 => ?_⟩, fun e1 => ?_⟩
  all_goals simp only [decide_eq_true_eq, decide_eq_false_iff_not] at *
  · rw [allU_false (p := fun i => decide (70 ≤ i) || decide (M i ≤ 132)) (i := i) (by omega) (by simp; omega)]
    simp
  · refine ⟨⟨i + 1, by omega, by omega, fun j hj => ?_⟩, by simp only []; omega, ?_⟩
    · rcases Nat.lt_or_ge j i with h | h
      · simpa using h3 j h
      · obtain rfl : j = i := by omega
        simp; omega
    · apply sub_of <;> simp only [hw3, go_sem, ↓reduceIte, Nat.reduceAdd, Nat.reduceSub, Nat.reduceMul, Nat.reduceEqDiff, Nat.reduceLT, Nat.reduceLeDiff, Int.reduceToNat, Int.reduceLE, Int.reduceLT, Int.reduceEq, Int.reduceNeg, reduceCtorEq] <;> (try simp) <;> (try exact fun j _ => Bd_nth (by simp [BdL, Bd]) j) <;> (try exact bd_setL (by simp [bdAs, BdL, Bd])) <;> (try exact nestF_bd _ _ _ _ _ _ _ _ _)
  · congr 1
    have h7 : 70 ≤ i := by omega
    simp [show 68 < n by omega]
    omega
  · congr 1
    obtain rfl : i = n := by omega
    rw [allU_true (p := fun i => decide (70 ≤ i) || decide (M i ≤ 132)) (fun j hj => by simp [h3 j hj])]
    simp
    omega
def passesBase : BaseF := fun args => match args with
  | [.row n sz_A f_A, .int .i64 h] => some ((sz_A = 2 ∧ NestR n 2 1 1 f_A) ∧ (n ≤ 1000000 ∧ (∀ i, i < n → (nsM 1 f_A) i ≤ 1000000) ∧ (0 ≤ h ∧ h ≤ 1000000)), .bool (allU (passB h (nsA f_A) (nsM 1 f_A) (nsV 1 f_A)) n))
  | _ => none
theorem passes_eq (n : Nat) (sz_A : Nat) (f_A : Nat → Nat → SV) (h : Int) : passesBase [.row n sz_A f_A, .int .i64 h] = some ((sz_A = 2 ∧ NestR n 2 1 1 f_A) ∧ (n ≤ 1000000 ∧ (∀ i, i < n → (nsM 1 f_A) i ≤ 1000000) ∧ (0 ≤ h ∧ h ≤ 1000000)), .bool (allU (passB h (nsA f_A) (nsM 1 f_A) (nsV 1 f_A)) n)) := rfl
theorem passes_base : Base Try.prog 27 passesBase := by
  intro args p v hq hp
  unfold passesBase at hq
  split at hq
  rotate_left
  · cases hq
  rename_i n sz_A f_A h
  cases hq
  obtain ⟨⟨rfl, i_A⟩, pre⟩ := hp
  refine base_of (C := cx [] [] [(39, inBase)] [] none) (cx_ok trivial ⟨in_base, trivial⟩) rfl (g := 27) (fn := Try.f27)
    (args' := [.row n 2 (nestF 1 1 (nsA f_A) (nsM 1 f_A) (nsV 1 f_A)), .int .i64 h]) (fn_27) rfl 1000 (by
    simp only [BdL, Bd, and_self, and_true, true_and]
    exact (fun i j hi hj => nest_bd i_A i j hi hj)) ⟨SameD.nest i_A, SameD.rfl' _, trivial⟩ ?_
  generalize nsA f_A = A at *
  generalize nsM 1 f_A = M at *
  generalize nsV 1 f_A = V at *
  simp only [in_eq, nestF_eq, Try.f27, go_sem, ↓reduceIte, Nat.reduceAdd, Nat.reduceSub, Nat.reduceMul, Nat.reduceEqDiff, Nat.reduceLT, Nat.reduceLeDiff, Int.reduceToNat, Int.reduceLE, Int.reduceLT, Int.reduceEq, Int.reduceNeg, reduceCtorEq]
  obtain ⟨pn, pm, ph⟩ := pre
  refine loop_ofH { i : Nat // i ≤ n ∧ ∀ j, j < i → passB h A M V j = true } (fun i => [(5, .int .i64 (i.1 : Int)), (1, .int .i64 h), (0, .row n 2 (nestF 1 1 A M V))]) (fun h _ => h) (fun i => n - i.1) (fun _ => ⟨rfl, rfl⟩) ⟨0, by omega, by omega⟩ (by (apply sub_of <;> simp only [go_sem, ↓reduceIte, Nat.reduceAdd, Nat.reduceSub, Nat.reduceMul, Nat.reduceEqDiff, Nat.reduceLT, Nat.reduceLeDiff, Int.reduceToNat, Int.reduceLE, Int.reduceLT, Int.reduceEq, Int.reduceNeg, reduceCtorEq] <;> (try simp [catF]) <;> (try exact fun j _ => Bd_nth (by simp [BdL, Bd]) j) <;> (try exact bd_setL (by simp [bdAs, BdL, Bd])) <;> (try exact nestF_bd _ _ _ _ _ _ _ _ _))) ?_
  rintro ⟨i, hi, h3⟩
  simp only [in_eq, nestF_eq, Try.f27, go_sem, ↓reduceIte, Nat.reduceAdd, Nat.reduceSub, Nat.reduceMul, Nat.reduceEqDiff, Nat.reduceLT, Nat.reduceLeDiff, Int.reduceToNat, Int.reduceLE, Int.reduceLT, Int.reduceEq, Int.reduceNeg, reduceCtorEq]
  have hw3 : IntKind.i64.wrap ((i : Int) + 1) = ((i + 1 : Nat) : Int) := by rw [wrap_id (by omega) (by omega)]; omega
  have bad : i < n → passB h A M V i = false → SV.bool false = .bool (allU (passB h A M V) n) := fun hi hh => by rw [allU_false hi hh]
  refine ⟨fun e1 => ?_, fun e1 => ?_⟩
  · simp only [decide_eq_true_eq] at e1
    have ik : i < n := by omega
    refine ⟨⟨by omega, by omega⟩, fun e2 => bad ik (by simp [passB, show in3 (A i 0) 0 1048576 = false by simpa using e2]), fun e2 => ⟨⟨by omega, by omega⟩, fun e3 => bad ik ?_, fun e3 => ?_⟩⟩
    · simp only [decide_eq_true_eq] at e3
      simp [passB, show ¬ M i ≤ 128 by omega]
    simp only [Bool.not_eq_false', decide_eq_false_iff_not] at e2 e3
    have hM : M i ≤ 128 := by omega
    refine loop_of { k : Nat // k ≤ M i ∧ ∀ j, j < k → (fun k => in3 (V i k 0) 0 (h - 1)) j = true } (fun k => [(6, .int .i64 (k.1 : Int)), (5, .int .i64 (i : Int)), (1, .int .i64 h), (0, .row n 2 (nestF 1 1 A M V))]) (fun _ => ⟨[], []⟩) (fun k => M i - k.1) (fun _ => ⟨rfl, rfl⟩) ⟨0, by omega, by omega⟩ (by (apply sub_of <;> simp only [go_sem, ↓reduceIte, Nat.reduceAdd, Nat.reduceSub, Nat.reduceMul, Nat.reduceEqDiff, Nat.reduceLT, Nat.reduceLeDiff, Int.reduceToNat, Int.reduceLE, Int.reduceLT, Int.reduceEq, Int.reduceNeg, reduceCtorEq] <;> (try simp [catF]) <;> (try exact fun j _ => Bd_nth (by simp [BdL, Bd]) j) <;> (try exact bd_setL (by simp [bdAs, BdL, Bd])) <;> (try exact nestF_bd _ _ _ _ _ _ _ _ _))) ?_
    rintro ⟨k, hk, h4⟩
    simp only [in_eq, nestF_eq, Try.f27, go_sem, ↓reduceIte, Nat.reduceAdd, Nat.reduceSub, Nat.reduceMul, Nat.reduceEqDiff, Nat.reduceLT, Nat.reduceLeDiff, Int.reduceToNat, Int.reduceLE, Int.reduceLT, Int.reduceEq, Int.reduceNeg, reduceCtorEq]
    have hw4 : IntKind.i64.wrap ((k : Int) + 1) = ((k + 1 : Nat) : Int) := by rw [wrap_id (by omega) (by omega)]; omega
    have hwh : IntKind.i64.wrap (h - 1) = h - 1 := wrap_id (by omega) (by omega)
    rw [hwh]
    refine ⟨⟨by omega, by omega⟩, fun e4 => ⟨⟨by omega, by omega⟩, ⟨by omega, by simp at e4; omega⟩, fun e5 => bad ik ?_, fun e5 => ?_⟩, fun e4 => ?_⟩
    · simp only [decide_eq_true_eq] at e4
      simp only [passB]
      rw [allU_false (p := fun k => in3 (V i k 0) 0 (h - 1)) (i := k) (by omega) (by simpa using e5)]
      simp
    · simp only [decide_eq_true_eq, Bool.not_eq_false'] at e4 e5
      refine ⟨⟨k + 1, by omega, below h4 e5⟩, by simp only []; omega, ?_⟩
      apply sub_of <;> simp only [hw4, hwh, go_sem, ↓reduceIte, Nat.reduceAdd, Nat.reduceSub, Nat.reduceMul, Nat.reduceEqDiff, Nat.reduceLT, Nat.reduceLeDiff, Int.reduceToNat, Int.reduceLE, Int.reduceLT, Int.reduceEq, Int.reduceNeg, reduceCtorEq] <;> (try simp) <;> (try exact fun j _ => Bd_nth (by simp [BdL, Bd]) j) <;> (try exact bd_setL (by simp [bdAs, BdL, Bd])) <;> (try exact nestF_bd _ _ _ _ _ _ _ _ _)
    · simp only [decide_eq_false_iff_not] at e4
      obtain rfl : k = M i := by omega
      refine ⟨⟨i + 1, by omega, below h3 (by simp only [passB, e2, decide_eq_true hM, allU_true h4, Bool.and_self])⟩, by simp only []; omega, ?_⟩
      apply sub_of <;> simp only [hw3, go_sem, ↓reduceIte, Nat.reduceAdd, Nat.reduceSub, Nat.reduceMul, Nat.reduceEqDiff, Nat.reduceLT, Nat.reduceLeDiff, Int.reduceToNat, Int.reduceLE, Int.reduceLT, Int.reduceEq, Int.reduceNeg, reduceCtorEq] <;> (try simp) <;> (try exact fun j _ => Bd_nth (by simp [BdL, Bd]) j) <;> (try exact bd_setL (by simp [bdAs, BdL, Bd])) <;> (try exact nestF_bd _ _ _ _ _ _ _ _ _)
  · simp only [decide_eq_false_iff_not] at e1
    obtain rfl : i = n := by omega
    rw [allU_true h3]
/-- What the k-th visit of a pass gets. -/
def ptA (P : Int) (m k : Nat) : Int := P / m + if (k : Int) < P % m then 1 else 0
def shV (P : Int) (m : Nat) (v : Nat → Nat → Int) : Nat → Nat → Int
  | 0, _ => 0
  | k + 1, h => shV P m v k h + if v k 0 = (h : Int) then ptA P m k else 0
/-- What a hall gets of the first i passes. -/
def shrF (A : Nat → Nat → Int) (M : Nat → Nat) (V : Nat → Nat → Nat → Int) : Nat → Nat → Int
  | 0, _ => 0
  | i + 1, h => shrF A M V i h + shV (A i 0) (M i) (V i) (M i) h
def kpF (A : Nat → Nat → Int) (M : Nat → Nat) : Nat → Int
  | 0 => 0
  | i + 1 => kpF A M i + if M i = 0 then A i 0 else 0
theorem ptA_bd {P : Int} {m k : Nat} (hP : 0 ≤ P ∧ P ≤ 1048576) : 0 ≤ ptA P m k ∧ ptA P m k ≤ 1048577 := by
  unfold ptA
  have h1 : 0 ≤ P / (m : Int) := Int.ediv_nonneg hP.1 (by omega)
  have h2 : P / (m : Int) ≤ P := by
    rcases Nat.eq_zero_or_pos m with rfl | h
    · simp; omega
    · exact Int.ediv_le_self _ hP.1
  split <;> omega
theorem shV_bd {P : Int} {m : Nat} {v : Nat → Nat → Int} (hP : 0 ≤ P ∧ P ≤ 1048576) : ∀ k h, 0 ≤ shV P m v k h ∧ shV P m v k h ≤ k * 1048577
  | 0, h => by simp [shV]
  | k + 1, h => by
    have h1 := shV_bd (m := m) (v := v) hP k h
    have h2 := ptA_bd (m := m) (k := k) hP
    simp only [shV]
    split <;> omega
theorem shrF_bd {n : Nat} {hh : Int} {A : Nat → Nat → Int} {M : Nat → Nat} {V : Nat → Nat → Nat → Int} (hp : ∀ i, i < n → passB hh A M V i = true) : ∀ i, i ≤ n → ∀ h, 0 ≤ shrF A M V i h ∧ shrF A M V i h ≤ i * 134217856
  | 0, _, h => by simp [shrF]
  | i + 1, hi, h => by
    have h1 := shrF_bd hp i (by omega) h
    obtain ⟨h2, h3, _⟩ := passB_iff.1 (hp i (by omega))
    have h4 := shV_bd (m := M i) (v := V i) h2 (M i) h
    simp only [shrF]
    omega
theorem kpF_bd {n : Nat} {hh : Int} {A : Nat → Nat → Int} {M : Nat → Nat} {V : Nat → Nat → Nat → Int} (hp : ∀ i, i < n → passB hh A M V i = true) : ∀ i, i ≤ n → 0 ≤ kpF A M i ∧ kpF A M i ≤ i * 1048576
  | 0, _ => by simp [kpF]
  | i + 1, hi => by
    have h1 := kpF_bd hp i (by omega)
    obtain ⟨h2, h3, _⟩ := passB_iff.1 (hp i (by omega))
    simp only [kpF]
    split <;> omega
def splE (n : Nat) (A : Nat → Nat → Int) (M : Nat → Nat) (V : Nat → Nat → Nat → Int) (h : Int) : Int := if in3 h 0 16 then if n ≤ 64 then if allU (passB h A M V) n then 0 else 1 else 3 else 2
def splN (n : Nat) (A : Nat → Nat → Int) (M : Nat → Nat) (V : Nat → Nat → Nat → Int) (h : Int) : Nat := if splE n A M V h = 0 then h.toNat else 0
def splK (n : Nat) (A : Nat → Nat → Int) (M : Nat → Nat) (V : Nat → Nat → Nat → Int) (h : Int) : Int := if splE n A M V h = 0 then kpF A M n else 0
theorem splN_bd (n : Nat) (A : Nat → Nat → Int) (M : Nat → Nat) (V : Nat → Nat → Nat → Int) (h : Int) : splN n A M V h ≤ 16 := by
  unfold splN
  split
  · rename_i he
    unfold splE at he
    split at he
    · rename_i hh
      have := in3_iff.1 hh
      omega
    · cases he
  · omega
theorem sh_upd {S P : Nat → Int} {m b : Nat} {X : Int} (h1 : X = S b + P b) (h2 : ∀ h, h ≠ b → P h = 0) :
    ∀ i j, i < m → j < 1 → updF (fun i _ => .int .i64 (S i)) b 0 1 [.int .i64 X] i j = .int .i64 (S i + P i) := fun i j hi hj => by
  obtain rfl : j = 0 := by omega
  simp only [updF]
  by_cases h : i = b
  · subst h
    rw [if_pos (by omega), h1]; rfl
  · rw [if_neg (by omega), h2 i h, Int.add_zero]
def splitRBase : BaseF := fun args => match args with
  | [.row n sz_A f_A, .int .i64 h] => some ((sz_A = 2 ∧ NestR n 2 1 1 f_A) ∧ (n ≤ 1000000 ∧ (∀ i, i < n → (nsM 1 f_A) i ≤ 1000000)), .tup [.row (splN n (nsA f_A) (nsM 1 f_A) (nsV 1 f_A) h) 1 (fun i _ => .int .i64 (shrF (nsA f_A) (nsM 1 f_A) (nsV 1 f_A) n i)), .int .i64 (splK n (nsA f_A) (nsM 1 f_A) (nsV 1 f_A) h), .int .i64 (splE n (nsA f_A) (nsM 1 f_A) (nsV 1 f_A) h)])
  | _ => none
theorem splitR_eq (n : Nat) (sz_A : Nat) (f_A : Nat → Nat → SV) (h : Int) : splitRBase [.row n sz_A f_A, .int .i64 h] = some ((sz_A = 2 ∧ NestR n 2 1 1 f_A) ∧ (n ≤ 1000000 ∧ (∀ i, i < n → (nsM 1 f_A) i ≤ 1000000)), .tup [.row (splN n (nsA f_A) (nsM 1 f_A) (nsV 1 f_A) h) 1 (fun i _ => .int .i64 (shrF (nsA f_A) (nsM 1 f_A) (nsV 1 f_A) n i)), .int .i64 (splK n (nsA f_A) (nsM 1 f_A) (nsV 1 f_A) h), .int .i64 (splE n (nsA f_A) (nsM 1 f_A) (nsV 1 f_A) h)]) := rfl
theorem splitR_base : Base Try.prog 17 splitRBase := by
  intro args p v hq hp
  unfold splitRBase at hq
  split at hq
  rotate_left
  · cases hq
  rename_i n sz_A f_A h
  cases hq
  obtain ⟨⟨rfl, i_A⟩, pre⟩ := hp
  refine baseF_of (C := cx [] [] [(27, passesBase), (39, inBase)] [(17, 21, p17_21)] none) (cx_ok trivial ⟨passes_base, in_base, trivial⟩) rfl (g := 17) (fn := Try.f17)
    (args' := [.row n 2 (nestF 1 1 (nsA f_A) (nsM 1 f_A) (nsV 1 f_A)), .int .i64 h]) (fn_17) rfl 1000 (by
    simp only [BdL, Bd, and_self, and_true, true_and]
    exact (fun i j hi hj => nest_bd i_A i j hi hj)) ⟨SameD.nest i_A, SameD.rfl' _, trivial⟩ ?_
  generalize nsA f_A = A at *
  generalize nsM 1 f_A = M at *
  generalize nsV 1 f_A = V at *
  simp only [passes_eq, in_eq, p17_21, nestF_eq, nestR_lit, nsM_lit, nsV_lit, passB_ns, Try.f17, go_sem, ↓reduceIte, Nat.reduceAdd, Nat.reduceSub, Nat.reduceMul, Nat.reduceEqDiff, Nat.reduceLT, Nat.reduceLeDiff, Int.reduceToNat, Int.reduceLE, Int.reduceLT, Int.reduceEq, Int.reduceNeg, reduceCtorEq]
  obtain ⟨pn, pm⟩ := pre
  have bad : ∀ e, splE n A M V h = e → e ≠ 0 → ((0 = splN n A M V h ∧ ∀ (i j : Nat), i < splN n A M V h → j < 1 → False) ∧ SV.int .i64 0 = .int .i64 (splK n A M V h) ∧ SV.int .i64 e = .int .i64 (splE n A M V h)) := fun e he h0 => by
    have h1 : splN n A M V h = 0 := by simp [splN, he, h0]
    have h2 : splK n A M V h = 0 := by simp [splK, he, h0]
    rw [h1, h2, he]
    exact ⟨⟨rfl, fun i j hi => by omega⟩, rfl, rfl⟩
  refine ⟨fun c1 => bad 2 (by simp [splE, show in3 h 0 16 = false by simpa using c1]) (by decide), fun c1 => ⟨fun c2 => bad 3 ?_ (by decide), fun c2 => ?_⟩⟩
  · have h1 : in3 h 0 16 = true := by simpa using c1
    have h2 : ¬ n ≤ 64 := by simp at c2; omega
    simp [splE, h1, h2]
  have h1 : in3 h 0 16 = true := by simpa using c1
  have h2 : n ≤ 64 := by simp at c2; omega
  have hh := in3_iff.1 h1
  refine ⟨⟨pn, pm, by omega, by omega⟩, fun c3 => bad 1 (by simp [splE, h1, h2, show allU (passB h A M V) n = false by simpa using c3]) (by decide), fun c3 => ⟨⟨by omega, by omega, by omega⟩, ?_⟩⟩
  have h3 : allU (passB h A M V) n = true := by simpa using c3
  have hE0 : splE n A M V h = 0 := by simp [splE, h1, h2, h3]
  have hN : splN n A M V h = h.toNat := by simp [splN, hE0]
  have hK : splK n A M V h = kpF A M n := by simp [splK, hE0]
  have hp := allU_iff.1 h3
  rw [hE0, hN, hK]
  refine loop_of { i : Nat // i ≤ n } (fun i => [(9, .int .i64 (i.1 : Int)), (8, .int .i64 (kpF A M i.1)), (7, .vec 1 0), (0, .row n 2 (nestF 1 1 A M V))]) (fun i => ⟨[], [.live 0 3 1 0 fun _ _ => .any, .live 0 3 1 h.toNat fun a _ => .int .i64 (shrF A M V i.1 a)]⟩) (fun i => n - i.1) (fun _ => ⟨rfl, rfl⟩) ⟨0, by omega⟩ (by simp only [kpF, shrF]; (apply sub_of <;> simp only [go_sem, ↓reduceIte, Nat.reduceAdd, Nat.reduceSub, Nat.reduceMul, Nat.reduceEqDiff, Nat.reduceLT, Nat.reduceLeDiff, Int.reduceToNat, Int.reduceLE, Int.reduceLT, Int.reduceEq, Int.reduceNeg, reduceCtorEq] <;> (try simp [catF]) <;> (try exact fun j _ => Bd_nth (by simp [BdL, Bd]) j) <;> (try exact bd_setL (by simp [bdAs, BdL, Bd])) <;> (try exact nestF_bd _ _ _ _ _ _ _ _ _)); exact fun _ _ => rfl) ?_
  rintro ⟨i, hi⟩
  simp only [passes_eq, in_eq, p17_21, nestF_eq, nestR_lit, nsM_lit, nsV_lit, passB_ns, Try.f17, go_sem, ↓reduceIte, Nat.reduceAdd, Nat.reduceSub, Nat.reduceMul, Nat.reduceEqDiff, Nat.reduceLT, Nat.reduceLeDiff, Int.reduceToNat, Int.reduceLE, Int.reduceLT, Int.reduceEq, Int.reduceNeg, reduceCtorEq]
  have hw3 : IntKind.i64.wrap ((i : Int) + 1) = ((i + 1 : Nat) : Int) := by rw [wrap_id (by omega) (by omega)]; omega
  have hkb := kpF_bd hp i hi
  refine ⟨fun e1 => ?_, fun e1 => ?_⟩
  · simp only [decide_eq_true_eq] at e1
    have ik : i < n := by omega
    obtain ⟨pA, pM, pV⟩ := passB_iff.1 (hp i ik)
    have hshb := shrF_bd hp i (by omega)
    have hsvb := shV_bd (m := M i) (v := V i) pA
    have hk1 : M i = 0 → IntKind.i64.wrap (kpF A M i + A i 0) = kpF A M (i + 1) := fun h => by rw [wrap_id (by omega) (by omega)]; simp [kpF, h]
    have hk2 : M i ≠ 0 → kpF A M i = kpF A M (i + 1) := fun h => by simp [kpF, h]
    refine ⟨⟨by omega, by omega⟩, fun e2 => ?_, fun e2 => ?_⟩
    · rw [hk1 (by simp at e2; omega)]
      refine loop_of { k : Nat // k ≤ M i } (fun k => [(11, .int .i64 (k.1 : Int)), (10, .ptr 0 0), (9, .int .i64 (i : Int)), (8, .int .i64 (kpF A M (i + 1))), (7, .vec 1 0), (0, .row n 2 (nestF 1 1 A M V))])
        (fun k => ⟨[.live 53 [.int .i64 (A i 0), .row (M i) 1 fun a b => .int .i64 (V i a b)]], [.live 0 3 1 0 fun _ _ => .any, .live 0 3 1 h.toNat fun a _ => .int .i64 (shrF A M V i a + shV (A i 0) (M i) (V i) k.1 a), .live 0 3 1 0 fun _ _ => .any]⟩) (fun k => M i - k.1) (fun _ => ⟨rfl, rfl⟩) ⟨0, by omega⟩ (by simp only [shV, Int.add_zero]; (apply sub_of <;> simp only [go_sem, ↓reduceIte, Nat.reduceAdd, Nat.reduceSub, Nat.reduceMul, Nat.reduceEqDiff, Nat.reduceLT, Nat.reduceLeDiff, Int.reduceToNat, Int.reduceLE, Int.reduceLT, Int.reduceEq, Int.reduceNeg, reduceCtorEq] <;> (try simp [catF]) <;> (try exact fun j _ => Bd_nth (by simp [BdL, Bd]) j) <;> (try exact bd_setL (by simp [bdAs, BdL, Bd])) <;> (try exact nestF_bd _ _ _ _ _ _ _ _ _))) ?_
      rintro ⟨k, hk⟩
      simp only [passes_eq, in_eq, p17_21, nestF_eq, nestR_lit, nsM_lit, nsV_lit, passB_ns, Try.f17, go_sem, ↓reduceIte, Nat.reduceAdd, Nat.reduceSub, Nat.reduceMul, Nat.reduceEqDiff, Nat.reduceLT, Nat.reduceLeDiff, Int.reduceToNat, Int.reduceLE, Int.reduceLT, Int.reduceEq, Int.reduceNeg, reduceCtorEq]
      have hw4 : k < M i → IntKind.i64.wrap ((k : Int) + 1) = ((k + 1 : Nat) : Int) := fun _ => by rw [wrap_id (by omega) (by omega)]; omega
      have hq : A i 0 / (M i : Int) ≤ 1048577 ∧ 0 ≤ A i 0 / (M i : Int) := by have h1 := Int.ediv_nonneg pA.1 (show (0 : Int) ≤ (M i : Int) by omega); have h2 := Int.ediv_le_self (M i : Int) pA.1; omega
      rw [Int.tdiv_eq_ediv_of_nonneg pA.1, Int.tmod_eq_emod_of_nonneg pA.1]
      have v1 : IntKind.i64.wrap (A i 0 / (M i : Int)) = A i 0 / (M i : Int) := wrap_id (by omega) (by omega)
      have v2 : IntKind.i64.wrap (A i 0 / (M i : Int) + 1) = A i 0 / (M i : Int) + 1 := wrap_id (by omega) (by omega)
      simp only [v1, v2]
      have step : ∀ X : Int, k < M i → X = ptA (A i 0) (M i) k → (0 ≤ V i k 0 ∧ V i k 0 < (h.toNat : Int)) ∧ (V i k 0).toNat < h.toNat ∧ IntKind.i64.wrap (shrF A M V i (V i k 0).toNat + shV (A i 0) (M i) (V i) k (V i k 0).toNat + X) = shrF A M V i (V i k 0).toNat + shV (A i 0) (M i) (V i) k (V i k 0).toNat + X ∧
          ∀ a j, a < h.toNat → j < 1 → updF (fun a _ => .int .i64 (shrF A M V i a + shV (A i 0) (M i) (V i) k a)) (V i k 0).toNat 0 1 [.int .i64 (shrF A M V i (V i k 0).toNat + shV (A i 0) (M i) (V i) k (V i k 0).toNat + X)] a j = .int .i64 (shrF A M V i a + shV (A i 0) (M i) (V i) (k + 1) a) := by
        intro X hkM hX
        have hv := pV k hkM
        have hb1 := hshb (V i k 0).toNat
        have hb2 := hsvb k (V i k 0).toNat
        have hb3 := ptA_bd (m := M i) (k := k) pA
        rw [← hX] at hb3
        refine ⟨by omega, by omega, wrap_id (by omega) (by omega), fun a j ha hj => ?_⟩
        rw [sh_upd (S := fun a => shrF A M V i a + shV (A i 0) (M i) (V i) k a) (P := fun a => if V i k 0 = (a : Int) then ptA (A i 0) (M i) k else 0) (by simp only [hX]; rw [if_pos (by omega)]) (fun b hb => if_neg (by omega)) a j ha hj]
        simp only [shV, Int.add_assoc]
      refine ⟨fun e3 => ⟨by simp at e3; omega, by simp at e3; omega, fun e4 => ?_, fun e4 => ?_⟩, fun e3 => ?_⟩
      · simp only [decide_eq_true_eq] at e3 e4
        obtain ⟨s1, s2, s3, s4⟩ := step (A i 0 / (M i : Int) + 1) (by omega) (by simp only [ptA, if_pos e4])
        refine ⟨⟨by kernel_rfl, by kernel_rfl⟩, ⟨by omega, by omega⟩, ⟨by omega, by omega⟩, s1, s2, s1, s2, ⟨k + 1, by omega⟩, by simp only []; omega, ?_⟩
        apply sub_of <;> simp only [hw4 (by omega), s3, go_sem, ↓reduceIte, Nat.reduceAdd, Nat.reduceSub, Nat.reduceMul, Nat.reduceEqDiff, Nat.reduceLT, Nat.reduceLeDiff, Int.reduceToNat, Int.reduceLE, Int.reduceLT, Int.reduceEq, Int.reduceNeg, reduceCtorEq] <;> (try simp) <;> (try exact fun j _ => Bd_nth (by simp [BdL, Bd]) j) <;> (try exact bd_setL (by simp [bdAs, BdL, Bd])) <;> (try exact nestF_bd _ _ _ _ _ _ _ _ _)
        exact fun a ha => by simpa [updF] using s4 a 0 (by omega) (by omega)
      · simp only [decide_eq_true_eq, decide_eq_false_iff_not] at e3 e4
        obtain ⟨s1, s2, s3, s4⟩ := step (A i 0 / (M i : Int)) (by omega) (by simp only [ptA, if_neg e4, Int.add_zero])
        refine ⟨⟨by kernel_rfl, by kernel_rfl⟩, ⟨by omega, by omega⟩, ⟨by omega, by omega⟩, s1, s2, s1, s2, ⟨k + 1, by omega⟩, by simp only []; omega, ?_⟩
        apply sub_of <;> simp only [hw4 (by omega), s3, go_sem, ↓reduceIte, Nat.reduceAdd, Nat.reduceSub, Nat.reduceMul, Nat.reduceEqDiff, Nat.reduceLT, Nat.reduceLeDiff, Int.reduceToNat, Int.reduceLE, Int.reduceLT, Int.reduceEq, Int.reduceNeg, reduceCtorEq] <;> (try simp) <;> (try exact fun j _ => Bd_nth (by simp [BdL, Bd]) j) <;> (try exact bd_setL (by simp [bdAs, BdL, Bd])) <;> (try exact nestF_bd _ _ _ _ _ _ _ _ _)
        exact fun a ha => by simpa [updF] using s4 a 0 (by omega) (by omega)
      · simp only [decide_eq_false_iff_not] at e3
        obtain rfl : k = M i := by omega
        refine ⟨⟨i + 1, by omega⟩, by simp only []; omega, ?_⟩
        apply sub_of <;> simp only [hw3, shrF, go_sem, ↓reduceIte, Nat.reduceAdd, Nat.reduceSub, Nat.reduceMul, Nat.reduceEqDiff, Nat.reduceLT, Nat.reduceLeDiff, Int.reduceToNat, Int.reduceLE, Int.reduceLT, Int.reduceEq, Int.reduceNeg, reduceCtorEq] <;> (try simp) <;> (try exact fun j _ => Bd_nth (by simp [BdL, Bd]) j) <;> (try exact bd_setL (by simp [bdAs, BdL, Bd])) <;> (try exact nestF_bd _ _ _ _ _ _ _ _ _)
    · rw [hk2 (by simp at e2; omega)]
      refine loop_of { k : Nat // k ≤ M i } (fun k => [(11, .int .i64 (k.1 : Int)), (10, .ptr 0 0), (9, .int .i64 (i : Int)), (8, .int .i64 (kpF A M (i + 1))), (7, .vec 1 0), (0, .row n 2 (nestF 1 1 A M V))])
        (fun k => ⟨[.live 53 [.int .i64 (A i 0), .row (M i) 1 fun a b => .int .i64 (V i a b)]], [.live 0 3 1 0 fun _ _ => .any, .live 0 3 1 h.toNat fun a _ => .int .i64 (shrF A M V i a + shV (A i 0) (M i) (V i) k.1 a), .live 0 3 1 0 fun _ _ => .any]⟩) (fun k => M i - k.1) (fun _ => ⟨rfl, rfl⟩) ⟨0, by omega⟩ (by simp only [shV, Int.add_zero]; (apply sub_of <;> simp only [go_sem, ↓reduceIte, Nat.reduceAdd, Nat.reduceSub, Nat.reduceMul, Nat.reduceEqDiff, Nat.reduceLT, Nat.reduceLeDiff, Int.reduceToNat, Int.reduceLE, Int.reduceLT, Int.reduceEq, Int.reduceNeg, reduceCtorEq] <;> (try simp [catF]) <;> (try exact fun j _ => Bd_nth (by simp [BdL, Bd]) j) <;> (try exact bd_setL (by simp [bdAs, BdL, Bd])) <;> (try exact nestF_bd _ _ _ _ _ _ _ _ _))) ?_
      rintro ⟨k, hk⟩
      simp only [passes_eq, in_eq, p17_21, nestF_eq, nestR_lit, nsM_lit, nsV_lit, passB_ns, Try.f17, go_sem, ↓reduceIte, Nat.reduceAdd, Nat.reduceSub, Nat.reduceMul, Nat.reduceEqDiff, Nat.reduceLT, Nat.reduceLeDiff, Int.reduceToNat, Int.reduceLE, Int.reduceLT, Int.reduceEq, Int.reduceNeg, reduceCtorEq]
      have hw4 : k < M i → IntKind.i64.wrap ((k : Int) + 1) = ((k + 1 : Nat) : Int) := fun _ => by rw [wrap_id (by omega) (by omega)]; omega
      have hq : A i 0 / (M i : Int) ≤ 1048577 ∧ 0 ≤ A i 0 / (M i : Int) := by have h1 := Int.ediv_nonneg pA.1 (show (0 : Int) ≤ (M i : Int) by omega); have h2 := Int.ediv_le_self (M i : Int) pA.1; omega
      rw [Int.tdiv_eq_ediv_of_nonneg pA.1, Int.tmod_eq_emod_of_nonneg pA.1]
      have v1 : IntKind.i64.wrap (A i 0 / (M i : Int)) = A i 0 / (M i : Int) := wrap_id (by omega) (by omega)
      have v2 : IntKind.i64.wrap (A i 0 / (M i : Int) + 1) = A i 0 / (M i : Int) + 1 := wrap_id (by omega) (by omega)
      simp only [v1, v2]
      have step : ∀ X : Int, k < M i → X = ptA (A i 0) (M i) k → (0 ≤ V i k 0 ∧ V i k 0 < (h.toNat : Int)) ∧ (V i k 0).toNat < h.toNat ∧ IntKind.i64.wrap (shrF A M V i (V i k 0).toNat + shV (A i 0) (M i) (V i) k (V i k 0).toNat + X) = shrF A M V i (V i k 0).toNat + shV (A i 0) (M i) (V i) k (V i k 0).toNat + X ∧
          ∀ a j, a < h.toNat → j < 1 → updF (fun a _ => .int .i64 (shrF A M V i a + shV (A i 0) (M i) (V i) k a)) (V i k 0).toNat 0 1 [.int .i64 (shrF A M V i (V i k 0).toNat + shV (A i 0) (M i) (V i) k (V i k 0).toNat + X)] a j = .int .i64 (shrF A M V i a + shV (A i 0) (M i) (V i) (k + 1) a) := by
        intro X hkM hX
        have hv := pV k hkM
        have hb1 := hshb (V i k 0).toNat
        have hb2 := hsvb k (V i k 0).toNat
        have hb3 := ptA_bd (m := M i) (k := k) pA
        rw [← hX] at hb3
        refine ⟨by omega, by omega, wrap_id (by omega) (by omega), fun a j ha hj => ?_⟩
        rw [sh_upd (S := fun a => shrF A M V i a + shV (A i 0) (M i) (V i) k a) (P := fun a => if V i k 0 = (a : Int) then ptA (A i 0) (M i) k else 0) (by simp only [hX]; rw [if_pos (by omega)]) (fun b hb => if_neg (by omega)) a j ha hj]
        simp only [shV, Int.add_assoc]
      refine ⟨fun e3 => ⟨by simp at e3; omega, by simp at e3; omega, fun e4 => ?_, fun e4 => ?_⟩, fun e3 => ?_⟩
      · simp only [decide_eq_true_eq] at e3 e4
        obtain ⟨s1, s2, s3, s4⟩ := step (A i 0 / (M i : Int) + 1) (by omega) (by simp only [ptA, if_pos e4])
        refine ⟨⟨by kernel_rfl, by kernel_rfl⟩, ⟨by omega, by omega⟩, ⟨by omega, by omega⟩, s1, s2, s1, s2, ⟨k + 1, by omega⟩, by simp only []; omega, ?_⟩
        apply sub_of <;> simp only [hw4 (by omega), s3, go_sem, ↓reduceIte, Nat.reduceAdd, Nat.reduceSub, Nat.reduceMul, Nat.reduceEqDiff, Nat.reduceLT, Nat.reduceLeDiff, Int.reduceToNat, Int.reduceLE, Int.reduceLT, Int.reduceEq, Int.reduceNeg, reduceCtorEq] <;> (try simp) <;> (try exact fun j _ => Bd_nth (by simp [BdL, Bd]) j) <;> (try exact bd_setL (by simp [bdAs, BdL, Bd])) <;> (try exact nestF_bd _ _ _ _ _ _ _ _ _)
        exact fun a ha => by simpa [updF] using s4 a 0 (by omega) (by omega)
      · simp only [decide_eq_true_eq, decide_eq_false_iff_not] at e3 e4
        obtain ⟨s1, s2, s3, s4⟩ := step (A i 0 / (M i : Int)) (by omega) (by simp only [ptA, if_neg e4, Int.add_zero])
        refine ⟨⟨by kernel_rfl, by kernel_rfl⟩, ⟨by omega, by omega⟩, ⟨by omega, by omega⟩, s1, s2, s1, s2, ⟨k + 1, by omega⟩, by simp only []; omega, ?_⟩
        apply sub_of <;> simp only [hw4 (by omega), s3, go_sem, ↓reduceIte, Nat.reduceAdd, Nat.reduceSub, Nat.reduceMul, Nat.reduceEqDiff, Nat.reduceLT, Nat.reduceLeDiff, Int.reduceToNat, Int.reduceLE, Int.reduceLT, Int.reduceEq, Int.reduceNeg, reduceCtorEq] <;> (try simp) <;> (try exact fun j _ => Bd_nth (by simp [BdL, Bd]) j) <;> (try exact bd_setL (by simp [bdAs, BdL, Bd])) <;> (try exact nestF_bd _ _ _ _ _ _ _ _ _)
        exact fun a ha => by simpa [updF] using s4 a 0 (by omega) (by omega)
      · simp only [decide_eq_false_iff_not] at e3
        obtain rfl : k = M i := by omega
        refine ⟨⟨i + 1, by omega⟩, by simp only []; omega, ?_⟩
        apply sub_of <;> simp only [hw3, shrF, go_sem, ↓reduceIte, Nat.reduceAdd, Nat.reduceSub, Nat.reduceMul, Nat.reduceEqDiff, Nat.reduceLT, Nat.reduceLeDiff, Int.reduceToNat, Int.reduceLE, Int.reduceLT, Int.reduceEq, Int.reduceNeg, reduceCtorEq] <;> (try simp) <;> (try exact fun j _ => Bd_nth (by simp [BdL, Bd]) j) <;> (try exact bd_setL (by simp [bdAs, BdL, Bd])) <;> (try exact nestF_bd _ _ _ _ _ _ _ _ _)
  · simp only [decide_eq_false_iff_not] at e1
    obtain rfl : i = n := by omega
    exact ⟨fun _ _ _ _ => rfl, rfl⟩
end Go.Eng
end

/- money: the program's way to share. -/
section
namespace Go.Eng
open Go Go.RowKit Go.Proofs
set_option maxRecDepth 100000
set_option maxHeartbeats 4000000
attribute [local irreducible] OwnT DefS
theorem pt_eq {P : Int} {m k : Nat} (hP : 0 ≤ P) (hk : k < m) : (P + (m : Int) - 1 - (k : Int)) / (m : Int) = ptA P m k := by
  have hm : (0 : Int) < (m : Int) := by omega
  have h1 := Int.emod_add_mul_ediv P m
  have h2 := Int.emod_nonneg P (show (m : Int) ≠ 0 by omega)
  have h3 := Int.emod_lt_of_pos P hm
  unfold ptA
  have e : P + (m : Int) - 1 - k = (P % m + ((m : Int) - 1 - k)) + m * (P / m) := by omega
  rw [e, Int.add_mul_ediv_left _ _ (by omega)]
  split
  · rw [show (P % m + ((m : Int) - 1 - k)) = (P % m - 1 - k) + m * 1 by omega, Int.add_mul_ediv_left _ _ (by omega), Int.ediv_eq_zero_of_lt (by omega) (by omega)]
    omega
  · rw [Int.ediv_eq_zero_of_lt (by omega) (by omega)]
    omega
/-- What the first k visits get. -/
def smP (P : Int) (m : Nat) : Nat → Int
  | 0 => 0
  | k + 1 => smP P m k + ptA P m k
theorem smP_eq (P : Int) (m : Nat) : ∀ k, smP P m k = k * (P / m) + min (k : Int) (max 0 (P % m))
  | 0 => by simp [smP]; omega
  | k + 1 => by
    simp only [smP, smP_eq P m k, ptA]
    rw [show ((k + 1 : Nat) : Int) * (P / m) = k * (P / m) + P / m by rw [Int.natCast_add, Int.add_mul]; simp]
    split <;> omega
theorem smP_all {P : Int} {m : Nat} (hP : 0 ≤ P) (hm : 0 < m) : smP P m m = P := by
  rw [smP_eq]
  have h1 := Int.emod_add_mul_ediv P m
  have h2 := Int.emod_nonneg P (show (m : Int) ≠ 0 by omega)
  have h3 := Int.emod_lt_of_pos P (show (0 : Int) < (m : Int) by omega)
  omega
def splitBase : BaseF := fun args => match args with
  | [.row n sz_A f_A, .int .i64 h] => some ((sz_A = 2 ∧ NestR n 2 1 1 f_A) ∧ (n ≤ 1000000 ∧ (∀ i, i < n → (nsM 1 f_A) i ≤ 1000000)), .tup [.row (splN n (nsA f_A) (nsM 1 f_A) (nsV 1 f_A) h) 1 (fun i _ => .int .i64 (shrF (nsA f_A) (nsM 1 f_A) (nsV 1 f_A) n i)), .int .i64 (splK n (nsA f_A) (nsM 1 f_A) (nsV 1 f_A) h), .int .i64 (splE n (nsA f_A) (nsM 1 f_A) (nsV 1 f_A) h)])
  | _ => none
theorem split_eq (n : Nat) (sz_A : Nat) (f_A : Nat → Nat → SV) (h : Int) : splitBase [.row n sz_A f_A, .int .i64 h] = some ((sz_A = 2 ∧ NestR n 2 1 1 f_A) ∧ (n ≤ 1000000 ∧ (∀ i, i < n → (nsM 1 f_A) i ≤ 1000000)), .tup [.row (splN n (nsA f_A) (nsM 1 f_A) (nsV 1 f_A) h) 1 (fun i _ => .int .i64 (shrF (nsA f_A) (nsM 1 f_A) (nsV 1 f_A) n i)), .int .i64 (splK n (nsA f_A) (nsM 1 f_A) (nsV 1 f_A) h), .int .i64 (splE n (nsA f_A) (nsM 1 f_A) (nsV 1 f_A) h)]) := rfl
theorem split_base : Base Try.prog 16 splitBase := by
  intro args p v hq hp
  unfold splitBase at hq
  split at hq
  rotate_left
  · cases hq
  rename_i n sz_A f_A h
  cases hq
  obtain ⟨⟨rfl, i_A⟩, pre⟩ := hp
  refine baseF_of (C := cx [] [] [(42, withinBase)] [(16, 20, p16_20)] none) (cx_ok trivial ⟨within_base, trivial⟩) rfl (g := 16) (fn := Try.f16)
    (args' := [.row n 2 (nestF 1 1 (nsA f_A) (nsM 1 f_A) (nsV 1 f_A)), .int .i64 h]) (fn_16) rfl 1000 (by
    simp only [BdL, Bd, and_self, and_true, true_and]
    exact (fun i j hi hj => nest_bd i_A i j hi hj)) ⟨SameD.nest i_A, SameD.rfl' _, trivial⟩ ?_
  generalize nsA f_A = A at *
  generalize nsM 1 f_A = M at *
  generalize nsV 1 f_A = V at *
  simp only [within_eq, p16_20, nestF_eq, Try.f45, Try.f61, Try.f70, Try.f62, Try.f43, Try.f44, Try.f59, Try.f69, Try.f60, Try.f41, Try.f46, Try.f63, Try.f16, go_sem, ↓reduceIte, Nat.reduceAdd, Nat.reduceSub, Nat.reduceMul, Nat.reduceEqDiff, Nat.reduceLT, Nat.reduceLeDiff, Int.reduceToNat, Int.reduceLE, Int.reduceLT, Int.reduceEq, Int.reduceNeg, reduceCtorEq]
  obtain ⟨pn, pm⟩ := pre
  have bad : ∀ e, splE n A M V h = e → e ≠ 0 → ((0 = splN n A M V h ∧ ∀ (i j : Nat), i < splN n A M V h → j < 1 → False) ∧ SV.int .i64 0 = .int .i64 (splK n A M V h) ∧ SV.int .i64 e = .int .i64 (splE n A M V h)) := fun e he h0 => by
    have h1 : splN n A M V h = 0 := by simp [splN, he, h0]
    have h2 : splK n A M V h = 0 := by simp [splK, he, h0]
    rw [h1, h2, he]
    exact ⟨⟨rfl, fun i j hi => by omega⟩, rfl, rfl⟩
  refine ⟨fun c1 => bad 2 (by simp [splE, show in3 h 0 16 = false by simpa using c1]) (by decide), fun c1 => ⟨fun c2 => bad 3 ?_ (by decide), fun c2 => ⟨fun c3 => ?_, fun c3 => ?_⟩⟩⟩
  · have h1 : in3 h 0 16 = true := by simpa using c1
    have h2 : ¬ n ≤ 64 := by simp at c2; omega
    simp [splE, h1, h2]
  rotate_left
  · simp at c2 c3; omega
  have h1 : in3 h 0 16 = true := by simpa using c1
  have h2 : n ≤ 64 := by simp at c2; omega
  have hh := in3_iff.1 h1
  refine loop_of { i : Nat // i ≤ n ∧ ∀ j, j < i → passB h A M V j = true } (fun i => [(8, .int .i64 (i.1 : Int)), (7, .int .i64 (n : Int)), (1, .func 62 [.ptr 4 0]), (0, .row n 2 (nestF 1 1 A M V))]) (fun _ => ⟨[.live 3 [.int .i64 h], .live 25 [.vec 0 0], .live 3 [.int .i64 0], .live 73 [.func 41 [.ptr 0 0]], .live 87 [.func 43 [.ptr 3 0]]], [.live 0 3 1 0 fun _ _ => .any]⟩) (fun i => n - i.1) (fun _ => ⟨rfl, rfl⟩) ⟨0, by omega, by omega⟩ (by (apply sub_of <;> simp only [go_sem, ↓reduceIte, Nat.reduceAdd, Nat.reduceSub, Nat.reduceMul, Nat.reduceEqDiff, Nat.reduceLT, Nat.reduceLeDiff, Int.reduceToNat, Int.reduceLE, Int.reduceLT, Int.reduceEq, Int.reduceNeg, reduceCtorEq] <;> (try simp [catF]) <;> (try exact fun j _ => Bd_nth (by simp [BdL, Bd]) j) <;> (try exact bd_setL (by simp [bdAs, BdL, Bd])) <;> (try exact nestF_bd _ _ _ _ _ _ _ _ _))) ?_
  rintro ⟨i, hi, h3⟩
  simp only [within_eq, p16_20, nestF_eq, Try.f45, Try.f61, Try.f70, Try.f62, Try.f43, Try.f44, Try.f59, Try.f69, Try.f60, Try.f41, Try.f46, Try.f63, Try.f16, go_sem, ↓reduceIte, Nat.reduceAdd, Nat.reduceSub, Nat.reduceMul, Nat.reduceEqDiff, Nat.reduceLT, Nat.reduceLeDiff, Int.reduceToNat, Int.reduceLE, Int.reduceLT, Int.reduceEq, Int.reduceNeg, reduceCtorEq]
  have hw3 : IntKind.i64.wrap ((i : Int) + 1) = ((i + 1 : Nat) : Int) := by rw [wrap_id (by omega) (by omega)]; omega
  have h0 : (0 : Int) ≤ (i : Int) := by omega
  have hE1 : i < n → passB h A M V i = false → splE n A M V h = 1 := fun hi hh => by simp [splE, h1, h2, allU_false hi hh]
  refine ⟨fun e1 => ?_, fun e1 => ?_⟩
  · simp only [decide_eq_true_eq] at e1
    have ik : i < n := by omega
    have hM6 := pm i ik
    refine ⟨⟨by omega, by omega⟩, fun e2 => ⟨fun e3 => ?_, fun e3 => ⟨fun _ => bad 1 (hE1 ik ?_) (by decide), fun e4 => ?_⟩⟩, fun e2 => ⟨fun _ => bad 1 (hE1 ik ?_) (by decide), fun e4 => ?_⟩⟩
    rotate_left
    · simp only [decide_eq_false_iff_not] at e3
      simp [passB, show ¬ M i ≤ 128 by omega]
    · simp [h0] at e4
    · simp [passB, e2]
    · simp [h0] at e4
    simp only [decide_eq_true_eq] at e3
    have hM : M i ≤ 128 := by omega
    refine loop_of { k : Nat // k ≤ M i ∧ ∀ j, j < k → (fun k => in3 (V i k 0) 0 (h - 1)) j = true } (fun k => [(8, .int .i64 (k.1 : Int)), (7, .int .i64 (M i : Int)), (1, .func 60 [.ptr 7 0]), (0, .row (M i) 1 fun a b => .int .i64 (V i a b))])
      (fun _ => ⟨[.live 3 [.int .i64 h], .live 25 [.vec 0 0], .live 3 [.int .i64 0], .live 73 [.func 41 [.ptr 0 0]], .live 87 [.func 43 [.ptr 3 0]], .live 53 [.int .i64 (A i 0), .row (M i) 1 fun a b => .int .i64 (V i a b)], .live 53 [.int .i64 (A i 0), .row (M i) 1 fun a b => .int .i64 (V i a b)], .live 73 [.func 41 [.ptr 0 0]]], [.live 0 3 1 0 fun _ _ => .any]⟩) (fun k => M i - k.1) (fun _ => ⟨rfl, rfl⟩) ⟨0, by omega, by omega⟩ (by (apply sub_of <;> simp only [go_sem, ↓reduceIte, Nat.reduceAdd, Nat.reduceSub, Nat.reduceMul, Nat.reduceEqDiff, Nat.reduceLT, Nat.reduceLeDiff, Int.reduceToNat, Int.reduceLE, Int.reduceLT, Int.reduceEq, Int.reduceNeg, reduceCtorEq] <;> (try simp [catF]) <;> (try exact fun j _ => Bd_nth (by simp [BdL, Bd]) j) <;> (try exact bd_setL (by simp [bdAs, BdL, Bd])) <;> (try exact nestF_bd _ _ _ _ _ _ _ _ _))) ?_
    rintro ⟨k, hk, h4⟩
    simp only [within_eq, p16_20, nestF_eq, Try.f45, Try.f61, Try.f70, Try.f62, Try.f43, Try.f44, Try.f59, Try.f69, Try.f60, Try.f41, Try.f46, Try.f63, Try.f16, go_sem, ↓reduceIte, Nat.reduceAdd, Nat.reduceSub, Nat.reduceMul, Nat.reduceEqDiff, Nat.reduceLT, Nat.reduceLeDiff, Int.reduceToNat, Int.reduceLE, Int.reduceLT, Int.reduceEq, Int.reduceNeg, reduceCtorEq]
    have hw4 : IntKind.i64.wrap ((k : Int) + 1) = ((k + 1 : Nat) : Int) := by rw [wrap_id (by omega) (by omega)]; omega
    have hk0 : (0 : Int) ≤ (k : Int) := by omega
    have hwh : IntKind.i64.wrap (h - 1) = h - 1 := wrap_id (by omega) (by omega)
    rw [hwh]
    have hM1 : passB h A M V i = false → splE n A M V h = 1 := hE1 ik
    refine ⟨fun e4 => ⟨⟨by omega, by simp at e4; omega⟩, fun e5 => ⟨fun _ => ⟨fun _ => bad 1 (hE1 ik ?_) (by decide), fun e6 => ?_⟩, fun e6 => ?_⟩, fun e5 => ?_⟩, fun e4 => ?_⟩
    · simp only [decide_eq_true_eq] at e4
      simp only [passB]
      rw [allU_false (p := fun k => in3 (V i k 0) 0 (h - 1)) (i := k) (by omega) (by simpa using e5)]
      simp
    · simp [h0] at e6
    · simp [hk0] at e6
    · simp only [decide_eq_true_eq, Bool.not_eq_false'] at e4 e5
      refine ⟨⟨k + 1, by omega, below h4 e5⟩, by simp only []; omega, ?_⟩
      apply sub_of <;> simp only [hw4, go_sem, ↓reduceIte, Nat.reduceAdd, Nat.reduceSub, Nat.reduceMul, Nat.reduceEqDiff, Nat.reduceLT, Nat.reduceLeDiff, Int.reduceToNat, Int.reduceLE, Int.reduceLT, Int.reduceEq, Int.reduceNeg, reduceCtorEq] <;> (try simp) <;> (try exact fun j _ => Bd_nth (by simp [BdL, Bd]) j) <;> (try exact bd_setL (by simp [bdAs, BdL, Bd])) <;> (try exact nestF_bd _ _ _ _ _ _ _ _ _)
    · simp only [decide_eq_false_iff_not] at e4
      obtain rfl : k = M i := by omega
      refine ⟨⟨i + 1, by omega, below h3 (by simp only [passB, e2, decide_eq_true hM, allU_true h4, Bool.and_self])⟩, by simp only []; omega, ?_⟩
      apply sub_of <;> simp only [hw3, go_sem, ↓reduceIte, Nat.reduceAdd, Nat.reduceSub, Nat.reduceMul, Nat.reduceEqDiff, Nat.reduceLT, Nat.reduceLeDiff, Int.reduceToNat, Int.reduceLE, Int.reduceLT, Int.reduceEq, Int.reduceNeg, reduceCtorEq] <;> (try simp) <;> (try exact fun j _ => Bd_nth (by simp [BdL, Bd]) j) <;> (try exact bd_setL (by simp [bdAs, BdL, Bd])) <;> (try exact nestF_bd _ _ _ _ _ _ _ _ _)
  · simp only [decide_eq_false_iff_not] at e1
    obtain rfl : i = n := by omega
    have hE0 : splE i A M V h = 0 := by simp [splE, h1, h2, allU_true h3]
    have hN : splN i A M V h = h.toNat := by simp [splN, hE0]
    have hK : splK i A M V h = kpF A M i := by simp [splK, hE0]
    rw [hE0, hN, hK]
    have hp := h3
    generalize hin : i = n at *
    clear hin
    refine ⟨by omega, ?_⟩
    refine loop_of { q : Nat // q ≤ n } (fun q => [(32, .int .i64 (q.1 : Int)), (31, .int .i64 (n : Int)), (30, .row n 2 (nestF 1 1 A M V)), (5, .ptr 2 0), (4, .ptr 1 0)])
      (fun q => ⟨[.live 3 [.int .i64 h], .live 25 [.vec 1 0], .live 3 [.int .i64 (kpF A M q.1)], .live 73 [.func 41 [.ptr 0 0]], .live 87 [.func 43 [.ptr 3 0]]], [.live 0 3 1 0 fun _ _ => .any, .live 0 3 1 h.toNat fun a _ => .int .i64 (shrF A M V q.1 a)]⟩) (fun q => n - q.1) (fun _ => ⟨rfl, rfl⟩) ⟨0, by omega⟩ (by simp only [kpF, shrF]; (apply sub_of <;> simp only [go_sem, ↓reduceIte, Nat.reduceAdd, Nat.reduceSub, Nat.reduceMul, Nat.reduceEqDiff, Nat.reduceLT, Nat.reduceLeDiff, Int.reduceToNat, Int.reduceLE, Int.reduceLT, Int.reduceEq, Int.reduceNeg, reduceCtorEq] <;> (try simp [catF]) <;> (try exact fun j _ => Bd_nth (by simp [BdL, Bd]) j) <;> (try exact bd_setL (by simp [bdAs, BdL, Bd])) <;> (try exact nestF_bd _ _ _ _ _ _ _ _ _)); exact fun _ _ => rfl) ?_
    rintro ⟨q, hq⟩
    simp only [within_eq, p16_20, nestF_eq, Try.f45, Try.f61, Try.f70, Try.f62, Try.f43, Try.f44, Try.f59, Try.f69, Try.f60, Try.f41, Try.f46, Try.f63, Try.f16, go_sem, ↓reduceIte, Nat.reduceAdd, Nat.reduceSub, Nat.reduceMul, Nat.reduceEqDiff, Nat.reduceLT, Nat.reduceLeDiff, Int.reduceToNat, Int.reduceLE, Int.reduceLT, Int.reduceEq, Int.reduceNeg, reduceCtorEq]
    have hw5 : IntKind.i64.wrap ((q : Int) + 1) = ((q + 1 : Nat) : Int) := by rw [wrap_id (by omega) (by omega)]; omega
    have hkb := kpF_bd hp q hq
    refine ⟨fun e1 => ?_, fun e1 => ?_⟩
    · simp only [decide_eq_true_eq] at e1
      have ik : q < n := by omega
      obtain ⟨pA, pM, pV⟩ := passB_iff.1 (hp q ik)
      have hshb := shrF_bd hp q (by omega)
      have hsvb := shV_bd (m := M q) (v := V q) pA
      have w1 : IntKind.i64.wrap (kpF A M q + A q 0) = kpF A M q + A q 0 := wrap_id (by omega) (by omega)
      have hsm : ∀ k, 0 ≤ smP (A q 0) (M q) k ∧ smP (A q 0) (M q) k ≤ k * 1048577 := fun k => by
        induction k with
        | zero => simp [smP]
        | succ k ih => have := ptA_bd (m := M q) (k := k) pA; simp only [smP]; omega
      rw [w1]
      refine ⟨⟨by omega, by omega⟩, ?_⟩
      refine loop_ofH { k : Nat // k ≤ M q } (fun k => [(12, .int .i64 (k.1 : Int)), (11, .int .i64 (M q : Int)), (10, .row (M q) 1 fun a b => .int .i64 (V q a b)), (3, .int .i64 (M q : Int)), (1, .ptr 6 0), (0, .yield 7)])
        (fun hh k => ⟨[.live 3 [.int .i64 h], .live 25 [.vec 1 0], .live 3 [.int .i64 (kpF A M q + A q 0 - smP (A q 0) (M q) k.1)], .live 73 [.func 41 [.ptr 0 0]], .live 87 [.func 43 [.ptr 3 0]], .live 53 [.int .i64 (A q 0), .row (M q) 1 fun a b => .int .i64 (V q a b)], .live 53 [.int .i64 (A q 0), .row (M q) 1 fun a b => .int .i64 (V q a b)], getB hh.blks 7], [.live 0 3 1 0 fun _ _ => .any, .live 0 3 1 h.toNat fun a _ => .int .i64 (shrF A M V q a + shV (A q 0) (M q) (V q) k.1 a), getV hh.vecs 2]⟩) (fun k => M q - k.1) (fun _ => ⟨rfl, rfl⟩) ⟨0, by omega⟩ (by apply sub_of <;> simp only [smP, shV, Int.add_zero, Int.sub_zero, go_sem, ↓reduceIte, Nat.reduceAdd, Nat.reduceSub, Nat.reduceMul, Nat.reduceEqDiff, Nat.reduceLT, Nat.reduceLeDiff, Int.reduceToNat, Int.reduceLE, Int.reduceLT, Int.reduceEq, Int.reduceNeg, reduceCtorEq] <;> (try simp) <;> (try (refine bd_setL ?_; simp only [go_sem, ↓reduceIte, Nat.reduceAdd, Nat.reduceSub, Nat.reduceMul, Nat.reduceEqDiff, Nat.reduceLT, Nat.reduceLeDiff, Int.reduceToNat, Int.reduceLE, Int.reduceLT, Int.reduceEq, Int.reduceNeg, reduceCtorEq]; try simp)) <;> (try exact ⟨fun j _ => nestF_bd1 _ _ _ _ _ _ _ _ j, nestF_bd _ _ _ _ _ _ _ _ _⟩)) ?_
      rintro ⟨k, hk⟩
      simp only [within_eq, p16_20, nestF_eq, Try.f45, Try.f61, Try.f70, Try.f62, Try.f43, Try.f44, Try.f59, Try.f69, Try.f60, Try.f41, Try.f46, Try.f63, Try.f16, go_sem, ↓reduceIte, Nat.reduceAdd, Nat.reduceSub, Nat.reduceMul, Nat.reduceEqDiff, Nat.reduceLT, Nat.reduceLeDiff, Int.reduceToNat, Int.reduceLE, Int.reduceLT, Int.reduceEq, Int.reduceNeg, reduceCtorEq]
      have hw4 : k < M q → IntKind.i64.wrap ((k : Int) + 1) = ((k + 1 : Nat) : Int) := fun _ => by rw [wrap_id (by omega) (by omega)]; omega
      have hsk := hsm k
      refine ⟨fun e3 => ?_, fun e3 => ?_⟩
      · simp only [decide_eq_true_eq] at e3
        have hkM : k < M q := by omega
        have a1 : IntKind.i64.wrap (A q 0 + (M q : Int)) = A q 0 + (M q : Int) := wrap_id (by omega) (by omega)
        have a2 : IntKind.i64.wrap (A q 0 + (M q : Int) - 1) = A q 0 + (M q : Int) - 1 := wrap_id (by omega) (by omega)
        have a3 : IntKind.i64.wrap (A q 0 + (M q : Int) - 1 - (k : Int)) = A q 0 + (M q : Int) - 1 - (k : Int) := wrap_id (by omega) (by omega)
        have a4 : (A q 0 + (M q : Int) - 1 - (k : Int)).tdiv (M q : Int) = ptA (A q 0) (M q) k := by rw [Int.tdiv_eq_ediv_of_nonneg (by omega), pt_eq pA.1 hkM]
        have hb3 := ptA_bd (m := M q) (k := k) pA
        have a5 : IntKind.i64.wrap (ptA (A q 0) (M q) k) = ptA (A q 0) (M q) k := wrap_id (by omega) (by omega)
        have a6 : IntKind.i64.wrap (kpF A M q + A q 0 - smP (A q 0) (M q) k - ptA (A q 0) (M q) k) = kpF A M q + A q 0 - smP (A q 0) (M q) (k + 1) := by rw [wrap_id (by omega) (by omega)]; simp only [smP]; omega
        have hv := pV k hkM
        have hb1 := hshb (V q k 0).toNat
        have hb2 := hsvb k (V q k 0).toNat
        have a7 : IntKind.i64.wrap (shrF A M V q (V q k 0).toNat + shV (A q 0) (M q) (V q) k (V q k 0).toNat + ptA (A q 0) (M q) k) = shrF A M V q (V q k 0).toNat + shV (A q 0) (M q) (V q) k (V q k 0).toNat + ptA (A q 0) (M q) k := wrap_id (by omega) (by omega)
        have hu := sh_upd (m := h.toNat) (b := (V q k 0).toNat) (X := shrF A M V q (V q k 0).toNat + shV (A q 0) (M q) (V q) k (V q k 0).toNat + ptA (A q 0) (M q) k) (S := fun a => shrF A M V q a + shV (A q 0) (M q) (V q) k a) (P := fun a => if V q k 0 = (a : Int) then ptA (A q 0) (M q) k else 0) (by rw [if_pos (by omega)]) (fun b hb => if_neg (by omega))
        refine ⟨⟨by omega, by omega⟩, by omega, ⟨by omega, by omega⟩, by omega, ⟨by omega, by omega⟩, by omega, ⟨k + 1, by omega⟩, by simp only []; omega, ?_⟩
        apply sub_of <;> simp only [hw4 hkM, a1, a2, a3, a4, a5, a6, a7, go_sem, ↓reduceIte, Nat.reduceAdd, Nat.reduceSub, Nat.reduceMul, Nat.reduceEqDiff, Nat.reduceLT, Nat.reduceLeDiff, Int.reduceToNat, Int.reduceLE, Int.reduceLT, Int.reduceEq, Int.reduceNeg, reduceCtorEq] <;> (try simp) <;> (try (refine bd_setL ?_; simp only [go_sem, ↓reduceIte, Nat.reduceAdd, Nat.reduceSub, Nat.reduceMul, Nat.reduceEqDiff, Nat.reduceLT, Nat.reduceLeDiff, Int.reduceToNat, Int.reduceLE, Int.reduceLT, Int.reduceEq, Int.reduceNeg, reduceCtorEq]; try simp)) <;> (try exact ⟨fun j _ => nestF_bd1 _ _ _ _ _ _ _ _ j, nestF_bd _ _ _ _ _ _ _ _ _⟩)
        exact fun a ha => by simpa [updF, shV, Int.add_assoc] using hu a 0 (by omega) (by omega)
      · simp only [decide_eq_false_iff_not] at e3
        obtain rfl : k = M q := by omega
        have hkp : kpF A M q + A q 0 - smP (A q 0) (M q) (M q) = kpF A M (q + 1) := by
          rcases Nat.eq_zero_or_pos (M q) with h0 | h0
          · simp only [kpF, h0, smP, if_true]; omega
          · rw [smP_all pA.1 h0]; simp only [kpF, if_neg (show ¬ M q = 0 by omega)]; omega
        refine ⟨⟨q + 1, by omega⟩, by simp only []; omega, ?_⟩
        apply sub_of <;> simp only [hw5, hkp, shrF, go_sem, ↓reduceIte, Nat.reduceAdd, Nat.reduceSub, Nat.reduceMul, Nat.reduceEqDiff, Nat.reduceLT, Nat.reduceLeDiff, Int.reduceToNat, Int.reduceLE, Int.reduceLT, Int.reduceEq, Int.reduceNeg, reduceCtorEq] <;> (try simp) <;> (try exact fun j _ => Bd_nth (by simp [BdL, Bd]) j) <;> (try exact bd_setL (by simp [bdAs, BdL, Bd])) <;> (try exact nestF_bd _ _ _ _ _ _ _ _ _)
    · simp only [decide_eq_false_iff_not] at e1
      obtain rfl : q = n := by omega
      exact ⟨⟨by kernel_rfl, by kernel_rfl⟩, fun _ _ _ _ => rfl, rfl⟩
end Go.Eng
end
