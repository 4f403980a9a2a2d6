/-
  TopRent: for every input the law returns true, and each argument reads afterwards as it read before. No condition.
-/
import Derived.Test.YthidhbamcmgloaaRows
import Derived.WalkKit
import Derived.Test.YthidhbamcmgloaaX4
set_option linter.unusedSimpArgs false
set_option linter.unusedVariables false
/- money: when it runs out, and how much is enough. -/
section
namespace Go.Eng
open Go Go.RowKit Go.Proofs
set_option maxRecDepth 100000
set_option maxHeartbeats 4000000
attribute [local irreducible] OwnT DefS
/-- The least money, behind i days. -/
def loS (s : Int) (l : Nat → Nat → Int) : Nat → Int
  | 0 => s
  | i + 1 => loS s l i + (l i 1 - l i 4)
/-- The greatest. -/
def hiS (s : Int) (l : Nat → Nat → Int) : Nat → Int
  | 0 => s
  | i + 1 => hiS s l i + (l i 2 - l i 3)
theorem loS_bd {l : Nat → Nat → Int} {n : Nat} {s : Int} (hl : ∀ i, i < n → dyBl l i = true) (hs : -1099511627776 ≤ s ∧ s ≤ 1099511627776) : ∀ i, i ≤ n → -(1099511627776 * (i + 1 : Int)) ≤ loS s l i ∧ loS s l i ≤ 1099511627776 * (i + 1 : Int)
  | 0, _ => by simp only [loS]; omega
  | i + 1, hi => by
    have h1 := loS_bd hl hs i (by omega)
    have h2 := dyBl_iff.1 (hl i (by omega))
    simp only [loS]
    omega
theorem hiS_bd {l : Nat → Nat → Int} {n : Nat} {s : Int} (hl : ∀ i, i < n → dyBl l i = true) (hs : -1099511627776 ≤ s ∧ s ≤ 1099511627776) : ∀ i, i ≤ n → -(1099511627776 * (i + 1 : Int)) ≤ hiS s l i ∧ hiS s l i ≤ 1099511627776 * (i + 1 : Int)
  | 0, _ => by simp only [hiS]; omega
  | i + 1, hi => by
    have h1 := hiS_bd hl hs i (by omega)
    have h2 := dyBl_iff.1 (hl i (by omega))
    simp only [hiS]
    omega
def ltL (s : Nat → Int) (l : Nat → Nat → Int) : Nat → Int
  | 0 => -1
  | n + 1 => if s (n + 1) < 0 then if ltL s l n < 0 then l n 0 else ltL s l n else ltL s l n
theorem ltL_none {s : Nat → Int} {l : Nat → Nat → Int} : ∀ {n : Nat}, (∀ i, i < n → 0 ≤ s (i + 1)) → ltL s l n = -1
  | 0, _ => rfl
  | n + 1, h => by
    have := h n (by omega)
    rw [ltL, ltL_none (fun i hi => h i (by omega)), if_neg (by omega)]
theorem ltL_hit {s : Nat → Int} {l : Nat → Nat → Int} {q : Nat} (hq : s (q + 1) < 0) (hl : 0 ≤ l q 0) (h0 : ∀ i, i < q → 0 ≤ s (i + 1)) : ∀ {n : Nat}, q < n → ltL s l n = l q 0
  | 0, h => by omega
  | n + 1, h => by
    rcases Nat.lt_or_ge q n with h1 | h1
    · rw [ltL, ltL_hit hq hl h0 h1, if_neg (show ¬ l q 0 < 0 by omega), ite_self]
    · obtain rfl : q = n := by omega
      rw [ltL, ltL_none h0, if_pos hq, if_pos (show (-1 : Int) < 0 by omega)]
def belE (n : Nat) (l : Nat → Nat → Int) (a b : Int) : Int := if bdgB n l then if spB a b then if ltL (loS a l) l n < 0 then 4 else 0 else 2 else 1
def belS (n : Nat) (l : Nat → Nat → Int) (a b : Int) : Int := if belE n l a b = 0 then ltL (hiS b l) l n else 0
def belP (n : Nat) (l : Nat → Nat → Int) (a b : Int) : Int := if belE n l a b = 0 then ltL (loS a l) l n else 0
/-- The purse that takes the most, or the least, is told of days one after the other. -/
theorem rich_calls0 {n : Nat} {l : Nat → Nat → Int} (hn : n ≤ 128) (hl : ∀ i, i < n → dyBl l i = true) {s : Int} (hs : -1099511627776 ≤ s ∧ s ≤ 1099511627776) :
    CallsS Try.prog 38 [.row n 5 fun i j => .int .i64 (l i j), .meth 39 [.ptr 0 0]] ⟨[.live 111 [.int .i64 s]], []⟩ (fun o h' => ∃ z, o = .ret (.int .i64 (ltL (hiS s l) l n)) ∧ h' = ⟨[.live 111 [.int .i64 z]], []⟩) := by
  refine calls_trim (K := fun o h' => ∃ z ext, o = .ret (.int .i64 (ltL (hiS s l) l n)) ∧ h' = ⟨.live 111 [.int .i64 z] :: ext, []⟩) (calls_of_run (C := cx [] [] [] [(39, 1, p39_1)] none) (cx_ok trivial trivial) rfl fn_38 rfl 1000 ?_) ?_
  · simp only [Try.f38, Try.f39, p39_1, go_sem, ↓reduceIte, Nat.reduceAdd, Nat.reduceSub, Nat.reduceMul, Nat.reduceEqDiff, Nat.reduceLT, Nat.reduceLeDiff, Int.reduceToNat, Int.reduceLE, Int.reduceLT, Int.reduceEq, Int.reduceNeg, reduceCtorEq]
    refine loop_of { i : Nat // i ≤ n ∧ ∀ j, j < i → 0 ≤ hiS s l (j + 1) } (fun i => [(9, .int .i64 (i.1 : Int)), (8, .int .i64 (n : Int)), (7, .row n 5 fun i j => .int .i64 (l i j)), (1, .meth 39 [.ptr 0 0])]) (fun i => ⟨[.live 111 [.int .i64 (hiS s l i.1)]], []⟩) (fun i => n - i.1) (fun _ => ⟨rfl, rfl⟩) ⟨0, by omega, by omega⟩ (by simp only [hiS]; (apply sub_of <;> simp only [go_sem, ↓reduceIte, Nat.reduceAdd, Nat.reduceSub, Nat.reduceMul, Nat.reduceEqDiff, Nat.reduceLT, Nat.reduceLeDiff, Int.reduceToNat, Int.reduceLE, Int.reduceLT, Int.reduceEq, Int.reduceNeg, reduceCtorEq] <;> (try simp [catF]) <;> (try exact fun j _ => Bd_nth (by simp [BdL, Bd]) j) <;> (try exact bd_setL (by simp [bdAs, BdL, Bd])) <;> (try exact nestF_bd _ _ _ _ _ _ _ _ _))) ?_
    rintro ⟨i, hi, h3⟩
    simp only [Try.f38, Try.f39, p39_1, go_sem, ↓reduceIte, Nat.reduceAdd, Nat.reduceSub, Nat.reduceMul, Nat.reduceEqDiff, Nat.reduceLT, Nat.reduceLeDiff, Int.reduceToNat, Int.reduceLE, Int.reduceLT, Int.reduceEq, Int.reduceNeg, reduceCtorEq]
    have hw3 : IntKind.i64.wrap ((i : Int) + 1) = ((i + 1 : Nat) : Int) := by rw [wrap_id (by omega) (by omega)]; omega
    refine ⟨fun e1 => ?_, fun e1 => ?_⟩
    · simp only [decide_eq_true_eq] at e1
      have ik : i < n := by omega
      have hd := dyBl_iff.1 (hl i ik)
      have hb := hiS_bd hl hs i (by omega)
      have w1 : IntKind.i64.wrap (l i 2 - l i 3) = l i 2 - l i 3 := wrap_id (by omega) (by omega)
      have w2 : IntKind.i64.wrap (hiS s l i + (l i 2 - l i 3)) = hiS s l (i + 1) := by rw [wrap_id (by omega) (by omega)]; rfl
      rw [w1, w2]
      refine ⟨⟨by omega, by omega⟩, ⟨by kernel_rfl, by kernel_rfl⟩, fun e2 => ?_, fun e2 => ?_⟩
      · simp only [decide_eq_true_eq] at e2
        exact ⟨_, _, by rw [ltL_hit e2 hd.1.1 h3 ik], rfl⟩
      · simp only [decide_eq_false_iff_not, Int.not_lt] at e2
        refine ⟨⟨i + 1, by omega, fun j hj => ?_⟩, by simp only []; omega, ?_⟩
        · rcases Nat.lt_or_ge j i with h | h
          · exact h3 j h
          · obtain rfl : j = i := by omega
            exact e2
        · apply sub_of <;> simp only [hw3, w1, w2, go_sem, ↓reduceIte, Nat.reduceAdd, Nat.reduceSub, Nat.reduceMul, Nat.reduceEqDiff, Nat.reduceLT, Nat.reduceLeDiff, Int.reduceToNat, Int.reduceLE, Int.reduceLT, Int.reduceEq, Int.reduceNeg, reduceCtorEq] <;> (try simp) <;> (try exact fun j _ => Bd_nth (by simp [BdL, Bd]) j) <;> (try exact bd_setL (by simp [bdAs, BdL, Bd])) <;> (try exact nestF_bd _ _ _ _ _ _ _ _ _)
    · simp only [decide_eq_false_iff_not] at e1
      obtain rfl : i = n := by omega
      exact ⟨_, [], by rw [ltL_none h3], rfl⟩
  · rintro o h' ⟨z, ext, rfl, rfl⟩
    exact ⟨_, _, ⟨[.live 111 [.int .i64 z]], []⟩, ⟨rfl, z, rfl, rfl⟩, ⟨by simp only [go_sem, ↓reduceIte, Nat.reduceAdd, Nat.reduceSub, Nat.reduceMul, Nat.reduceEqDiff, Nat.reduceLT, Nat.reduceLeDiff, Int.reduceToNat, Int.reduceLE, Int.reduceLT, Int.reduceEq, Int.reduceNeg, reduceCtorEq], by simp only [go_sem, ↓reduceIte, Nat.reduceAdd, Nat.reduceSub, Nat.reduceMul, Nat.reduceEqDiff, Nat.reduceLT, Nat.reduceLeDiff, Int.reduceToNat, Int.reduceLE, Int.reduceLT, Int.reduceEq, Int.reduceNeg, reduceCtorEq], by simp only [go_sem, ↓reduceIte, Nat.reduceAdd, Nat.reduceSub, Nat.reduceMul, Nat.reduceEqDiff, Nat.reduceLT, Nat.reduceLeDiff, Int.reduceToNat, Int.reduceLE, Int.reduceLT, Int.reduceEq, Int.reduceNeg, reduceCtorEq], by simp only [go_sem, ↓reduceIte, Nat.reduceAdd, Nat.reduceSub, Nat.reduceMul, Nat.reduceEqDiff, Nat.reduceLT, Nat.reduceLeDiff, Int.reduceToNat, Int.reduceLE, Int.reduceLT, Int.reduceEq, Int.reduceNeg, reduceCtorEq], by simp only [go_sem, ↓reduceIte, Nat.reduceAdd, Nat.reduceSub, Nat.reduceMul, Nat.reduceEqDiff, Nat.reduceLT, Nat.reduceLeDiff, Int.reduceToNat, Int.reduceLE, Int.reduceLT, Int.reduceEq, Int.reduceNeg, reduceCtorEq], by simp only [go_sem, ↓reduceIte, Nat.reduceAdd, Nat.reduceSub, Nat.reduceMul, Nat.reduceEqDiff, Nat.reduceLT, Nat.reduceLeDiff, Int.reduceToNat, Int.reduceLE, Int.reduceLT, Int.reduceEq, Int.reduceNeg, reduceCtorEq]⟩, ⟨by simp [lenB], by simp [lenB]⟩, ⟨by simp [lenV], by simp [lenV]⟩⟩
theorem rich_calls {n : Nat} {l : Nat → Nat → Int} (hn : n ≤ 128) (hl : ∀ i, i < n → dyBl l i = true) {s : Int} (hs : -1099511627776 ≤ s ∧ s ≤ 1099511627776) (h : HS) (k : Nat) (hk : getB h.blks k = .live 111 [.int .i64 s]) :
    CallsS Try.prog 38 [.row n 5 fun i j => .int .i64 (l i j), .meth 39 [.ptr k 0]] h (fun o h' => ∃ z, o = .ret (.int .i64 (ltL (hiS s l) l n)) ∧ h' = ⟨setB h.blks k (.live 111 [.int .i64 z]), h.vecs⟩) := by
  have := calls_ren (h := h) [k] [] (rich_calls0 hn hl hs) (by simp) (by simp) (by simp [BdL, Bd]) (by simp [bdB, BdL, Bd]) (by simp [bdV])
    ⟨by simp only [go_sem, ↓reduceIte, Nat.reduceAdd, Nat.reduceSub, Nat.reduceMul, Nat.reduceEqDiff, Nat.reduceLT, Nat.reduceLeDiff, Int.reduceToNat, Int.reduceLE, Int.reduceLT, Int.reduceEq, Int.reduceNeg, reduceCtorEq]; exact hk, trivial⟩ (by simp only [go_sem, ↓reduceIte, Nat.reduceAdd, Nat.reduceSub, Nat.reduceMul, Nat.reduceEqDiff, Nat.reduceLT, Nat.reduceLeDiff, Int.reduceToNat, Int.reduceLE, Int.reduceLT, Int.reduceEq, Int.reduceNeg, reduceCtorEq]) (by intro k' hk'; simp at hk'; subst hk'; exact getB_lt hk) (by simp)
    (by rintro o h' ⟨z, rfl, rfl⟩; simp [bdO, bdB, bdV, BdL, Bd, lenB, lenV])
  simp only [go_sem, ↓reduceIte, Nat.reduceAdd, Nat.reduceSub, Nat.reduceMul, Nat.reduceEqDiff, Nat.reduceLT, Nat.reduceLeDiff, Int.reduceToNat, Int.reduceLE, Int.reduceLT, Int.reduceEq, Int.reduceNeg, reduceCtorEq] at this
  refine calls_mono ?_ this
  rintro o h' ⟨o0, h0', ⟨z, rfl, rfl⟩, rfl, rfl⟩
  exact ⟨z, by simp only [go_sem, ↓reduceIte, Nat.reduceAdd, Nat.reduceSub, Nat.reduceMul, Nat.reduceEqDiff, Nat.reduceLT, Nat.reduceLeDiff, Int.reduceToNat, Int.reduceLE, Int.reduceLT, Int.reduceEq, Int.reduceNeg, reduceCtorEq], by simp only [go_sem, ↓reduceIte, Nat.reduceAdd, Nat.reduceSub, Nat.reduceMul, Nat.reduceEqDiff, Nat.reduceLT, Nat.reduceLeDiff, Int.reduceToNat, Int.reduceLE, Int.reduceLT, Int.reduceEq, Int.reduceNeg, reduceCtorEq]⟩
theorem poor_calls0 {n : Nat} {l : Nat → Nat → Int} (hn : n ≤ 128) (hl : ∀ i, i < n → dyBl l i = true) {s : Int} (hs : -1099511627776 ≤ s ∧ s ≤ 1099511627776) :
    CallsS Try.prog 38 [.row n 5 fun i j => .int .i64 (l i j), .meth 36 [.ptr 0 0]] ⟨[.live 111 [.int .i64 s]], []⟩ (fun o h' => ∃ z, o = .ret (.int .i64 (ltL (loS s l) l n)) ∧ h' = ⟨[.live 111 [.int .i64 z]], []⟩) := by
  refine calls_trim (K := fun o h' => ∃ z ext, o = .ret (.int .i64 (ltL (loS s l) l n)) ∧ h' = ⟨.live 111 [.int .i64 z] :: ext, []⟩) (calls_of_run (C := cx [] [] [] [(36, 1, p36_1)] none) (cx_ok trivial trivial) rfl fn_38 rfl 1000 ?_) ?_
  · simp only [Try.f38, Try.f36, p36_1, go_sem, ↓reduceIte, Nat.reduceAdd, Nat.reduceSub, Nat.reduceMul, Nat.reduceEqDiff, Nat.reduceLT, Nat.reduceLeDiff, Int.reduceToNat, Int.reduceLE, Int.reduceLT, Int.reduceEq, Int.reduceNeg, reduceCtorEq]
    refine loop_of { i : Nat // i ≤ n ∧ ∀ j, j < i → 0 ≤ loS s l (j + 1) } (fun i => [(9, .int .i64 (i.1 : Int)), (8, .int .i64 (n : Int)), (7, .row n 5 fun i j => .int .i64 (l i j)), (1, .meth 36 [.ptr 0 0])]) (fun i => ⟨[.live 111 [.int .i64 (loS s l i.1)]], []⟩) (fun i => n - i.1) (fun _ => ⟨rfl, rfl⟩) ⟨0, by omega, by omega⟩ (by simp only [loS]; (apply sub_of <;> simp only [go_sem, ↓reduceIte, Nat.reduceAdd, Nat.reduceSub, Nat.reduceMul, Nat.reduceEqDiff, Nat.reduceLT, Nat.reduceLeDiff, Int.reduceToNat, Int.reduceLE, Int.reduceLT, Int.reduceEq, Int.reduceNeg, reduceCtorEq] <;> (try simp [catF]) <;> (try exact fun j _ => Bd_nth (by simp [BdL, Bd]) j) <;> (try exact bd_setL (by simp [bdAs, BdL, Bd])) <;> (try exact nestF_bd _ _ _ _ _ _ _ _ _))) ?_
    rintro ⟨i, hi, h3⟩
    simp only [Try.f38, Try.f36, p36_1, go_sem, ↓reduceIte, Nat.reduceAdd, Nat.reduceSub, Nat.reduceMul, Nat.reduceEqDiff, Nat.reduceLT, Nat.reduceLeDiff, Int.reduceToNat, Int.reduceLE, Int.reduceLT, Int.reduceEq, Int.reduceNeg, reduceCtorEq]
    have hw3 : IntKind.i64.wrap ((i : Int) + 1) = ((i + 1 : Nat) : Int) := by rw [wrap_id (by omega) (by omega)]; omega
    refine ⟨fun e1 => ?_, fun e1 => ?_⟩
    · simp only [decide_eq_true_eq] at e1
      have ik : i < n := by omega
      have hd := dyBl_iff.1 (hl i ik)
      have hb := loS_bd hl hs i (by omega)
      have w1 : IntKind.i64.wrap (l i 1 - l i 4) = l i 1 - l i 4 := wrap_id (by omega) (by omega)
      have w2 : IntKind.i64.wrap (loS s l i + (l i 1 - l i 4)) = loS s l (i + 1) := by rw [wrap_id (by omega) (by omega)]; rfl
      rw [w1, w2]
      refine ⟨⟨by omega, by omega⟩, ⟨by kernel_rfl, by kernel_rfl⟩, fun e2 => ?_, fun e2 => ?_⟩
      · simp only [decide_eq_true_eq] at e2
        exact ⟨_, _, by rw [ltL_hit e2 hd.1.1 h3 ik], rfl⟩
      · simp only [decide_eq_false_iff_not, Int.not_lt] at e2
        refine ⟨⟨i + 1, by omega, fun j hj => ?_⟩, by simp only []; omega, ?_⟩
        · rcases Nat.lt_or_ge j i with h | h
          · exact h3 j h
          · obtain rfl : j = i := by omega
            exact e2
        · apply sub_of <;> simp only [hw3, w1, w2, go_sem, ↓reduceIte, Nat.reduceAdd, Nat.reduceSub, Nat.reduceMul, Nat.reduceEqDiff, Nat.reduceLT, Nat.reduceLeDiff, Int.reduceToNat, Int.reduceLE, Int.reduceLT, Int.reduceEq, Int.reduceNeg, reduceCtorEq] <;> (try simp) <;> (try exact fun j _ => Bd_nth (by simp [BdL, Bd]) j) <;> (try exact bd_setL (by simp [bdAs, BdL, Bd])) <;> (try exact nestF_bd _ _ _ _ _ _ _ _ _)
    · simp only [decide_eq_false_iff_not] at e1
      obtain rfl : i = n := by omega
      exact ⟨_, [], by rw [ltL_none h3], rfl⟩
  · rintro o h' ⟨z, ext, rfl, rfl⟩
    exact ⟨_, _, ⟨[.live 111 [.int .i64 z]], []⟩, ⟨rfl, z, rfl, rfl⟩, ⟨by simp only [go_sem, ↓reduceIte, Nat.reduceAdd, Nat.reduceSub, Nat.reduceMul, Nat.reduceEqDiff, Nat.reduceLT, Nat.reduceLeDiff, Int.reduceToNat, Int.reduceLE, Int.reduceLT, Int.reduceEq, Int.reduceNeg, reduceCtorEq], by simp only [go_sem, ↓reduceIte, Nat.reduceAdd, Nat.reduceSub, Nat.reduceMul, Nat.reduceEqDiff, Nat.reduceLT, Nat.reduceLeDiff, Int.reduceToNat, Int.reduceLE, Int.reduceLT, Int.reduceEq, Int.reduceNeg, reduceCtorEq], by simp only [go_sem, ↓reduceIte, Nat.reduceAdd, Nat.reduceSub, Nat.reduceMul, Nat.reduceEqDiff, Nat.reduceLT, Nat.reduceLeDiff, Int.reduceToNat, Int.reduceLE, Int.reduceLT, Int.reduceEq, Int.reduceNeg, reduceCtorEq], by simp only [go_sem, ↓reduceIte, Nat.reduceAdd, Nat.reduceSub, Nat.reduceMul, Nat.reduceEqDiff, Nat.reduceLT, Nat.reduceLeDiff, Int.reduceToNat, Int.reduceLE, Int.reduceLT, Int.reduceEq, Int.reduceNeg, reduceCtorEq], by simp only [go_sem, ↓reduceIte, Nat.reduceAdd, Nat.reduceSub, Nat.reduceMul, Nat.reduceEqDiff, Nat.reduceLT, Nat.reduceLeDiff, Int.reduceToNat, Int.reduceLE, Int.reduceLT, Int.reduceEq, Int.reduceNeg, reduceCtorEq], by simp only [go_sem, ↓reduceIte, Nat.reduceAdd, Nat.reduceSub, Nat.reduceMul, Nat.reduceEqDiff, Nat.reduceLT, Nat.reduceLeDiff, Int.reduceToNat, Int.reduceLE, Int.reduceLT, Int.reduceEq, Int.reduceNeg, reduceCtorEq]⟩, ⟨by simp [lenB], by simp [lenB]⟩, ⟨by simp [lenV], by simp [lenV]⟩⟩
theorem poor_calls {n : Nat} {l : Nat → Nat → Int} (hn : n ≤ 128) (hl : ∀ i, i < n → dyBl l i = true) {s : Int} (hs : -1099511627776 ≤ s ∧ s ≤ 1099511627776) (h : HS) (k : Nat) (hk : getB h.blks k = .live 111 [.int .i64 s]) :
    CallsS Try.prog 38 [.row n 5 fun i j => .int .i64 (l i j), .meth 36 [.ptr k 0]] h (fun o h' => ∃ z, o = .ret (.int .i64 (ltL (loS s l) l n)) ∧ h' = ⟨setB h.blks k (.live 111 [.int .i64 z]), h.vecs⟩) := by
  have := calls_ren (h := h) [k] [] (poor_calls0 hn hl hs) (by simp) (by simp) (by simp [BdL, Bd]) (by simp [bdB, BdL, Bd]) (by simp [bdV])
    ⟨by simp only [go_sem, ↓reduceIte, Nat.reduceAdd, Nat.reduceSub, Nat.reduceMul, Nat.reduceEqDiff, Nat.reduceLT, Nat.reduceLeDiff, Int.reduceToNat, Int.reduceLE, Int.reduceLT, Int.reduceEq, Int.reduceNeg, reduceCtorEq]; exact hk, trivial⟩ (by simp only [go_sem, ↓reduceIte, Nat.reduceAdd, Nat.reduceSub, Nat.reduceMul, Nat.reduceEqDiff, Nat.reduceLT, Nat.reduceLeDiff, Int.reduceToNat, Int.reduceLE, Int.reduceLT, Int.reduceEq, Int.reduceNeg, reduceCtorEq]) (by intro k' hk'; simp at hk'; subst hk'; exact getB_lt hk) (by simp)
    (by rintro o h' ⟨z, rfl, rfl⟩; simp [bdO, bdB, bdV, BdL, Bd, lenB, lenV])
  simp only [go_sem, ↓reduceIte, Nat.reduceAdd, Nat.reduceSub, Nat.reduceMul, Nat.reduceEqDiff, Nat.reduceLT, Nat.reduceLeDiff, Int.reduceToNat, Int.reduceLE, Int.reduceLT, Int.reduceEq, Int.reduceNeg, reduceCtorEq] at this
  refine calls_mono ?_ this
  rintro o h' ⟨o0, h0', ⟨z, rfl, rfl⟩, rfl, rfl⟩
  exact ⟨z, by simp only [go_sem, ↓reduceIte, Nat.reduceAdd, Nat.reduceSub, Nat.reduceMul, Nat.reduceEqDiff, Nat.reduceLT, Nat.reduceLeDiff, Int.reduceToNat, Int.reduceLE, Int.reduceLT, Int.reduceEq, Int.reduceNeg, reduceCtorEq], by simp only [go_sem, ↓reduceIte, Nat.reduceAdd, Nat.reduceSub, Nat.reduceMul, Nat.reduceEqDiff, Nat.reduceLT, Nat.reduceLeDiff, Int.reduceToNat, Int.reduceLE, Int.reduceLT, Int.reduceEq, Int.reduceNeg, reduceCtorEq]⟩
def below_Base : BaseF := fun args => match args with
  | [.agg [.int .i64 a, .int .i64 b], .row n sz_l f_l] => some ((sz_l = 5 ∧ IntR n 5 f_l) ∧ (n ≤ 1000000), .tup [.int .i64 (belS n (ivf f_l) a b), .int .i64 (belP n (ivf f_l) a b), .int .i64 (belE n (ivf f_l) a b)])
  | _ => none
theorem below__eq (a : Int) (b : Int) (n : Nat) (sz_l : Nat) (f_l : Nat → Nat → SV) : below_Base [.agg [.int .i64 a, .int .i64 b], .row n sz_l f_l] = some ((sz_l = 5 ∧ IntR n 5 f_l) ∧ (n ≤ 1000000), .tup [.int .i64 (belS n (ivf f_l) a b), .int .i64 (belP n (ivf f_l) a b), .int .i64 (belE n (ivf f_l) a b)]) := rfl
theorem below__base : Base Try.prog 12 below_Base := by
  intro args p v hq hp
  unfold below_Base at hq
  split at hq
  rotate_left
  · cases hq
  rename_i a b n sz_l f_l
  cases hq
  obtain ⟨⟨rfl, i_l⟩, pre⟩ := hp
  refine base_of (C := cx [38] [] [(35, areDaysBase), (37, isSpanBase)] [(12, 5, p12_5)] none) (cx_ok trivial ⟨areDays_base, isSpan_base, trivial⟩) rfl (g := 12) (fn := Try.f12)
    (args' := [.agg [.int .i64 a, .int .i64 b], .row n 5 (rowF .i64 (ivf f_l))]) (fn_12) rfl 1000 (by
    simp only [BdL, Bd, and_self, and_true, true_and]
    exact (fun i j hi hj => by rw [i_l i j hi hj]; trivial)) ⟨SameD.rfl' _, SameD.int i_l, trivial⟩ ?_
  generalize ivf f_l = l at *
  simp only [rowF_eq]
  simp only [areDays_eq, isSpan_eq, p12_5, Try.f12, go_sem, ↓reduceIte, Nat.reduceAdd, Nat.reduceSub, Nat.reduceMul, Nat.reduceEqDiff, Nat.reduceLT, Nat.reduceLeDiff, Int.reduceToNat, Int.reduceLE, Int.reduceLT, Int.reduceEq, Int.reduceNeg, reduceCtorEq]
  have bad : ∀ e, belE n l a b = e → e ≠ 0 → SV.tup [.int .i64 0, .int .i64 0, .int .i64 e] = .tup [.int .i64 (belS n l a b), .int .i64 (belP n l a b), .int .i64 (belE n l a b)] := fun e he h0 => by
    simp [belS, belP, he, h0]
  refine ⟨pre, fun c1 => bad 1 ?_ (by decide), fun c1 => ⟨fun c2 => bad 2 ?_ (by decide), fun c2 => ?_⟩⟩
  · simp [belE, show bdgB n l = false by simpa using c1]
  · simp [belE, show bdgB n l = true by simpa using c1, show spB a b = false by simpa using c2]
  simp only [Bool.not_eq_false'] at c1 c2
  obtain ⟨h1, h2⟩ := bdgB_iff.1 c1
  have h3 := spB_iff.1 c2
  have hE : belE n l a b = if ltL (loS a l) l n < 0 then 4 else 0 := by simp [belE, c1, c2]
  have fin : ∀ (q : Prop), (q = (belE n l a b = 4)) → True := fun _ _ => trivial
  refine ⟨⟨by kernel_rfl, by kernel_rfl⟩, ?_, ?_⟩
  · unfold callS
    refine calls_mono ?_ (rich_calls (s := b) h1 (fun i hi => (h2 i hi).1) (by omega) _ 2 rfl)
    rintro o h' ⟨z, rfl, rfl⟩
    simp only [areDays_eq, isSpan_eq, p12_5, Try.f12, go_sem, ↓reduceIte, Nat.reduceAdd, Nat.reduceSub, Nat.reduceMul, Nat.reduceEqDiff, Nat.reduceLT, Nat.reduceLeDiff, Int.reduceToNat, Int.reduceLE, Int.reduceLT, Int.reduceEq, Int.reduceNeg, reduceCtorEq]
    unfold callS
    refine calls_mono ?_ (poor_calls (s := a) h1 (fun i hi => (h2 i hi).1) (by omega) _ 1 rfl)
    rintro o h' ⟨z, rfl, rfl⟩
    simp only [areDays_eq, isSpan_eq, p12_5, Try.f12, go_sem, ↓reduceIte, Nat.reduceAdd, Nat.reduceSub, Nat.reduceMul, Nat.reduceEqDiff, Nat.reduceLT, Nat.reduceLeDiff, Int.reduceToNat, Int.reduceLE, Int.reduceLT, Int.reduceEq, Int.reduceNeg, reduceCtorEq]
    refine ⟨fun c3 => bad 4 (by rw [hE]; simp [show ltL (loS a l) l n < 0 by simpa using c3]) (by decide), fun c3 => ?_⟩
    have hE0 : belE n l a b = 0 := by rw [hE]; simp [show ¬ ltL (loS a l) l n < 0 by simpa using c3]
    simp [belS, belP, hE0]
  · unfold callS
    refine calls_mono ?_ (rich_calls (s := b) h1 (fun i hi => (h2 i hi).1) (by omega) _ 1 rfl)
    rintro o h' ⟨z, rfl, rfl⟩
    simp only [areDays_eq, isSpan_eq, p12_5, Try.f12, go_sem, ↓reduceIte, Nat.reduceAdd, Nat.reduceSub, Nat.reduceMul, Nat.reduceEqDiff, Nat.reduceLT, Nat.reduceLeDiff, Int.reduceToNat, Int.reduceLE, Int.reduceLT, Int.reduceEq, Int.reduceNeg, reduceCtorEq]
    unfold callS
    refine calls_mono ?_ (poor_calls (s := a) h1 (fun i hi => (h2 i hi).1) (by omega) _ 2 rfl)
    rintro o h' ⟨z, rfl, rfl⟩
    simp only [areDays_eq, isSpan_eq, p12_5, Try.f12, go_sem, ↓reduceIte, Nat.reduceAdd, Nat.reduceSub, Nat.reduceMul, Nat.reduceEqDiff, Nat.reduceLT, Nat.reduceLeDiff, Int.reduceToNat, Int.reduceLE, Int.reduceLT, Int.reduceEq, Int.reduceNeg, reduceCtorEq]
    refine ⟨fun c3 => bad 4 (by rw [hE]; simp [show ltL (loS a l) l n < 0 by simpa using c3]) (by decide), fun c3 => ?_⟩
    have hE0 : belE n l a b = 0 := by rw [hE]; simp [show ¬ ltL (loS a l) l n < 0 by simpa using c3]
    simp [belS, belP, hE0]
def misS (l : Nat → Nat → Int) : Nat → Int
  | 0 => 0
  | i + 1 => max (misS l i) (-(loS 0 l (i + 1)))
def enoE (n : Nat) (l : Nat → Nat → Int) : Int := if bdgB n l then 0 else 1
def enoR (n : Nat) (l : Nat → Nat → Int) : Int := if bdgB n l then misS l n else 0
def enoughBase : BaseF := fun args => match args with
  | [.row n sz_l f_l] => some ((sz_l = 5 ∧ IntR n 5 f_l) ∧ (n ≤ 1000000), .tup [.int .i64 (enoR n (ivf f_l)), .int .i64 (enoE n (ivf f_l))])
  | _ => none
theorem enough_eq (n : Nat) (sz_l : Nat) (f_l : Nat → Nat → SV) : enoughBase [.row n sz_l f_l] = some ((sz_l = 5 ∧ IntR n 5 f_l) ∧ (n ≤ 1000000), .tup [.int .i64 (enoR n (ivf f_l)), .int .i64 (enoE n (ivf f_l))]) := rfl
theorem enough_base : Base Try.prog 11 enoughBase := by
  intro args p v hq hp
  unfold enoughBase at hq
  split at hq
  rotate_left
  · cases hq
  rename_i n sz_l f_l
  cases hq
  obtain ⟨⟨rfl, i_l⟩, pre⟩ := hp
  refine base_of (C := cx [] [] [(35, areDaysBase)] [(36, 1, p36_1)] none) (cx_ok trivial ⟨areDays_base, trivial⟩) rfl (g := 11) (fn := Try.f11)
    (args' := [.row n 5 (rowF .i64 (ivf f_l))]) (fn_11) rfl 1000 (by
    simp only [BdL, Bd, and_self, and_true, true_and]
    exact (fun i j hi hj => by rw [i_l i j hi hj]; trivial)) ⟨SameD.int i_l, trivial⟩ ?_
  generalize ivf f_l = l at *
  simp only [rowF_eq]
  simp only [areDays_eq, p36_1, Try.f36, Try.f11, go_sem, ↓reduceIte, Nat.reduceAdd, Nat.reduceSub, Nat.reduceMul, Nat.reduceEqDiff, Nat.reduceLT, Nat.reduceLeDiff, Int.reduceToNat, Int.reduceLE, Int.reduceLT, Int.reduceEq, Int.reduceNeg, reduceCtorEq]
  refine ⟨pre, fun c1 => by simp [enoR, enoE, show bdgB n l = false by simpa using c1], fun c1 => ?_⟩
  simp only [Bool.not_eq_false'] at c1
  obtain ⟨h1, h2⟩ := bdgB_iff.1 c1
  have hb := loS_bd (l := l) (n := n) (s := 0) (fun i hi => (h2 i hi).1) (by omega)
  simp only [enoR, enoE, c1, if_true]
  have hm : ∀ i, i ≤ n → 0 ≤ misS l i ∧ misS l i ≤ 1099511627776 * (i + 1 : Int) := fun i => by
    induction i with
    | zero => intro _; simp [misS]
    | succ i ih => intro hi; have := ih (by omega); have := hb (i + 1) hi; simp only [misS]; omega
  refine loop_of { i : Nat // i ≤ n } (fun i => [(13, .int .i64 (i.1 : Int)), (12, .int .i64 (n : Int)), (11, .row n 5 fun i j => .int .i64 (l i j)), (5, .int .i64 (misS l i.1)), (4, .ptr 0 0)]) (fun i => ⟨[.live 111 [.int .i64 (loS 0 l i.1)]], []⟩) (fun i => n - i.1) (fun _ => ⟨rfl, rfl⟩) ⟨0, by omega⟩ (by simp only [misS, loS]; (apply sub_of <;> simp only [go_sem, ↓reduceIte, Nat.reduceAdd, Nat.reduceSub, Nat.reduceMul, Nat.reduceEqDiff, Nat.reduceLT, Nat.reduceLeDiff, Int.reduceToNat, Int.reduceLE, Int.reduceLT, Int.reduceEq, Int.reduceNeg, reduceCtorEq] <;> (try simp [catF]) <;> (try exact fun j _ => Bd_nth (by simp [BdL, Bd]) j) <;> (try exact bd_setL (by simp [bdAs, BdL, Bd])) <;> (try exact nestF_bd _ _ _ _ _ _ _ _ _))) ?_
  rintro ⟨i, hi⟩
  simp only [areDays_eq, p36_1, Try.f36, Try.f11, go_sem, ↓reduceIte, Nat.reduceAdd, Nat.reduceSub, Nat.reduceMul, Nat.reduceEqDiff, Nat.reduceLT, Nat.reduceLeDiff, Int.reduceToNat, Int.reduceLE, Int.reduceLT, Int.reduceEq, Int.reduceNeg, reduceCtorEq]
  have hw3 : IntKind.i64.wrap ((i : Int) + 1) = ((i + 1 : Nat) : Int) := by rw [wrap_id (by omega) (by omega)]; omega
  refine ⟨fun e1 => ?_, fun e1 => ?_⟩
  · simp only [decide_eq_true_eq] at e1
    have ik : i < n := by omega
    have hd := dyBl_iff.1 (h2 i ik).1
    have hb1 := hb i hi
    have hb2 := hb (i + 1) ik
    have w1 : IntKind.i64.wrap (l i 1 - l i 4) = l i 1 - l i 4 := wrap_id (by omega) (by omega)
    have w2 : IntKind.i64.wrap (loS 0 l i + (l i 1 - l i 4)) = loS 0 l (i + 1) := by rw [wrap_id (by omega) (by omega)]; rfl
    have w3 : IntKind.i64.wrap (0 - loS 0 l (i + 1)) = -(loS 0 l (i + 1)) := by rw [wrap_id (by omega) (by omega)]; omega
    have w4 : max (misS l i) (-(loS 0 l (i + 1))) = misS l (i + 1) := rfl
    refine ⟨⟨by omega, by omega⟩, ⟨by kernel_rfl, by kernel_rfl⟩, ⟨i + 1, by omega⟩, by simp only []; omega, ?_⟩
    apply sub_of <;> simp only [hw3, w1, w2, w3, w4, go_sem, ↓reduceIte, Nat.reduceAdd, Nat.reduceSub, Nat.reduceMul, Nat.reduceEqDiff, Nat.reduceLT, Nat.reduceLeDiff, Int.reduceToNat, Int.reduceLE, Int.reduceLT, Int.reduceEq, Int.reduceNeg, reduceCtorEq] <;> (try simp) <;> (try exact fun j _ => Bd_nth (by simp [BdL, Bd]) j) <;> (try exact bd_setL (by simp [bdAs, BdL, Bd])) <;> (try exact nestF_bd _ _ _ _ _ _ _ _ _)
  · simp only [decide_eq_false_iff_not] at e1
    obtain rfl : i = n := by omega
    rfl
end Go.Eng
end

/- money: accounts. -/
section
namespace Go.Eng
open Go Go.RowKit Go.Proofs
set_option maxRecDepth 100000
set_option maxHeartbeats 4000000
attribute [local irreducible] OwnT DefS
/-- An entry of n accounts. -/
def enB (n : Nat) (x : Nat → Int) : Bool := in3 (x 0) 0 16384 && (in3 (x 1) 0 ((n : Int) - 1) && (in3 (x 2) 0 ((n : Int) - 1) && (!decide (x 1 = x 2) && in3 (x 3) 1 1099511627776)))
theorem enB_iff {n : Nat} {x : Nat → Int} : enB n x = true ↔ (0 ≤ x 0 ∧ x 0 ≤ 16384) ∧ (0 ≤ x 1 ∧ x 1 ≤ (n : Int) - 1) ∧ (0 ≤ x 2 ∧ x 2 ≤ (n : Int) - 1) ∧ x 1 ≠ x 2 ∧ 1 ≤ x 3 ∧ x 3 ≤ 1099511627776 := by
  simp only [enB, Bool.and_eq_true, in3_iff, Bool.not_eq_true', decide_eq_false_iff_not, ne_eq]
def isEntryBase : BaseF := fun args => match args with
  | [.agg [.int .i64 d, .int .i64 f, .int .i64 t, .int .i64 a], .int .i64 n] => some ((0 ≤ n ∧ n ≤ 1000000), .bool (in3 d 0 16384 && (in3 f 0 (n - 1) && (in3 t 0 (n - 1) && (!decide (f = t) && in3 a 1 1099511627776)))))
  | _ => none
theorem isEntry_eq (d : Int) (f : Int) (t : Int) (a : Int) (n : Int) : isEntryBase [.agg [.int .i64 d, .int .i64 f, .int .i64 t, .int .i64 a], .int .i64 n] = some ((0 ≤ n ∧ n ≤ 1000000), .bool (in3 d 0 16384 && (in3 f 0 (n - 1) && (in3 t 0 (n - 1) && (!decide (f = t) && in3 a 1 1099511627776))))) := rfl
theorem isEntry_base : Base Try.prog 34 isEntryBase := by
  intro args p v hq hp
  unfold isEntryBase at hq
  split at hq
  rotate_left
  · cases hq
  rename_i d f t a n
  cases hq
  have pre := hp
  refine base_of (C := cx [] [] [(85, withinBase)] [] none) (cx_ok trivial ⟨within_base, trivial⟩) rfl (g := 34) (fn := Try.f34)
    (args' := [.agg [.int .i64 d, .int .i64 f, .int .i64 t, .int .i64 a], .int .i64 n]) (fn_34) rfl 1000 (by simp only [BdL, Bd, and_self, and_true, true_and]) ⟨SameD.agg ⟨SameD.rfl' _, SameD.rfl' _, SameD.rfl' _, SameD.rfl' _, trivial⟩, SameD.rfl' _, trivial⟩ ?_
  simp only [within_eq, Try.f86, Try.f34, go_sem, ↓reduceIte, Nat.reduceAdd, Nat.reduceSub, Nat.reduceMul, Nat.reduceEqDiff, Nat.reduceLT, Nat.reduceLeDiff, Int.reduceToNat, Int.reduceLE, Int.reduceLT, Int.reduceEq, Int.reduceNeg, reduceCtorEq]
  have w1 : IntKind.i64.wrap (n - 1) = n - 1 := wrap_id (by omega) (by omega)
  simp only [w1]
  refine ⟨fun c1 => ⟨fun c2 => ⟨fun c3 => ⟨fun c4 => ?_, fun c4 => ?_⟩, fun c3 => ?_⟩, fun c2 => ?_⟩, fun c1 => ?_⟩
  · simp only [c1, c2, c3, c4, Bool.true_and]
  · simp only [c1, c2, c3, c4, Bool.false_and, Bool.and_false]
  · simp only [c1, c2, c3, Bool.false_and, Bool.and_false]
  · simp only [c1, c2, Bool.false_and, Bool.and_false]
  · simp only [c1, Bool.false_and]
/-- The balance of an account behind q entries. -/
def balF (l : Nat → Nat → Int) : Nat → Nat → Int
  | 0, _ => 0
  | q + 1, a => balF l q a - (if l q 1 = (a : Int) then l q 3 else 0) + (if l q 2 = (a : Int) then l q 3 else 0)
/-- The error of an entry, if those before it are right. -/
def entE (n : Nat) (lim : Nat → Nat → Int) (l : Nat → Nat → Int) (q : Nat) : Int :=
  if enB n (l q) then if decide (q = 0) || decide (l (q - 1) 0 ≤ l q 0) then if -(lim (l q 1).toNat 0) ≤ balF l q (l q 1).toNat - l q 3 then 0 else 10 else 7 else 1
/-- The first one that is wrong. -/
def bad1 (n : Nat) (lim : Nat → Nat → Int) (l : Nat → Nat → Int) : Nat → Nat
  | 0 => 0
  | q + 1 => if bad1 n lim l q < q then bad1 n lim l q else if entE n lim l q = 0 then q + 1 else q
theorem bad1_all {n : Nat} {lim l : Nat → Nat → Int} : ∀ {q : Nat}, (∀ i, i < q → entE n lim l i = 0) → bad1 n lim l q = q
  | 0, _ => rfl
  | q + 1, h => by
    rw [bad1, bad1_all (fun i hi => h i (by omega)), if_neg (by omega), if_pos (h q (by omega))]
theorem bad1_hit {n : Nat} {lim l : Nat → Nat → Int} {q : Nat} (hq : entE n lim l q ≠ 0) (h0 : ∀ i, i < q → entE n lim l i = 0) : ∀ {m : Nat}, q < m → bad1 n lim l m = q
  | 0, h => by omega
  | m + 1, h => by
    rcases Nat.lt_or_ge q m with h1 | h1
    · rw [bad1, bad1_hit hq h0 h1, if_pos h1]
    · obtain rfl : q = m := by omega
      rw [bad1, bad1_all h0, if_neg (by omega), if_neg hq]
theorem balF_bd {n : Nat} {lim l : Nat → Nat → Int} : ∀ (q : Nat), (∀ i, i < q → entE n lim l i = 0) → ∀ a, -(1099511627776 * (q : Int)) ≤ balF l q a ∧ balF l q a ≤ 1099511627776 * (q : Int)
  | 0, _, a => by simp [balF]
  | q + 1, h, a => by
    have h1 := balF_bd q (fun i hi => h i (by omega)) a
    have h2 : enB n (l q) = true := by
      have := h q (by omega)
      unfold entE at this
      cases hc : enB n (l q) with
      | true => rfl
      | false => rw [hc] at this; simp at this
    obtain ⟨_, _, _, _, h3⟩ := enB_iff.1 h2
    simp only [balF]
    split <;> split <;> omega
def limB (n : Nat) (lim : Nat → Nat → Int) : Bool := allU (fun i => in3 (lim i 0) 0 1099511627776) n && decide (n ≤ 16)
def plyI (n : Nat) (lim : Nat → Nat → Int) (m : Nat) (l : Nat → Nat → Int) : Nat := if m ≤ 256 then if limB n lim then bad1 n lim l m else 0 else 0
def plyE (n : Nat) (lim : Nat → Nat → Int) (m : Nat) (l : Nat → Nat → Int) : Int := if m ≤ 256 then if limB n lim then if bad1 n lim l m < m then entE n lim l (bad1 n lim l m) else 0 else 1 else 3
def plyN (n : Nat) (lim : Nat → Nat → Int) (m : Nat) (l : Nat → Nat → Int) : Nat := if plyE n lim m l = 0 then n else 0
theorem bal_upd {l : Nat → Nat → Int} {q n a b : Nat} {X Y : Int} (ha : l q 1 = (a : Int)) (hb : l q 2 = (b : Int)) (hne : a ≠ b) (hX : X = balF l q a - l q 3) (hY : Y = balF l q b + l q 3) :
    ∀ i j, i < n → j < 1 → updF (updF (fun i _ => .int .i64 (balF l q i)) a 0 1 [.int .i64 X]) b 0 1 [.int .i64 Y] i j = .int .i64 (balF l (q + 1) i) := fun i j hi hj => by
  obtain rfl : j = 0 := by omega
  simp only [updF, balF, ha, hb]
  by_cases h1 : i = b
  · subst h1
    have : ¬ (a : Int) = (i : Int) := by omega
    rw [if_pos (by omega), hY]
    simp [nth, this]
  · rw [if_neg (by omega)]
    by_cases h2 : i = a
    · subst h2
      have : ¬ (b : Int) = (i : Int) := by omega
      rw [if_pos (by omega), hX]
      simp [nth, this]
    · rw [if_neg (by omega)]
      have q1 : ¬ (a : Int) = (i : Int) := by omega
      have q2 : ¬ (b : Int) = (i : Int) := by omega
      simp [q1, q2]
theorem def48_none (h : HS) (a b : Nat) : DefS Try.prog 32 [.ptr a 0, .ptr b 0] none h (fun p' h' => p' = none ∧ h' = h) := by
  refine defS_of_run (C := cx [] [] [] [] (some [])) (cx_ok trivial trivial) (g := 32) (fn := Try.f32) fn_32 rfl rfl rfl 1000 1000 ?_
  simp only [Try.f32, go_sem, ↓reduceIte, Nat.reduceAdd, Nat.reduceSub, Nat.reduceMul, Nat.reduceEqDiff, Nat.reduceLT, Nat.reduceLeDiff, Int.reduceToNat, Int.reduceLE, Int.reduceLT, Int.reduceEq, Int.reduceNeg, reduceCtorEq]
theorem def48_some (e : Int) (a b : SV) (c0 c1 c2 c3 : SV) (v0 v1 : Vc) : DefS Try.prog 32 [.ptr 0 0, .ptr 1 0] (some (.iface 105 (.agg [.int .i64 e]))) ⟨[.live 39 [a], .live 27 [b], .live 42 [c0, c1, c2, c3]], [v0, v1]⟩
    (fun p' h' => p' = none ∧ h' = ⟨[.live 39 [.vec 2 0], .live 27 [.int .i64 e], .live 42 [c0, c1, c2, c3], .live 105 [.int .i64 e]], [v0, v1, .live 0 3 1 0 fun _ _ => .any]⟩) := by
  refine defS_of_run (C := cx [] [] [] [(32, 5, p32_5)] (some [])) (cx_ok trivial trivial) (g := 32) (fn := Try.f32) fn_32 rfl rfl rfl 1000 1000 ?_
  simp only [Try.f32, p32_5, go_sem, ↓reduceIte, Nat.reduceAdd, Nat.reduceSub, Nat.reduceMul, Nat.reduceEqDiff, Nat.reduceLT, Nat.reduceLeDiff, Int.reduceToNat, Int.reduceLE, Int.reduceLT, Int.reduceEq, Int.reduceNeg, reduceCtorEq]
  exact ⟨by kernel_rfl, by kernel_rfl⟩
def playBase : BaseF := fun args => match args with
  | [.row n sz_lim f_lim, .row m sz_l f_l] => some ((sz_lim = 1 ∧ IntR n 1 f_lim) ∧ (sz_l = 4 ∧ IntR m 4 f_l) ∧ (n ≤ 1000000 ∧ m ≤ 1000000), .tup [.row (plyN n (ivf f_lim) m (ivf f_l)) 1 (fun i _ => .int .i64 (balF (ivf f_l) m i)), .int .i64 (plyI n (ivf f_lim) m (ivf f_l)), .int .i64 (plyE n (ivf f_lim) m (ivf f_l))])
  | _ => none
theorem play_eq (n : Nat) (sz_lim : Nat) (f_lim : Nat → Nat → SV) (m : Nat) (sz_l : Nat) (f_l : Nat → Nat → SV) : playBase [.row n sz_lim f_lim, .row m sz_l f_l] = some ((sz_lim = 1 ∧ IntR n 1 f_lim) ∧ (sz_l = 4 ∧ IntR m 4 f_l) ∧ (n ≤ 1000000 ∧ m ≤ 1000000), .tup [.row (plyN n (ivf f_lim) m (ivf f_l)) 1 (fun i _ => .int .i64 (balF (ivf f_l) m i)), .int .i64 (plyI n (ivf f_lim) m (ivf f_l)), .int .i64 (plyE n (ivf f_lim) m (ivf f_l))]) := rfl
theorem play_base : Base Try.prog 10 playBase := by
  intro args p v hq hp
  unfold playBase at hq
  split at hq
  rotate_left
  · cases hq
  rename_i n sz_lim f_lim m sz_l f_l
  cases hq
  obtain ⟨⟨rfl, i_lim⟩, ⟨rfl, i_l⟩, pre⟩ := hp
  refine ⟨(by
    simp only [BdL, Bd, and_self, and_true, true_and]
    exact ⟨(fun i j hi hj => by rw [i_lim i j hi hj]; trivial), (fun i j hi hj => by rw [i_l i j hi hj]; trivial)⟩), calls_mono (fun _ _ ⟨u, e1, e2⟩ => ⟨u, e1, .inr e2⟩) (calls_congr (args' := [.row n 1 (rowF .i64 (ivf f_lim)), .row m 4 (rowF .i64 (ivf f_l))]) ⟨SameD.int i_lim, SameD.int i_l, trivial⟩ (calls_of_defer (C := cx [] [] [(30, allLimBase), (34, isEntryBase)] [(10, 10, p10_10), (10, 11, p10_11), (10, 12, p10_12), (10, 13, p10_13)] (some [4, 5, 6])) (cx_ok trivial ⟨allLim_base, isEntry_base, trivial⟩) (g := 10) (fn := Try.f10) (fn_10) rfl rfl
    (args := [.row n 1 (rowF .i64 (ivf f_lim)), .row m 4 (rowF .i64 (ivf f_l))]) (K := fun o h' => ∃ u, o = .ret u ∧ FzT h' u (.tup [.row (plyN n (ivf f_lim) m (ivf f_l)) 1 (fun i _ => .int .i64 (balF (ivf f_l) m i)), .int .i64 (plyI n (ivf f_lim) m (ivf f_l)), .int .i64 (plyE n (ivf f_lim) m (ivf f_l))])) 1000 1000 ?_))⟩
  generalize ivf f_lim = lim at *
  generalize ivf f_l = l at *
  simp only [rowF_eq]
  simp only [allLim_eq, isEntry_eq, p10_10, p10_11, p10_12, p10_13, Try.f33, Try.f10, go_sem, ↓reduceIte, Nat.reduceAdd, Nat.reduceSub, Nat.reduceMul, Nat.reduceEqDiff, Nat.reduceLT, Nat.reduceLeDiff, Int.reduceToNat, Int.reduceLE, Int.reduceLT, Int.reduceEq, Int.reduceNeg, reduceCtorEq]
  obtain ⟨pn, pm⟩ := pre
  have hlc : (decide ((n : Int) ≤ 16) && allU (fun i => in3 (lim i 0) 0 1099511627776) n) = limB n lim := by
    have : ((n : Int) ≤ 16) ↔ n ≤ 16 := by omega
    simp only [limB, this, Bool.and_comm]
  have bad : ∀ e i, plyE n lim m l = e → plyI n lim m l = i → e ≠ 0 → ((0 = plyN n lim m l ∧ ∀ (i j : Nat), i < plyN n lim m l → j < 1 → False) ∧ SV.int .i64 (i : Int) = .int .i64 (plyI n lim m l : Int) ∧ SV.int .i64 e = .int .i64 (plyE n lim m l)) := fun e i he hi h0 => by
    have h1 : plyN n lim m l = 0 := by simp [plyN, he, h0]
    rw [h1, he, hi]
    exact ⟨⟨rfl, fun i j hi => by omega⟩, rfl, rfl⟩
  refine ⟨fun c1 => ?_, fun c1 => ⟨pn, fun c2 => ?_, fun c2 => ?_⟩⟩
  · have h : ¬ m ≤ 256 := by simp at c1; omega
    exact bad 3 0 (by simp [plyE, h]) (by simp [plyI, h]) (by decide)
  · have h : m ≤ 256 := by simp at c1; omega
    have h2 : limB n lim = false := by rw [← hlc]; simpa only [Bool.not_eq_true'] using c2
    exact bad 1 0 (by simp [plyE, h, h2]) (by simp [plyI, h, h2]) (by decide)
  have hm : m ≤ 256 := by simp at c1; omega
  have hlim : limB n lim = true := by rw [← hlc]; simpa only [Bool.not_eq_false'] using c2
  obtain ⟨hl, hn⟩ : (∀ i, i < n → 0 ≤ lim i 0 ∧ lim i 0 ≤ 1099511627776) ∧ n ≤ 16 := by
    simp only [limB, Bool.and_eq_true, allU_iff, in3_iff, decide_eq_true_eq] at hlim; exact hlim
  have hI : plyI n lim m l = bad1 n lim l m := by simp [plyI, hm, hlim]
  have hE : plyE n lim m l = if bad1 n lim l m < m then entE n lim l (bad1 n lim l m) else 0 := by simp [plyE, hm, hlim]
  refine ⟨by omega, ?_⟩
  refine loop_of { q : Nat // q ≤ m ∧ ∀ i, i < q → entE n lim l i = 0 } (fun q => [(6, .ptr 1 0), (5, .int .i64 (q.1 : Int)), (4, .ptr 0 0), (1, .row m 4 fun i j => .int .i64 (l i j)), (0, .row n 1 fun i j => .int .i64 (lim i j))])
    (fun q => ⟨[.live 39 [.vec 1 0], .live 27 [.int .i64 0]], [.live 0 3 1 0 fun _ _ => .any, .live 0 3 1 n fun i _ => .int .i64 (balF l q.1 i)]⟩) (fun q => m - q.1) (fun _ => ⟨rfl, rfl⟩) ⟨0, by omega, by omega⟩ (by simp only [balF]; (apply sub_of <;> simp only [go_sem, ↓reduceIte, Nat.reduceAdd, Nat.reduceSub, Nat.reduceMul, Nat.reduceEqDiff, Nat.reduceLT, Nat.reduceLeDiff, Int.reduceToNat, Int.reduceLE, Int.reduceLT, Int.reduceEq, Int.reduceNeg, reduceCtorEq] <;> (try simp [catF]) <;> (try exact fun j _ => Bd_nth (by simp [BdL, Bd]) j) <;> (try exact bd_setL (by simp [bdAs, BdL, Bd])) <;> (try exact nestF_bd _ _ _ _ _ _ _ _ _)); exact fun _ _ => rfl) ?_
  rintro ⟨q, hq, h3⟩
  simp only [allLim_eq, isEntry_eq, p10_10, p10_11, p10_12, p10_13, Try.f33, Try.f10, go_sem, ↓reduceIte, Nat.reduceAdd, Nat.reduceSub, Nat.reduceMul, Nat.reduceEqDiff, Nat.reduceLT, Nat.reduceLeDiff, Int.reduceToNat, Int.reduceLE, Int.reduceLT, Int.reduceEq, Int.reduceNeg, reduceCtorEq]
  have hw3 : IntKind.i64.wrap ((q : Int) + 1) = ((q + 1 : Nat) : Int) := by rw [wrap_id (by omega) (by omega)]; omega
  have hb := balF_bd q h3
  have stop : ∀ e, q < m → entE n lim l q = e → e ≠ 0 → ((0 = plyN n lim m l ∧ ∀ (i j : Nat), i < plyN n lim m l → j < 1 → False) ∧ SV.int .i64 (q : Int) = .int .i64 (plyI n lim m l : Int) ∧ SV.int .i64 e = .int .i64 (plyE n lim m l)) := fun e hqm he h0 => by
    have h1 := bad1_hit (m := m) (by rw [he]; exact h0) h3 hqm
    exact bad e q (by rw [hE, h1, if_pos hqm, he]) (by rw [hI, h1]) h0
  refine ⟨fun e1 => ?_, fun e1 => ?_⟩
  · simp only [decide_eq_true_eq] at e1
    have hqm : q < m := by omega
    have out : ∀ e, q < m → entE n lim l q = e → e ≠ 0 → ∀ {K : Option SV → HS → Prop}, (((0 = plyN n lim m l ∧ ∀ (i j : Nat), i < plyN n lim m l → j < 1 → False) ∧ SV.int .i64 (q : Int) = .int .i64 (plyI n lim m l : Int) ∧ SV.int .i64 e = .int .i64 (plyE n lim m l)) → K none ⟨[.live 39 [.vec 2 0], .live 27 [.int .i64 e], .live 42 [.int .i64 (l q 0), .int .i64 (l q 1), .int .i64 (l q 2), .int .i64 (l q 3)], .live 105 [.int .i64 e]], [.live 0 3 1 0 fun _ _ => .any, .live 0 3 1 n fun i _ => .int .i64 (balF l q i), .live 0 3 1 0 fun _ _ => .any]⟩) →
        DefS Try.prog 32 [.ptr 0 0, .ptr 1 0] (some (.iface 105 (.agg [.int .i64 e]))) ⟨[.live 39 [.vec 1 0], .live 27 [.int .i64 0], .live 42 [.int .i64 (l q 0), .int .i64 (l q 1), .int .i64 (l q 2), .int .i64 (l q 3)]], [.live 0 3 1 0 fun _ _ => .any, .live 0 3 1 n fun i _ => .int .i64 (balF l q i)]⟩ K :=
      fun e h1 h2 h3 K hK => defS_mono (def48_some e _ _ _ _ _ _ _ _) (fun p' h' ⟨e1, e2⟩ => by rw [e1, e2]; exact hK (stop e h1 h2 h3))
    refine ⟨⟨by omega, by omega⟩, ⟨by omega, by omega⟩, fun e2 => out 1 hqm ?_ (by decide) ?_, fun e2 => ?_⟩
    · simp only [entE]
      rw [if_neg]
      rw [show enB n (l q) = false by simp only [enB]; simpa only [Bool.not_eq_true'] using e2]
      decide
    · intro hs
      simp only [allLim_eq, isEntry_eq, p10_10, p10_11, p10_12, p10_13, Try.f33, Try.f10, go_sem, ↓reduceIte, Nat.reduceAdd, Nat.reduceSub, Nat.reduceMul, Nat.reduceEqDiff, Nat.reduceLT, Nat.reduceLeDiff, Int.reduceToNat, Int.reduceLE, Int.reduceLT, Int.reduceEq, Int.reduceNeg, reduceCtorEq]
      exact hs
    have hen : enB n (l q) = true := by simpa [enB] using e2
    obtain ⟨g0, g1, g2, g3, g4⟩ := enB_iff.1 hen
    have w1 : IntKind.i64.wrap (balF l q (l q 1).toNat - l q 3) = balF l q (l q 1).toNat - l q 3 := by have := hb (l q 1).toNat; exact wrap_id (by omega) (by omega)
    have w2 : IntKind.i64.wrap (0 - lim (l q 1).toNat 0) = -(lim (l q 1).toNat 0) := by have := hl (l q 1).toNat (by omega); rw [wrap_id (by omega) (by omega)]; omega
    have hne : ¬ (l q 2).toNat = (l q 1).toNat := by omega
    have hwb : IntKind.i64.wrap (balF l q (l q 2).toNat + l q 3) = balF l q (l q 2).toNat + l q 3 := by have := hb (l q 2).toNat; exact wrap_id (by omega) (by omega)
    have hu := bal_upd (l := l) (q := q) (n := n) (a := (l q 1).toNat) (b := (l q 2).toNat) (X := balF l q (l q 1).toNat - l q 3) (Y := balF l q (l q 2).toNat + l q 3) (by omega) (by omega) (by omega) rfl rfl
    simp only [w1, w2]
    refine ⟨⟨by kernel_rfl, by kernel_rfl⟩, fun e7 => ?_, fun e7 => ?_⟩
    · simp only [decide_eq_true_eq] at e7
      have hq00 : q = 0 := by omega
      refine ⟨⟨by kernel_rfl, by kernel_rfl⟩, ⟨by omega, by omega⟩, by omega, ⟨by omega, by omega⟩, fun e9 => out 10 hqm ?_ (by decide) ?_, fun e9 => ⟨⟨by kernel_rfl, by kernel_rfl⟩, ⟨by omega, by omega⟩, by omega, ⟨by omega, by omega⟩, by omega, ⟨by kernel_rfl, by kernel_rfl⟩, ⟨by omega, by omega⟩, by omega, ?_⟩⟩
      · simp only [Bool.not_eq_true', decide_eq_false_iff_not] at e9
        simp only [entE, hen, if_true, decide_eq_true hq00, Bool.true_or, if_neg e9]
      · intro hs
        simp only [allLim_eq, isEntry_eq, p10_10, p10_11, p10_12, p10_13, Try.f33, Try.f10, go_sem, ↓reduceIte, Nat.reduceAdd, Nat.reduceSub, Nat.reduceMul, Nat.reduceEqDiff, Nat.reduceLT, Nat.reduceLeDiff, Int.reduceToNat, Int.reduceLE, Int.reduceLT, Int.reduceEq, Int.reduceNeg, reduceCtorEq]
        exact hs
      · simp only [Bool.not_eq_false', decide_eq_true_eq] at e9
        have hq0 : entE n lim l q = 0 := by
          simp only [entE, hen, if_true, decide_eq_true hq00, Bool.true_or, if_pos e9]
        rw [if_neg hne]
        simp only [allLim_eq, isEntry_eq, p10_10, p10_11, p10_12, p10_13, Try.f33, Try.f10, go_sem, ↓reduceIte, Nat.reduceAdd, Nat.reduceSub, Nat.reduceMul, Nat.reduceEqDiff, Nat.reduceLT, Nat.reduceLeDiff, Int.reduceToNat, Int.reduceLE, Int.reduceLT, Int.reduceEq, Int.reduceNeg, reduceCtorEq]
        refine ⟨⟨by omega, by omega⟩, by omega, ⟨q + 1, by omega, fun i hi => ?_⟩, by simp only []; omega, ?_⟩
        · rcases Nat.lt_or_ge i q with h | h
          · exact h3 i h
          · obtain rfl : i = q := by omega
            exact hq0
        · apply sub_of <;> simp only [hw3, hwb, go_sem, ↓reduceIte, Nat.reduceAdd, Nat.reduceSub, Nat.reduceMul, Nat.reduceEqDiff, Nat.reduceLT, Nat.reduceLeDiff, Int.reduceToNat, Int.reduceLE, Int.reduceLT, Int.reduceEq, Int.reduceNeg, reduceCtorEq] <;> (try simp) <;> (try exact fun j _ => Bd_nth (by simp [BdL, Bd]) j) <;> (try exact bd_setL (by simp [bdAs, BdL, Bd])) <;> (try exact nestF_bd _ _ _ _ _ _ _ _ _)
          exact fun i hi => by simpa [updF] using hu i 0 hi (by omega)
    · simp only [decide_eq_false_iff_not] at e7
      have hp1 : IntKind.i64.wrap ((q : Int) - 1) = ((q - 1 : Nat) : Int) := by rw [wrap_id (by omega) (by omega)]; omega
      rw [hp1]
      simp only [Int.toNat_natCast]
      refine ⟨⟨by omega, by omega⟩, fun e8 => out 7 hqm ?_ (by decide) ?_, fun e8 => ⟨⟨by kernel_rfl, by kernel_rfl⟩, ⟨by omega, by omega⟩, by omega, ⟨by omega, by omega⟩, fun e9 => out 10 hqm ?_ (by decide) ?_, fun e9 => ⟨⟨by kernel_rfl, by kernel_rfl⟩, ⟨by omega, by omega⟩, by omega, ⟨by omega, by omega⟩, by omega, ⟨by kernel_rfl, by kernel_rfl⟩, ⟨by omega, by omega⟩, by omega, ?_⟩⟩⟩
      · simp only [Bool.not_eq_true', decide_eq_false_iff_not] at e8
        simp [entE, hen, show ¬ q = 0 by omega, e8]
      · intro hs
        simp only [allLim_eq, isEntry_eq, p10_10, p10_11, p10_12, p10_13, Try.f33, Try.f10, go_sem, ↓reduceIte, Nat.reduceAdd, Nat.reduceSub, Nat.reduceMul, Nat.reduceEqDiff, Nat.reduceLT, Nat.reduceLeDiff, Int.reduceToNat, Int.reduceLE, Int.reduceLT, Int.reduceEq, Int.reduceNeg, reduceCtorEq]
        exact hs
      · simp only [Bool.not_eq_true', Bool.not_eq_false', decide_eq_true_eq, decide_eq_false_iff_not] at e8 e9
        simp [entE, hen, e8, e9]
      · intro hs
        simp only [allLim_eq, isEntry_eq, p10_10, p10_11, p10_12, p10_13, Try.f33, Try.f10, go_sem, ↓reduceIte, Nat.reduceAdd, Nat.reduceSub, Nat.reduceMul, Nat.reduceEqDiff, Nat.reduceLT, Nat.reduceLeDiff, Int.reduceToNat, Int.reduceLE, Int.reduceLT, Int.reduceEq, Int.reduceNeg, reduceCtorEq]
        exact hs
      · simp only [Bool.not_eq_false', decide_eq_true_eq] at e8 e9
        have hq0 : entE n lim l q = 0 := by
          simp [entE, hen, e8, e9]
        rw [if_neg hne]
        simp only [allLim_eq, isEntry_eq, p10_10, p10_11, p10_12, p10_13, Try.f33, Try.f10, go_sem, ↓reduceIte, Nat.reduceAdd, Nat.reduceSub, Nat.reduceMul, Nat.reduceEqDiff, Nat.reduceLT, Nat.reduceLeDiff, Int.reduceToNat, Int.reduceLE, Int.reduceLT, Int.reduceEq, Int.reduceNeg, reduceCtorEq]
        refine ⟨⟨by omega, by omega⟩, by omega, ⟨q + 1, by omega, fun i hi => ?_⟩, by simp only []; omega, ?_⟩
        · rcases Nat.lt_or_ge i q with h | h
          · exact h3 i h
          · obtain rfl : i = q := by omega
            exact hq0
        · apply sub_of <;> simp only [hw3, hwb, go_sem, ↓reduceIte, Nat.reduceAdd, Nat.reduceSub, Nat.reduceMul, Nat.reduceEqDiff, Nat.reduceLT, Nat.reduceLeDiff, Int.reduceToNat, Int.reduceLE, Int.reduceLT, Int.reduceEq, Int.reduceNeg, reduceCtorEq] <;> (try simp) <;> (try exact fun j _ => Bd_nth (by simp [BdL, Bd]) j) <;> (try exact bd_setL (by simp [bdAs, BdL, Bd])) <;> (try exact nestF_bd _ _ _ _ _ _ _ _ _)
          exact fun i hi => by simpa [updF] using hu i 0 hi (by omega)
  · simp only [decide_eq_false_iff_not] at e1
    obtain rfl : q = m := by omega
    have hb1 := bad1_all h3
    have hE0 : plyE n lim q l = 0 := by rw [hE, hb1, if_neg (by omega)]
    have hN : plyN n lim q l = n := by simp [plyN, hE0]
    refine defS_mono (def48_none _ _ _) (fun p' h' ⟨e1, e2⟩ => ?_)
    rw [e1, e2]
    simp only [allLim_eq, isEntry_eq, p10_10, p10_11, p10_12, p10_13, Try.f33, Try.f10, go_sem, ↓reduceIte, Nat.reduceAdd, Nat.reduceSub, Nat.reduceMul, Nat.reduceEqDiff, Nat.reduceLT, Nat.reduceLeDiff, Int.reduceToNat, Int.reduceLE, Int.reduceLT, Int.reduceEq, Int.reduceNeg, reduceCtorEq]
    rw [hE0, hN, hI, hb1]
    exact ⟨⟨rfl, fun _ _ _ _ => trivial⟩, rfl, rfl⟩
end Go.Eng
end

/- gear: shops, and how long a pair lasts. -/
section
namespace Go.Eng
open Go Go.RowKit Go.Proofs
set_option maxRecDepth 100000
set_option maxHeartbeats 4000000
attribute [local irreducible] OwnT DefS
def gwithinBase : BaseF := fun args => match args with
  | [.int .i64 n, .int .i64 lo, .int .i64 hi] => some (True, .bool (in3 n lo hi))
  | _ => none
theorem gwithin_eq (n : Int) (lo : Int) (hi : Int) : gwithinBase [.int .i64 n, .int .i64 lo, .int .i64 hi] = some (True, .bool (in3 n lo hi)) := rfl
theorem gwithin_base : Base Try.prog 27 gwithinBase := by
  intro args p v hq hp
  unfold gwithinBase at hq
  split at hq
  rotate_left
  · cases hq
  rename_i n lo hi
  cases hq
  refine base_of (C := cx [] [] [] [] none) (cx_ok trivial trivial) rfl (g := 27) (fn := Try.f27)
    (args' := [.int .i64 n, .int .i64 lo, .int .i64 hi]) (fn_27) rfl 1000 (by simp only [BdL, Bd, and_self, and_true, true_and]) ⟨SameD.rfl' _, SameD.rfl' _, SameD.rfl' _, trivial⟩ ?_
  simp only [Try.f27, go_sem, ↓reduceIte, Nat.reduceAdd, Nat.reduceSub, Nat.reduceMul, Nat.reduceEqDiff, Nat.reduceLT, Nat.reduceLeDiff, Int.reduceToNat, Int.reduceLE, Int.reduceLT, Int.reduceEq, Int.reduceNeg, reduceCtorEq]
  (repeat' refine And.intro (fun _ => ?_) (fun _ => ?_)) <;> simp_all [in3] <;> omega
def ginBase : BaseF := fun args => match args with
  | [.int .i64 n, .int .i64 lo, .int .i64 hi] => some (True, .bool (in3 n lo hi))
  | _ => none
theorem gin_eq (n : Int) (lo : Int) (hi : Int) : ginBase [.int .i64 n, .int .i64 lo, .int .i64 hi] = some (True, .bool (in3 n lo hi)) := rfl
theorem gin_base : Base Try.prog 28 ginBase := by
  intro args p v hq hp
  unfold ginBase at hq
  split at hq
  rotate_left
  · cases hq
  rename_i n lo hi
  cases hq
  refine base_of (C := cx [] [] [] [] none) (cx_ok trivial trivial) rfl (g := 28) (fn := Try.f28)
    (args' := [.int .i64 n, .int .i64 lo, .int .i64 hi]) (fn_28) rfl 1000 (by simp only [BdL, Bd, and_self, and_true, true_and]) ⟨SameD.rfl' _, SameD.rfl' _, SameD.rfl' _, trivial⟩ ?_
  simp only [Try.f28, go_sem, ↓reduceIte, Nat.reduceAdd, Nat.reduceSub, Nat.reduceMul, Nat.reduceEqDiff, Nat.reduceLT, Nat.reduceLeDiff, Int.reduceToNat, Int.reduceLE, Int.reduceLT, Int.reduceEq, Int.reduceNeg, reduceCtorEq]
  (repeat' refine And.intro (fun _ => ?_) (fun _ => ?_)) <;> simp_all [in3] <;> omega
/-- A shop within bounds. -/
def shB (f n c l lo hi : Int) : Bool := in3 f 1 10000 && (in3 n 0 f && (in3 c 1 10000 && (in3 l 0 10000 && (decide (0 ≤ lo) && (decide (lo ≤ hi) && decide (hi ≤ 1000))))))
theorem shB_iff {f n c l lo hi : Int} : shB f n c l lo hi = true ↔ (1 ≤ f ∧ f ≤ 10000) ∧ (0 ≤ n ∧ n ≤ f) ∧ (1 ≤ c ∧ c ≤ 10000) ∧ (0 ≤ l ∧ l ≤ 10000) ∧ 0 ≤ lo ∧ lo ≤ hi ∧ hi ≤ 1000 := by
  simp only [shB, Bool.and_eq_true, in3_iff, decide_eq_true_eq]
def isShopBase : BaseF := fun args => match args with
  | [.agg [.int .i64 f, .int .i64 n, .int .i64 c, .int .i64 l, .int .i64 lo, .int .i64 hi]] => some (True, .bool (shB f n c l lo hi))
  | _ => none
theorem isShop_eq (f : Int) (n : Int) (c : Int) (l : Int) (lo : Int) (hi : Int) : isShopBase [.agg [.int .i64 f, .int .i64 n, .int .i64 c, .int .i64 l, .int .i64 lo, .int .i64 hi]] = some (True, .bool (shB f n c l lo hi)) := rfl
theorem isShop_base : Base Try.prog 26 isShopBase := by
  intro args p v hq hp
  unfold isShopBase at hq
  split at hq
  rotate_left
  · cases hq
  rename_i f n c l lo hi
  cases hq
  refine base_of (C := cx [] [] [(27, gwithinBase)] [] none) (cx_ok trivial ⟨gwithin_base, trivial⟩) rfl (g := 26) (fn := Try.f26)
    (args' := [.agg [.int .i64 f, .int .i64 n, .int .i64 c, .int .i64 l, .int .i64 lo, .int .i64 hi]]) (fn_26) rfl 1000 (by simp only [BdL, Bd, and_self, and_true, true_and]) ⟨SameD.rfl' _, trivial⟩ ?_
  simp only [gwithin_eq, Try.f26, go_sem, ↓reduceIte, Nat.reduceAdd, Nat.reduceSub, Nat.reduceMul, Nat.reduceEqDiff, Nat.reduceLT, Nat.reduceLeDiff, Int.reduceToNat, Int.reduceLE, Int.reduceLT, Int.reduceEq, Int.reduceNeg, reduceCtorEq]
  unfold shB
  cases in3 f 1 10000 <;> cases in3 n 0 f <;> cases in3 c 1 10000 <;> cases in3 l 0 10000 <;> cases decide (0 ≤ lo) <;> cases decide (lo ≤ hi) <;> simp [spl]
def shopRBase : BaseF := fun args => match args with
  | [.agg [.int .i64 f, .int .i64 n, .int .i64 c, .int .i64 l, .int .i64 lo, .int .i64 hi]] => some (True, .bool (shB f n c l lo hi))
  | _ => none
theorem shopR_eq (f : Int) (n : Int) (c : Int) (l : Int) (lo : Int) (hi : Int) : shopRBase [.agg [.int .i64 f, .int .i64 n, .int .i64 c, .int .i64 l, .int .i64 lo, .int .i64 hi]] = some (True, .bool (shB f n c l lo hi)) := rfl
theorem shopR_base : Base Try.prog 8 shopRBase := by
  intro args p v hq hp
  unfold shopRBase at hq
  split at hq
  rotate_left
  · cases hq
  rename_i f n c l lo hi
  cases hq
  refine base_of (C := cx [] [] [(28, ginBase)] [] none) (cx_ok trivial ⟨gin_base, trivial⟩) rfl (g := 8) (fn := Try.f8)
    (args' := [.agg [.int .i64 f, .int .i64 n, .int .i64 c, .int .i64 l, .int .i64 lo, .int .i64 hi]]) (fn_8) rfl 1000 (by simp only [BdL, Bd, and_self, and_true, true_and]) ⟨SameD.rfl' _, trivial⟩ ?_
  simp only [gin_eq, Try.f8, go_sem, ↓reduceIte, Nat.reduceAdd, Nat.reduceSub, Nat.reduceMul, Nat.reduceEqDiff, Nat.reduceLT, Nat.reduceLeDiff, Int.reduceToNat, Int.reduceLE, Int.reduceLT, Int.reduceEq, Int.reduceNeg, reduceCtorEq]
  unfold shB
  cases in3 f 1 10000 <;> cases in3 n 0 f <;> cases in3 c 1 10000 <;> cases in3 l 0 10000 <;> cases decide (0 ≤ lo) <;> cases decide (lo ≤ hi) <;> simp [spl]
/-- Why it is not told how long a pair lasts. -/
def laE (f n c l lo hi b : Int) : Int := if shB f n c l lo hi then if in3 b 0 10000 then if decide (hi = 0) || decide (n = 0) then 4 else 0 else 2 else 1
/-- Loans between two grindings; grindings. -/
def laL (f n hi : Int) : Int := (f - n).tdiv hi + 1
def laG (c l b : Int) : Int := (max 0 (b - l)).tdiv c
def laN (f n c l lo hi b : Int) : Int := if laE f n c l lo hi b = 0 then laL f n hi * (laG c l b + 1) else 0
def lastsBase : BaseF := fun args => match args with
  | [.agg [.int .i64 f, .int .i64 n, .int .i64 c, .int .i64 l, .int .i64 lo, .int .i64 hi], .int .i64 b] => some (True, .tup [.int .i64 (laN f n c l lo hi b), .int .i64 (laE f n c l lo hi b)])
  | _ => none
theorem lasts_eq (f : Int) (n : Int) (c : Int) (l : Int) (lo : Int) (hi : Int) (b : Int) : lastsBase [.agg [.int .i64 f, .int .i64 n, .int .i64 c, .int .i64 l, .int .i64 lo, .int .i64 hi], .int .i64 b] = some (True, .tup [.int .i64 (laN f n c l lo hi b), .int .i64 (laE f n c l lo hi b)]) := rfl
theorem lasts_base : Base Try.prog 6 lastsBase := by
  intro args p v hq hp
  unfold lastsBase at hq
  split at hq
  rotate_left
  · cases hq
  rename_i f n c l lo hi b
  cases hq
  refine base_of (C := cx [] [] [(26, isShopBase), (27, gwithinBase)] [(6, 7, p6_7)] none) (cx_ok trivial ⟨isShop_base, gwithin_base, trivial⟩) rfl (g := 6) (fn := Try.f6)
    (args' := [.agg [.int .i64 f, .int .i64 n, .int .i64 c, .int .i64 l, .int .i64 lo, .int .i64 hi], .int .i64 b]) (fn_6) rfl 1000 (by simp only [BdL, Bd, and_self, and_true, true_and]) ⟨SameD.rfl' _, SameD.rfl' _, trivial⟩ ?_
  cases c1 : shB f n c l lo hi with
  | false =>
    simp only [c1, isShop_eq, gwithin_eq, p6_7, Try.f6, go_sem, ↓reduceIte, Nat.reduceAdd, Nat.reduceSub, Nat.reduceMul, Nat.reduceEqDiff, Nat.reduceLT, Nat.reduceLeDiff, Int.reduceToNat, Int.reduceLE, Int.reduceLT, Int.reduceEq, Int.reduceNeg, reduceCtorEq]
    simp [laN, laE, c1]
  | true =>
  cases c2 : in3 b 0 10000 with
  | false =>
    simp only [c1, c2, isShop_eq, gwithin_eq, p6_7, Try.f6, go_sem, ↓reduceIte, Nat.reduceAdd, Nat.reduceSub, Nat.reduceMul, Nat.reduceEqDiff, Nat.reduceLT, Nat.reduceLeDiff, Int.reduceToNat, Int.reduceLE, Int.reduceLT, Int.reduceEq, Int.reduceNeg, reduceCtorEq]
    simp [laN, laE, c1, c2]
  | true =>
  cases c3 : decide (hi = 0) with
  | true =>
    simp only [c1, c2, c3, isShop_eq, gwithin_eq, p6_7, Try.f6, go_sem, ↓reduceIte, Nat.reduceAdd, Nat.reduceSub, Nat.reduceMul, Nat.reduceEqDiff, Nat.reduceLT, Nat.reduceLeDiff, Int.reduceToNat, Int.reduceLE, Int.reduceLT, Int.reduceEq, Int.reduceNeg, reduceCtorEq]
    simp only [laN, laE, c1, c2, c3, Bool.true_or, if_true, if_neg (show ¬ (4 : Int) = 0 by decide)]
  | false =>
  cases c4 : decide (n = 0) with
  | true =>
    simp only [c1, c2, c3, c4, isShop_eq, gwithin_eq, p6_7, Try.f6, go_sem, ↓reduceIte, Nat.reduceAdd, Nat.reduceSub, Nat.reduceMul, Nat.reduceEqDiff, Nat.reduceLT, Nat.reduceLeDiff, Int.reduceToNat, Int.reduceLE, Int.reduceLT, Int.reduceEq, Int.reduceNeg, reduceCtorEq]
    simp only [laN, laE, c1, c2, c3, c4, Bool.or_true, if_true, if_neg (show ¬ (4 : Int) = 0 by decide)]
  | false =>
    simp only [c1, c2, c3, c4, isShop_eq, gwithin_eq, p6_7, Try.f6, go_sem, ↓reduceIte, Nat.reduceAdd, Nat.reduceSub, Nat.reduceMul, Nat.reduceEqDiff, Nat.reduceLT, Nat.reduceLeDiff, Int.reduceToNat, Int.reduceLE, Int.reduceLT, Int.reduceEq, Int.reduceNeg, reduceCtorEq]
    obtain ⟨hf, hn, hc, hl, h0, h1, h2⟩ := shB_iff.1 c1
    have hb := in3_iff.1 c2
    have n3 := of_decide_eq_false c3
    have hE : laE f n c l lo hi b = 0 := by simp [laE, c1, c2, n3, of_decide_eq_false c4]
    have q1 := Int.tdiv_nonneg (a := f - n) (b := hi) (by omega) (by omega)
    have q2 := Int.tdiv_le_self (a := f - n) hi (by omega)
    have q3 := Int.tdiv_nonneg (a := max 0 (b - l)) (b := c) (by omega) (by omega)
    have q4 := Int.tdiv_le_self (a := max 0 (b - l)) c (by omega)
    have w1 : IntKind.i64.wrap (f - n) = f - n := wrap_id (by omega) (by omega)
    have w2 : IntKind.i64.wrap (b - l) = b - l := wrap_id (by omega) (by omega)
    have w3 : IntKind.i64.wrap ((f - n).tdiv hi) = (f - n).tdiv hi := wrap_id (by omega) (by omega)
    have w4 : IntKind.i64.wrap ((max 0 (b - l)).tdiv c) = (max 0 (b - l)).tdiv c := wrap_id (by omega) (by omega)
    have w5 : IntKind.i64.wrap ((f - n).tdiv hi + 1) = laL f n hi := wrap_id (by omega) (by omega)
    have w6 : IntKind.i64.wrap ((max 0 (b - l)).tdiv c + 1) = laG c l b + 1 := wrap_id (by omega) (by omega)
    have g1 : 1 ≤ laL f n hi ∧ laL f n hi ≤ 10001 := by unfold laL; omega
    have g2 : 1 ≤ laG c l b + 1 ∧ laG c l b + 1 ≤ 10001 := by unfold laG; omega
    have g3 : laL f n hi * (laG c l b + 1) ≤ 10001 * 10001 := Int.mul_le_mul g1.2 g2.2 (by omega) (by omega)
    have g4 : 0 ≤ laL f n hi * (laG c l b + 1) := Int.mul_nonneg (by omega) (by omega)
    have w7 : IntKind.i64.wrap (laL f n hi * (laG c l b + 1)) = laL f n hi * (laG c l b + 1) := wrap_id (by omega) (by omega)
    refine ⟨⟨by kernel_rfl, by kernel_rfl⟩, n3, by omega, ?_⟩
    simp only [w1, w2, w3, w4, w5, w6, w7, laN, hE, if_true]
end Go.Eng
end

/- gear: a pair of skates, event by event. -/
section
namespace Go.Eng
open Go Go.RowKit Go.Proofs
set_option maxRecDepth 100000
set_option maxHeartbeats 4000000
attribute [local irreducible] OwnT DefS
/-- The pair: its edge, its blade, who has it, since when. -/
structure GP where
  lo : Int
  hi : Int
  bl : Int
  wi : Int
  si : Int
/-- A shop. -/
structure GS where
  f : Int
  n : Int
  c : Int
  ls : Int
  wl : Int
  wh : Int
def gerr (s : GS) (p : GP) (x : Nat → Int) : Int :=
  if x 1 = 1 then if p.wi = -1 then if s.n ≤ p.lo then 0 else 11 else 6
  else if x 1 = 2 then if p.wi = -1 then 6 else 0
  else if p.wi = -1 then if s.ls ≤ p.bl - s.c then 0 else 10 else 6
def gdo (s : GS) (p : GP) (x : Nat → Int) : GP :=
  if x 1 = 1 then ⟨p.lo, p.hi, p.bl, x 3, x 0⟩
  else if x 1 = 2 then ⟨max 0 (p.lo - (x 0 - p.si + 60 - 1).tdiv 60 * s.wh), max 0 (p.hi - (x 0 - p.si + 60 - 1).tdiv 60 * s.wl), p.bl, -1, x 0⟩
  else ⟨s.f, s.f, p.bl - s.c, p.wi, p.si⟩
/-- The pair behind the first event and q more ones. -/
def gst (s : GS) (l : Nat → Nat → Int) : Nat → GP
  | 0 => ⟨s.f, s.f, 5000, -1, 0⟩
  | q + 1 => gdo s (gst s l q) (l (q + 1))
def gE (s : GS) (l : Nat → Nat → Int) : Nat → Int
  | 0 => 0
  | q + 1 => if gE s l q = 0 then gerr s (gst s l q) (l (q + 1)) else gE s l q
def gI (s : GS) (l : Nat → Nat → Int) : Nat → Nat
  | 0 => 1
  | q + 1 => if gE s l q = 0 then if gerr s (gst s l q) (l (q + 1)) = 0 then q + 2 else q + 1 else gI s l q
/-- Events of one pair: it is bought, then lent, returned and ground. -/
structure GOk (m : Nat) (l : Nat → Nat → Int) : Prop where
  m1 : 1 ≤ m
  m2 : m ≤ 256
  b : l 0 0 = 0 ∧ l 0 1 = 0 ∧ l 0 2 = 0 ∧ l 0 3 = 40
  t : ∀ i, i < m → 0 ≤ l i 0 ∧ l i 0 ≤ 1048576
  o : ∀ i, i + 1 < m → l i 0 ≤ l (i + 1) 0
  p : ∀ i, i < m → l i 2 = 0
  k : ∀ i, 0 < i → i < m → l i 1 = 1 ∧ l i 3 = 7 ∨ l i 1 = 2 ∧ l i 3 = 0 ∨ l i 1 = 3 ∧ l i 3 = 0
def gpC (p : GP) : Nat → Nat → SV := oneF [.int .i64 40, .int .i64 p.lo, .int .i64 p.hi, .int .i64 p.bl, .int .i64 p.wi, .int .i64 p.si, .bool false]
def gsC (s : GS) : List SV := [.int .i64 s.f, .int .i64 s.n, .int .i64 s.c, .int .i64 s.ls, .int .i64 s.wl, .int .i64 s.wh]
def gpV (s : GS) (l : Nat → Nat → Int) : Nat → Vc
  | 0 => .live 0 296 7 0 (fun _ _ => .any)
  | q + 1 => .live 1 296 7 1 (gpC (gst s l q))
def gpK (s : GS) (m : Nat) (l : Nat → Nat → Int) (o : Out) (h' : HS) : Prop :=
  (gE s l (m - 1) = 0 ∧ o = .ret (.tup [.ptr 3 0, .int .i64 (m : Int), .int .i64 0]) ∧ ∃ B0 B1 B2 B V, h' = ⟨B0 :: B1 :: B2 :: .live 193 (gsC s ++ [.vec 0 1]) :: B, .live 1 296 7 1 (gpC (gst s l (m - 1))) :: V⟩) ∨
  (gE s l (m - 1) ≠ 0 ∧ o = .ret (.tup [.nilp, .int .i64 (gI s l (m - 1) : Int), .int .i64 (gE s l (m - 1))]))
theorem gst_bd {s : GS} (hs : shB s.f s.n s.c s.ls s.wl s.wh = true) {m : Nat} {l : Nat → Nat → Int} (hl : GOk m l) : ∀ q, q < m → (0 ≤ (gst s l q).lo ∧ (gst s l q).lo ≤ 10000) ∧ (0 ≤ (gst s l q).hi ∧ (gst s l q).hi ≤ 10000) ∧ (-(10000 * (q : Int)) ≤ (gst s l q).bl ∧ (gst s l q).bl ≤ 5000) ∧ 0 ≤ (gst s l q).si ∧ (gst s l q).si ≤ l q 0
  | 0, h => by
    obtain ⟨hf, _⟩ := shB_iff.1 hs
    have := hl.b.1
    simp only [gst]; omega
  | q + 1, h => by
    obtain ⟨⟨f1, f2⟩, _, ⟨c1, c2⟩, _, w0, w1, w2⟩ := shB_iff.1 hs
    obtain ⟨⟨a1, a2⟩, ⟨a3, a4⟩, ⟨a5, a6⟩, a7, a8⟩ := gst_bd hs hl q (by omega)
    have o1 := hl.o q h
    have t1 := hl.t (q + 1) h
    simp only [gst, gdo]
    split
    · simp only []; omega
    · split
      · have h0 : 0 ≤ (l (q + 1) 0 - (gst s l q).si + 60 - 1).tdiv 60 := Int.tdiv_nonneg (by omega) (by omega)
        have h1 := Int.mul_nonneg h0 (show 0 ≤ s.wh by omega)
        have h2 := Int.mul_nonneg h0 (show 0 ≤ s.wl by omega)
        simp only []; omega
      · simp only []; omega
theorem getB_sn (l : List Blk) (v : Blk) : getB (snocB l v) (lenB l) = v := by rw [getB_snoc, if_pos rfl]
theorem setB_sn : ∀ (l : List Blk) (v v' : Blk), setB (snocB l v) (lenB l) v' = snocB l v'
  | [], v, v' => rfl
  | x :: l, v, v' => by simp only [snocB, lenB, setB, setB_sn l v v']
theorem def117_none (h : HS) (a b : Nat) : DefS Try.prog 117 [.ptr a 0, .ptr b 0] none h (fun p' h' => p' = none ∧ h' = h) := by
  refine defS_of_run (C := cx [] [] [] [] (some [])) (cx_ok trivial trivial) (g := 117) (fn := Try.f117) fn_117 rfl rfl rfl 1000 1000 ?_
  simp only [Try.f117, go_sem, ↓reduceIte, Nat.reduceAdd, Nat.reduceSub, Nat.reduceMul, Nat.reduceEqDiff, Nat.reduceLT, Nat.reduceLeDiff, Int.reduceToNat, Int.reduceLE, Int.reduceLT, Int.reduceEq, Int.reduceNeg, reduceCtorEq]
/-- A panic's error is what is returned. -/
theorem def117_some (e : Int) (a b : SV) (B0 : Blk) (B : List Blk) (V : List Vc) : DefS Try.prog 117 [.ptr 1 0, .ptr 2 0] (some (.iface 219 (.agg [.int .i64 e]))) ⟨B0 :: .live 189 [a] :: .live 27 [b] :: B, V⟩
    (fun p' h' => p' = none ∧ h' = ⟨B0 :: .live 189 [.nilp] :: .live 27 [.int .i64 e] :: snocB B (.live 219 [.int .i64 e]), V⟩) := by
  refine defS_of_run (C := cx [] [] [] [(117, 5, p117_5)] (some [])) (cx_ok trivial trivial) (g := 117) (fn := Try.f117) fn_117 rfl rfl rfl 1000 1000 ?_
  simp only [Try.f117, p117_5, getB_sn, setB_sn, go_sem, ↓reduceIte, Nat.reduceAdd, Nat.reduceSub, Nat.reduceMul, Nat.reduceEqDiff, Nat.reduceLT, Nat.reduceLeDiff, Int.reduceToNat, Int.reduceLE, Int.reduceLT, Int.reduceEq, Int.reduceNeg, reduceCtorEq]
  exact ⟨by kernel_rfl, by kernel_rfl⟩
theorem gE_stop {s : GS} {l : Nat → Nat → Int} {a : Nat} (h : gE s l a ≠ 0) : ∀ {b : Nat}, a ≤ b → gE s l b = gE s l a ∧ gI s l b = gI s l a
  | 0, hb => by obtain rfl : a = 0 := by omega
                exact ⟨rfl, rfl⟩
  | b + 1, hb => by
    rcases Nat.lt_or_ge b a with g | g
    · obtain rfl : a = b + 1 := by omega
      exact ⟨rfl, rfl⟩
    · obtain ⟨h1, h2⟩ := gE_stop h g
      have h3 : gE s l b ≠ 0 := by rw [h1]; exact h
      simp only [gE, gI, if_neg h3]
      exact ⟨h1, h2⟩
theorem gp_bad {s : GS} {l : Nat → Nat → Int} {m q : Nat} {e : Int} (hq : q + 1 < m) (h0 : gE s l q = 0) (he : gerr s (gst s l q) (l (q + 1)) = e) (hz : e ≠ 0) : gE s l (m - 1) = e ∧ gI s l (m - 1) = q + 1 := by
  have h1 : gE s l (q + 1) = e := by simp only [gE, h0, if_true, he]
  have h2 : gI s l (q + 1) = q + 1 := by simp only [gI, h0, if_true, he, if_neg hz]
  obtain ⟨h3, h4⟩ := gE_stop (s := s) (l := l) (a := q + 1) (by rw [h1]; exact hz) (b := m - 1) (by omega)
  rw [h3, h4, h1, h2]; exact ⟨rfl, rfl⟩
theorem gp_out (C : Ctx) (hT : C.T = tab) {s : GS} {l : Nat → Nat → Int} {m q : Nat} (e : Int) (hq : q + 1 < m) (h0 : gE s l q = 0) (he : gerr s (gst s l q) (l (q + 1)) = e) (hz : e ≠ 0) (a b : SV) (B0 : Blk) (B : List Blk) (V : List Vc) :
    DefS Try.prog 117 [.ptr 1 0, .ptr 2 0] (some (.iface 219 (.agg [.int .i64 e]))) ⟨B0 :: .live 189 [a] :: .live 27 [b] :: B, V⟩ (resultQ C Try.f82 (gpK s m l) [.ptr 1 0, .int .i64 ((q + 1 : Nat) : Int), .ptr 2 0]) := by
  refine defS_mono (def117_some e _ _ _ _ _) ?_
  rintro p' h' ⟨rfl, rfl⟩
  obtain ⟨h1, h2⟩ := gp_bad hq h0 he hz
  simp only [hT, Try.f82, go_sem, ↓reduceIte, Nat.reduceAdd, Nat.reduceSub, Nat.reduceMul, Nat.reduceEqDiff, Nat.reduceLT, Nat.reduceLeDiff, Int.reduceToNat, Int.reduceLE, Int.reduceLT, Int.reduceEq, Int.reduceNeg, reduceCtorEq]
  refine .inr ⟨by rw [h1]; exact hz, ?_⟩
  rw [h1, h2]
theorem gplay_calls {s : GS} (hs : shB s.f s.n s.c s.ls s.wl s.wh = true) {m : Nat} {l : Nat → Nat → Int} (hl : GOk m l) :
    CallsS Try.prog 82 [.agg (gsC s), .row m 4 (fun i j => .int .i64 (l i j))] ⟨[], []⟩ (gpK s m l) := by
  refine calls_of_defer (C := cx [] [] [(26, isShopBase), (27, gwithinBase)] [(82, 11, p82_11), (182, 2, p182_2), (183, 1, p183_1), (184, 3, p184_3), (190, 4, p190_4), (191, 2, p191_2), (191, 3, p191_3)] (some [4, 5, 6])) (cx_ok trivial ⟨isShop_base, gwithin_base, trivial⟩) (g := 82) (fn := Try.f82) fn_82 rfl rfl 1000 1000 ?_
  have hm2 := hl.m2
  have hm : decide (256 < (m : Int)) = false := decide_eq_false (by omega)
  simp only [gsC, hs, hm, isShop_eq, gwithin_eq, Try.f82, go_sem, ↓reduceIte, Nat.reduceAdd, Nat.reduceSub, Nat.reduceMul, Nat.reduceEqDiff, Nat.reduceLT, Nat.reduceLeDiff, Int.reduceToNat, Int.reduceLE, Int.reduceLT, Int.reduceEq, Int.reduceNeg, reduceCtorEq]
  refine loop_ofH { i : Nat // i ≤ m ∧ gE s l (i - 1) = 0 } (fun i => [(6, .ptr 2 0), (5, .int .i64 (i.1 : Int)), (4, .ptr 1 0), (1, .row m 4 fun i j => .int .i64 (l i j))]) (fun _ i => ⟨[.live 25 (gsC s), .live 189 [.ptr 3 0], .live 27 [.int .i64 0], .live 193 (gsC s ++ [.vec 0 (if i.1 = 0 then 0 else 1)])], [gpV s l i.1]⟩) (fun i => m - i.1) (fun _ => ⟨rfl, rfl⟩) ⟨0, by omega, rfl⟩ ?_ ?_
  · apply sub_of <;> simp only [gsC, gpV, List.cons_append, List.nil_append, go_sem, ↓reduceIte, Nat.reduceAdd, Nat.reduceSub, Nat.reduceMul, Nat.reduceEqDiff, Nat.reduceLT, Nat.reduceLeDiff, Int.reduceToNat, Int.reduceLE, Int.reduceLT, Int.reduceEq, Int.reduceNeg, reduceCtorEq] <;> (try simp)
    all_goals trace_state
  rintro ⟨i, hi, hE⟩
  have hvv : (if i = 0 then 0 else 1) = (if i = 0 then 0 else 1) := rfl
  simp only at hi hE ⊢
  by_cases im : i < m
  rotate_left
  · obtain rfl : i = m := by omega
    have e1 : decide ((i : Int) < (i : Int)) = false := decide_eq_false (by omega)
    have hm1 := hl.m1
    obtain ⟨q, rfl⟩ : ∃ q, i = q + 1 := ⟨i - 1, by omega⟩
    have hz : (if q + 1 = 0 then (0 : Nat) else 1) = 1 := if_neg (by omega)
    simp only [e1, hz, gsC, gpV, List.cons_append, List.nil_append, Try.f82, go_sem, ↓reduceIte, Nat.reduceAdd, Nat.reduceSub, Nat.reduceMul, Nat.reduceEqDiff, Nat.reduceLT, Nat.reduceLeDiff, Int.reduceToNat, Int.reduceLE, Int.reduceLT, Int.reduceEq, Int.reduceNeg, reduceCtorEq]
    refine defS_mono (def117_none _ _ _) (fun p' h' ⟨e1, e2⟩ => ?_)
    rw [e1, e2]
    simp only [Try.f82, go_sem, ↓reduceIte, Nat.reduceAdd, Nat.reduceSub, Nat.reduceMul, Nat.reduceEqDiff, Nat.reduceLT, Nat.reduceLeDiff, Int.reduceToNat, Int.reduceLE, Int.reduceLT, Int.reduceEq, Int.reduceNeg, reduceCtorEq]
    exact .inl ⟨hE, rfl, _, _, _, _, _, rfl⟩
  have e1 : decide ((i : Int) < (m : Int)) = true := decide_eq_true (by omega)
  cases i with
  | zero =>
    obtain ⟨b0, b1, b2, b3⟩ := hl.b
    have z0 : (if (0 : Nat) = 0 then (0 : Nat) else 1) = 0 := rfl
    have z1 : decide (((0 : Nat) : Int) = 0) = true := rfl
    have j1 : in3 0 0 1048576 = true := rfl
    have j2 : in3 0 0 63 = true := rfl
    have j3 : in3 40 0 60 = true := rfl
    have z2 : decide (((0 : Nat) : Int) < 64) = true := rfl
    simp only [e1, z0, z1, z2, j1, j2, j3, b0, b1, b2, b3, gsC, gpV, List.cons_append, List.nil_append, isShop_eq, gwithin_eq, p82_11, p182_2, p183_1, Try.f82, Try.f118, Try.f119, Try.f120, Try.f182, Try.f183, go_sem, ↓reduceIte, Nat.reduceAdd, Nat.reduceSub, Nat.reduceMul, Nat.reduceEqDiff, Nat.reduceLT, Nat.reduceLeDiff, Int.reduceToNat, Int.reduceLE, Int.reduceLT, Int.reduceEq, Int.reduceNeg, reduceCtorEq]
    refine ⟨⟨by omega, by omega⟩, ⟨by kernel_rfl, by kernel_rfl⟩, ⟨by kernel_rfl, by kernel_rfl⟩, ⟨by kernel_rfl, by kernel_rfl⟩, ⟨by omega, by omega⟩, ⟨1, by omega, rfl⟩, by simp only []; omega, ?_⟩
    have w1 : IntKind.i64.wrap (((0 : Nat) : Int) + 1) = ((1 : Nat) : Int) := rfl
    have z3 : (if (1 : Nat) = 0 then (0 : Nat) else 1) = 1 := rfl
    apply sub_of <;> simp only [gsC, gpV, gpC, gst, w1, z3, List.cons_append, List.nil_append, go_sem, ↓reduceIte, Nat.reduceAdd, Nat.reduceSub, Nat.reduceMul, Nat.reduceEqDiff, Nat.reduceLT, Nat.reduceLeDiff, Int.reduceToNat, Int.reduceLE, Int.reduceLT, Int.reduceEq, Int.reduceNeg, reduceCtorEq] <;> (try simp)
    · exact fun i j hi _ => by subst hi; rfl
    · exact fun i j _ _ => Bd_nth (by simp [BdL, Bd]) j
  | succ q =>
    have j1 : in3 (l (q + 1) 0) 0 1048576 = true := in3_iff.2 (hl.t _ im)
    have j2 : in3 0 0 63 = true := rfl
    have p2 := hl.p _ im
    have z0 : (if q + 1 = 0 then (0 : Nat) else 1) = 1 := if_neg (by omega)
    have z1 : decide (((q + 1 : Nat) : Int) = 0) = false := decide_eq_false (by omega)
    have w0 : IntKind.i64.wrap (((q + 1 : Nat) : Int) - 1) = (q : Int) := by rw [wrap_id (by omega) (by omega)]; omega
    have w1 : IntKind.i64.wrap (((q + 1 : Nat) : Int) + 1) = ((q + 1 + 1 : Nat) : Int) := by rw [wrap_id (by omega) (by omega)]; omega
    have o1 : decide (l q 0 ≤ l (q + 1) 0) = true := decide_eq_true (hl.o q im)
    have d1 : decide ((0 : Int) < ((1 : Nat) : Int)) = true := rfl
    have hE' : gE s l q = 0 := hE
    obtain ⟨P, hP⟩ : ∃ P, gst s l q = P := ⟨_, rfl⟩
    rcases hl.k (q + 1) (by omega) im with ⟨k1, n1⟩ | ⟨k1, n1⟩ | ⟨k1, n1⟩
    · have d10 : decide ((1 : Int) = 0) = false := rfl
      have d11 : decide ((1 : Int) = 1) = true := rfl
      have j3 : in3 7 0 4095 = true := rfl
      by_cases hw : P.wi = -1
      rotate_left
      · have f1 : decide (P.wi = -1) = false := decide_eq_false hw
        simp only [e1, z0, z1, w0, o1, d1, d10, d11, f1, j1, j2, j3, p2, k1, n1, hP, gsC, gpV, gpC, List.cons_append, List.nil_append, isShop_eq, gwithin_eq, p82_11, p184_3, Try.f82, Try.f118, Try.f119, Try.f120, Try.f184, Try.f185, Try.f186, Try.f187, Try.f188, Try.f189, go_sem, ↓reduceIte, Nat.reduceAdd, Nat.reduceSub, Nat.reduceMul, Nat.reduceEqDiff, Nat.reduceLT, Nat.reduceLeDiff, Int.reduceToNat, Int.reduceLE, Int.reduceLT, Int.reduceEq, Int.reduceNeg, reduceCtorEq]
        refine ⟨⟨by omega, by omega⟩, ⟨by kernel_rfl, by kernel_rfl⟩, ⟨by omega, by omega⟩, by decide, ?_⟩
        exact gp_out _ rfl 6 im hE' (by rw [hP]; simp [gerr, k1, hw]) (by decide) _ _ _ _ _
      have f1 : decide (P.wi = -1) = true := decide_eq_true hw
      have f7 : decide (P.wi = 7) = false := decide_eq_false (by omega)
      simp only [e1, z0, z1, w0, o1, d1, d10, d11, f1, j1, j2, j3, p2, k1, n1, hP, gsC, gpV, gpC, List.cons_append, List.nil_append, isShop_eq, gwithin_eq, p82_11, p184_3, Try.f82, Try.f118, Try.f119, Try.f120, Try.f184, Try.f185, Try.f186, Try.f187, Try.f188, Try.f189, go_sem, ↓reduceIte, Nat.reduceAdd, Nat.reduceSub, Nat.reduceMul, Nat.reduceEqDiff, Nat.reduceLT, Nat.reduceLeDiff, Int.reduceToNat, Int.reduceLE, Int.reduceLT, Int.reduceEq, Int.reduceNeg, reduceCtorEq]
      refine ⟨⟨by omega, by omega⟩, ⟨by kernel_rfl, by kernel_rfl⟩, ⟨by omega, by omega⟩, by decide, ?_⟩
      refine loop_ofH { b : Nat // b ≤ 1 } (fun b => [(8, .int .i64 (b.1 : Int)), (7, .int .i64 ((1 : Nat) : Int)), (1, .func 187 [.ptr 8 0]), (0, .vec 0 1)]) (fun h _ => h) (fun b => 1 - b.1) (fun _ => ⟨rfl, rfl⟩) ⟨0, by omega⟩ (by (apply sub_of <;> simp only [go_sem, ↓reduceIte, Nat.reduceAdd, Nat.reduceSub, Nat.reduceMul, Nat.reduceEqDiff, Nat.reduceLT, Nat.reduceLeDiff, Int.reduceToNat, Int.reduceLE, Int.reduceLT, Int.reduceEq, Int.reduceNeg, reduceCtorEq] <;> (try simp [catF])); exact fun i j _ _ => Bd_nth (by simp [BdL, Bd]) j) ?_
      rintro ⟨b, hb⟩
      rcases (by omega : b = 0 ∨ b = 1) with rfl | rfl
      · have g1 : decide (((0 : Nat) : Int) < ((1 : Nat) : Int)) = true := rfl
        simp only [g1, f7, Try.f187, Try.f189, go_sem, ↓reduceIte, Nat.reduceAdd, Nat.reduceSub, Nat.reduceMul, Nat.reduceEqDiff, Nat.reduceLT, Nat.reduceLeDiff, Int.reduceToNat, Int.reduceLE, Int.reduceLT, Int.reduceEq, Int.reduceNeg, reduceCtorEq]
        refine ⟨⟨by omega, by omega⟩, ⟨1, by omega⟩, by simp only []; omega, ?_⟩
        have g3 : IntKind.i64.wrap (((0 : Nat) : Int) + 1) = ((1 : Nat) : Int) := rfl
        apply sub_of <;> simp only [g3, go_sem, ↓reduceIte, Nat.reduceAdd, Nat.reduceSub, Nat.reduceMul, Nat.reduceEqDiff, Nat.reduceLT, Nat.reduceLeDiff, Int.reduceToNat, Int.reduceLE, Int.reduceLT, Int.reduceEq, Int.reduceNeg, reduceCtorEq] <;> (try simp)
        exact fun i j _ _ => Bd_nth (by simp [BdL, Bd]) j
      have g1 : decide (((1 : Nat) : Int) < ((1 : Nat) : Int)) = false := rfl
      have g2 : decide ((0 : Int) ≤ -1) = false := rfl
      by_cases hn : s.n ≤ P.lo
      rotate_left
      · have f2 : decide (s.n ≤ P.lo) = false := decide_eq_false hn
        simp only [e1, g1, g2, f2, p184_3, Try.f82, Try.f120, Try.f184, Try.f186, Try.f189, go_sem, ↓reduceIte, Nat.reduceAdd, Nat.reduceSub, Nat.reduceMul, Nat.reduceEqDiff, Nat.reduceLT, Nat.reduceLeDiff, Int.reduceToNat, Int.reduceLE, Int.reduceLT, Int.reduceEq, Int.reduceNeg, reduceCtorEq]
        exact ⟨⟨by kernel_rfl, by kernel_rfl⟩, gp_out _ rfl 11 im hE' (by rw [hP]; simp [gerr, k1, hw, hn]) (by decide) _ _ _ _ _⟩
      have f2 : decide (s.n ≤ P.lo) = true := decide_eq_true hn
      simp only [e1, g1, g2, f2, p184_3, Try.f82, Try.f120, Try.f184, Try.f186, Try.f189, go_sem, ↓reduceIte, Nat.reduceAdd, Nat.reduceSub, Nat.reduceMul, Nat.reduceEqDiff, Nat.reduceLT, Nat.reduceLeDiff, Int.reduceToNat, Int.reduceLE, Int.reduceLT, Int.reduceEq, Int.reduceNeg, reduceCtorEq]
      have he : gerr s P (l (q + 1)) = 0 := by simp [gerr, k1, hw, hn]
      have hg : gst s l (q + 1) = ⟨P.lo, P.hi, P.bl, 7, l (q + 1) 0⟩ := by simp [gst, hP, gdo, k1, n1]
      refine ⟨⟨by kernel_rfl, by kernel_rfl⟩, ⟨q + 1 + 1, by omega, by simp only [Nat.add_sub_cancel, gE, hE', hP, he, if_true]⟩, by simp only []; omega, ?_⟩
      have z4 : (if q + 1 + 1 = 0 then (0 : Nat) else 1) = 1 := if_neg (by omega)
      apply sub_of <;> simp only [w1, z4, gsC, gpV, gpC, hg, List.cons_append, List.nil_append, go_sem, ↓reduceIte, Nat.reduceAdd, Nat.reduceSub, Nat.reduceMul, Nat.reduceEqDiff, Nat.reduceLT, Nat.reduceLeDiff, Int.reduceToNat, Int.reduceLE, Int.reduceLT, Int.reduceEq, Int.reduceNeg, reduceCtorEq] <;> (try simp)
      · intro i j hi hj
        subst hi
        rcases (by omega : j = 0 ∨ j = 1 ∨ j = 2 ∨ j = 3 ∨ j = 4 ∨ j = 5 ∨ j = 6) with rfl | rfl | rfl | rfl | rfl | rfl | rfl <;> rfl
      · exact fun i j _ _ => Bd_nth (by simp [BdL, Bd]) j
    · have d20 : decide ((2 : Int) = 0) = false := rfl
      have d21 : decide ((2 : Int) = 1) = false := rfl
      have d22 : decide ((2 : Int) = 2) = true := rfl
      have d00 : decide ((0 : Int) = 0) = true := rfl
      by_cases hw : P.wi = -1
      · have f1 : decide (P.wi = -1) = true := decide_eq_true hw
        simp only [e1, z0, z1, w0, o1, d1, d20, d21, d22, d00, f1, j1, j2, p2, k1, n1, hP, gsC, gpV, gpC, List.cons_append, List.nil_append, isShop_eq, gwithin_eq, p82_11, p190_4, Try.f82, Try.f118, Try.f119, Try.f120, Try.f190, Try.f188, go_sem, ↓reduceIte, Nat.reduceAdd, Nat.reduceSub, Nat.reduceMul, Nat.reduceEqDiff, Nat.reduceLT, Nat.reduceLeDiff, Int.reduceToNat, Int.reduceLE, Int.reduceLT, Int.reduceEq, Int.reduceNeg, reduceCtorEq]
        exact ⟨⟨by omega, by omega⟩, ⟨by kernel_rfl, by kernel_rfl⟩, ⟨by omega, by omega⟩, by decide, gp_out _ rfl 6 im hE' (by rw [hP]; simp [gerr, k1, hw]) (by decide) _ _ _ _ _⟩
      have f1 : decide (P.wi = -1) = false := decide_eq_false hw
      obtain ⟨⟨a1, a2⟩, ⟨a3, a4⟩, ⟨a5, a6⟩, a7, a8⟩ := gst_bd hs hl q (by omega)
      obtain ⟨_, _, _, _, v0, v1, v2⟩ := shB_iff.1 hs
      rw [hP] at a1 a2 a3 a4 a5 a6 a7 a8
      have t1 := hl.t (q + 1) im
      have t2 := hl.o q im
      have u1 : IntKind.i64.wrap (l (q + 1) 0 - P.si) = l (q + 1) 0 - P.si := wrap_id (by omega) (by omega)
      have u2 : IntKind.i64.wrap (l (q + 1) 0 - P.si + 60) = l (q + 1) 0 - P.si + 60 := wrap_id (by omega) (by omega)
      have u3 : IntKind.i64.wrap (l (q + 1) 0 - P.si + 60 - 1) = l (q + 1) 0 - P.si + 60 - 1 := wrap_id (by omega) (by omega)
      have h0 : 0 ≤ (l (q + 1) 0 - P.si + 60 - 1).tdiv 60 := Int.tdiv_nonneg (by omega) (by omega)
      have h1 : (l (q + 1) 0 - P.si + 60 - 1).tdiv 60 ≤ l (q + 1) 0 - P.si + 60 - 1 := Int.tdiv_le_self _ (by omega)
      obtain ⟨H, hH⟩ : ∃ H, (l (q + 1) 0 - P.si + 60 - 1).tdiv 60 = H := ⟨_, rfl⟩
      rw [hH] at h0 h1
      have h2 := Int.mul_nonneg h0 (show 0 ≤ s.wh by omega)
      have h3 := Int.mul_nonneg h0 v0
      have h4 : H * s.wh ≤ 2000000 * 1000 := Int.mul_le_mul (by omega) (by omega) (by omega) (by omega)
      have h5 : H * s.wl ≤ 2000000 * 1000 := Int.mul_le_mul (by omega) (by omega) (by omega) (by omega)
      have u4 : IntKind.i64.wrap H = H := wrap_id (by omega) (by omega)
      have u5 : IntKind.i64.wrap (H * s.wh) = H * s.wh := wrap_id (by omega) (by omega)
      have u6 : IntKind.i64.wrap (P.lo - H * s.wh) = P.lo - H * s.wh := wrap_id (by omega) (by omega)
      have u7 : IntKind.i64.wrap (H * s.wl) = H * s.wl := wrap_id (by omega) (by omega)
      have u8 : IntKind.i64.wrap (P.hi - H * s.wl) = P.hi - H * s.wl := wrap_id (by omega) (by omega)
      simp only [u1, u2, u3, hH, u4, u5, u6, u7, u8, e1, z0, z1, w0, o1, d1, d20, d21, d22, d00, f1, j1, j2, p2, k1, n1, hP, gsC, gpV, gpC, List.cons_append, List.nil_append, isShop_eq, gwithin_eq, p82_11, p190_4, Try.f82, Try.f118, Try.f119, Try.f120, Try.f190, Try.f188, go_sem, ↓reduceIte, Nat.reduceAdd, Nat.reduceSub, Nat.reduceMul, Nat.reduceEqDiff, Nat.reduceLT, Nat.reduceLeDiff, Int.reduceToNat, Int.reduceLE, Int.reduceLT, Int.reduceEq, Int.reduceNeg, reduceCtorEq]
      have he : gerr s P (l (q + 1)) = 0 := by simp [gerr, k1, hw]
      have hg : gst s l (q + 1) = ⟨max 0 (P.lo - H * s.wh), max 0 (P.hi - H * s.wl), P.bl, -1, l (q + 1) 0⟩ := by simp [gst, hP, gdo, k1, ← hH]
      refine ⟨⟨by omega, by omega⟩, ⟨by kernel_rfl, by kernel_rfl⟩, ⟨by omega, by omega⟩, by decide, by decide, ⟨by kernel_rfl, by kernel_rfl⟩, ⟨q + 1 + 1, by omega, by simp only [Nat.add_sub_cancel, gE, hE', hP, he, if_true]⟩, by simp only []; omega, ?_⟩
      have z4 : (if q + 1 + 1 = 0 then (0 : Nat) else 1) = 1 := if_neg (by omega)
      apply sub_of <;> simp only [w1, z4, gsC, gpV, gpC, hg, List.cons_append, List.nil_append, go_sem, ↓reduceIte, Nat.reduceAdd, Nat.reduceSub, Nat.reduceMul, Nat.reduceEqDiff, Nat.reduceLT, Nat.reduceLeDiff, Int.reduceToNat, Int.reduceLE, Int.reduceLT, Int.reduceEq, Int.reduceNeg, reduceCtorEq] <;> (try simp)
      · intro i j hi hj
        subst hi
        rcases (by omega : j = 0 ∨ j = 1 ∨ j = 2 ∨ j = 3 ∨ j = 4 ∨ j = 5 ∨ j = 6) with rfl | rfl | rfl | rfl | rfl | rfl | rfl <;> rfl
      · exact fun i j _ _ => Bd_nth (by simp [BdL, Bd]) j
    · have d20 : decide ((3 : Int) = 0) = false := rfl
      have d21 : decide ((3 : Int) = 1) = false := rfl
      have d22 : decide ((3 : Int) = 2) = false := rfl
      have d23 : decide ((3 : Int) = 3) = true := rfl
      have d00 : decide ((0 : Int) = 0) = true := rfl
      by_cases hw : P.wi = -1
      rotate_left
      · have f1 : decide (P.wi = -1) = false := decide_eq_false hw
        simp only [e1, z0, z1, w0, o1, d1, d20, d21, d22, d23, d00, f1, j1, j2, p2, k1, n1, hP, gsC, gpV, gpC, List.cons_append, List.nil_append, isShop_eq, gwithin_eq, p82_11, p191_2, p191_3, p183_1, Try.f82, Try.f118, Try.f119, Try.f120, Try.f191, Try.f185, Try.f188, Try.f183, go_sem, ↓reduceIte, Nat.reduceAdd, Nat.reduceSub, Nat.reduceMul, Nat.reduceEqDiff, Nat.reduceLT, Nat.reduceLeDiff, Int.reduceToNat, Int.reduceLE, Int.reduceLT, Int.reduceEq, Int.reduceNeg, reduceCtorEq]
        exact ⟨⟨by omega, by omega⟩, ⟨by kernel_rfl, by kernel_rfl⟩, ⟨by omega, by omega⟩, by decide, gp_out _ rfl 6 im hE' (by rw [hP]; simp [gerr, k1, hw]) (by decide) _ _ _ _ _⟩
      have f1 : decide (P.wi = -1) = true := decide_eq_true hw
      obtain ⟨⟨a1, a2⟩, ⟨a3, a4⟩, ⟨a5, a6⟩, a7, a8⟩ := gst_bd hs hl q (by omega)
      obtain ⟨_, _, ⟨c1, c2⟩, _, v0, v1, v2⟩ := shB_iff.1 hs
      rw [hP] at a1 a2 a3 a4 a5 a6 a7 a8
      have u1 : IntKind.i64.wrap (P.bl - s.c) = P.bl - s.c := wrap_id (by omega) (by omega)
      by_cases hg1 : s.ls ≤ P.bl - s.c
      rotate_left
      · have f2 : decide (s.ls ≤ P.bl - s.c) = false := decide_eq_false hg1
        simp only [u1, f2, e1, z0, z1, w0, o1, d1, d20, d21, d22, d23, d00, f1, j1, j2, p2, k1, n1, hP, gsC, gpV, gpC, List.cons_append, List.nil_append, isShop_eq, gwithin_eq, p82_11, p191_2, p191_3, p183_1, Try.f82, Try.f118, Try.f119, Try.f120, Try.f191, Try.f185, Try.f188, Try.f183, go_sem, ↓reduceIte, Nat.reduceAdd, Nat.reduceSub, Nat.reduceMul, Nat.reduceEqDiff, Nat.reduceLT, Nat.reduceLeDiff, Int.reduceToNat, Int.reduceLE, Int.reduceLT, Int.reduceEq, Int.reduceNeg, reduceCtorEq]
        exact ⟨⟨by omega, by omega⟩, ⟨by kernel_rfl, by kernel_rfl⟩, ⟨by omega, by omega⟩, by decide, ⟨by kernel_rfl, by kernel_rfl⟩, gp_out _ rfl 10 im hE' (by rw [hP]; simp [gerr, k1, hw, hg1]) (by decide) _ _ _ _ _⟩
      have f2 : decide (s.ls ≤ P.bl - s.c) = true := decide_eq_true hg1
      have he : gerr s P (l (q + 1)) = 0 := by simp [gerr, k1, hw, hg1]
      have hg : gst s l (q + 1) = ⟨s.f, s.f, P.bl - s.c, P.wi, P.si⟩ := by simp [gst, hP, gdo, k1]
      simp only [u1, f2, e1, z0, z1, w0, o1, d1, d20, d21, d22, d23, d00, f1, j1, j2, p2, k1, n1, hP, gsC, gpV, gpC, List.cons_append, List.nil_append, isShop_eq, gwithin_eq, p82_11, p191_2, p191_3, p183_1, Try.f82, Try.f118, Try.f119, Try.f120, Try.f191, Try.f185, Try.f188, Try.f183, go_sem, ↓reduceIte, Nat.reduceAdd, Nat.reduceSub, Nat.reduceMul, Nat.reduceEqDiff, Nat.reduceLT, Nat.reduceLeDiff, Int.reduceToNat, Int.reduceLE, Int.reduceLT, Int.reduceEq, Int.reduceNeg, reduceCtorEq]
      refine ⟨⟨by omega, by omega⟩, ⟨by kernel_rfl, by kernel_rfl⟩, ⟨by omega, by omega⟩, by decide, ⟨by kernel_rfl, by kernel_rfl⟩, ⟨by kernel_rfl, by kernel_rfl⟩, ⟨by kernel_rfl, by kernel_rfl⟩, ⟨q + 1 + 1, by omega, by simp only [Nat.add_sub_cancel, gE, hE', hP, he, if_true]⟩, by simp only []; omega, ?_⟩
      have z4 : (if q + 1 + 1 = 0 then (0 : Nat) else 1) = 1 := if_neg (by omega)
      apply sub_of <;> simp only [w1, z4, gsC, gpV, gpC, hg, List.cons_append, List.nil_append, go_sem, ↓reduceIte, Nat.reduceAdd, Nat.reduceSub, Nat.reduceMul, Nat.reduceEqDiff, Nat.reduceLT, Nat.reduceLeDiff, Int.reduceToNat, Int.reduceLE, Int.reduceLT, Int.reduceEq, Int.reduceNeg, reduceCtorEq] <;> (try simp)
      · intro i j hi hj
        subst hi
        rcases (by omega : j = 0 ∨ j = 1 ∨ j = 2 ∨ j = 3 ∨ j = 4 ∨ j = 5 ∨ j = 6) with rfl | rfl | rfl | rfl | rfl | rfl | rfl <;> rfl
      · exact fun i j _ _ => Bd_nth (by simp [BdL, Bd]) j
end Go.Eng
end

/- A call that is handed nothing of the caller's own: what it leaves behind is the caller's own, by names behind the others. -/
section
namespace Go.Eng
open Go.RowKit
set_option linter.unusedVariables false
def appB (b v : Nat → Nat) : List Blk → List Blk → List Blk
  | [], [] => []
  | [], x :: k => renK b v x :: appB b v [] k
  | x :: l, k => x :: appB b v l k
def appV (b v : Nat → Nat) : List Vc → List Vc → List Vc
  | [], [] => []
  | [], x :: k => renC b v x :: appV b v [] k
  | x :: l, k => x :: appV b v l k
theorem lenB_app (b v : Nat → Nat) : ∀ (l k : List Blk), lenB (appB b v l k) = lenB l + lenB k
  | [], [] => by simp [appB, lenB]
  | [], x :: k => by simp only [appB, lenB, lenB_app b v [] k]; omega
  | x :: l, k => by simp only [appB, lenB, lenB_app b v l k]; omega
theorem lenV_app (b v : Nat → Nat) : ∀ (l k : List Vc), lenV (appV b v l k) = lenV l + lenV k
  | [], [] => by simp [appV, lenV]
  | [], x :: k => by simp only [appV, lenV, lenV_app b v [] k]; omega
  | x :: l, k => by simp only [appV, lenV, lenV_app b v l k]; omega
theorem getB_app (b v : Nat → Nat) : ∀ (l k : List Blk) (n : Nat), getB (appB b v l k) n = if n < lenB l then getB l n else renK b v (getB k (n - lenB l))
  | [], [], n => by simp [appB, getB, lenB, renK]
  | [], x :: k, 0 => by simp [appB, getB, lenB]
  | [], x :: k, n + 1 => by
    have := getB_app b v [] k n
    simp only [lenB, Nat.not_lt_zero, if_false, Nat.sub_zero] at this ⊢
    simp only [appB, getB, this]
  | x :: l, k, 0 => by simp [appB, getB, lenB]
  | x :: l, k, n + 1 => by
    simp only [appB, getB, getB_app b v l k n, lenB, Nat.add_lt_add_iff_right, Nat.add_sub_add_right]
theorem getV_app (b v : Nat → Nat) : ∀ (l k : List Vc) (n : Nat), getV (appV b v l k) n = if n < lenV l then getV l n else renC b v (getV k (n - lenV l))
  | [], [], n => by simp [appV, getV, lenV, renC]
  | [], x :: k, 0 => by simp [appV, getV, lenV]
  | [], x :: k, n + 1 => by
    have := getV_app b v [] k n
    simp only [lenV, Nat.not_lt_zero, if_false, Nat.sub_zero] at this ⊢
    simp only [appV, getV, this]
  | x :: l, k, 0 => by simp [appV, getV, lenV]
  | x :: l, k, n + 1 => by
    simp only [appV, getV, getV_app b v l k n, lenV, Nat.add_lt_add_iff_right, Nat.add_sub_add_right]
def tagU (L M : Nat) (old new : Option Tag) : Option Tag :=
  match old with
  | some t => some t
  | none => match new with
    | some (.blk i) => some (.blk (i + L))
    | some (.vec i) => some (.vec (i + M))
    | some .other => some .other
    | none => none
/-- The caller's ghost and the callee's, one behind the other. -/
def Env.grow (E E0 : Env) : Env :=
  { nb := E0.nb + E.nb, rho := fun i => if i < E.nb then E.rho i else E0.rho (i - E.nb), nv := E0.nv + E.nv, val := fun i ver => if i < E.nv then E.val i ver else E0.val (i - E.nv) ver, own := fun k => tagU E.nb E.nv (E.own k) (E0.own k) }
theorem calls_grow {P : Program} {g : Nat} {args : List SV} {K0 : Out → HS → Prop} (hc : CallsS P g args ⟨[], []⟩ K0) (ba : BdL 0 0 args)
    (hK : ∀ o h', K0 o h' → bdB (lenB h'.blks) (lenV h'.vecs) h'.blks ∧ bdV (lenB h'.blks) (lenV h'.vecs) h'.vecs ∧ bdO (lenB h'.blks) (lenV h'.vecs) o) (h : HS) :
    CallsS P g args h (fun o h' => ∃ o0 h0', K0 o0 h0' ∧ o = renO (· + lenB h.blks) (· + lenV h.vecs) o0 ∧ h' = ⟨appB (· + lenB h.blks) (· + lenV h.vecs) h.blks h0'.blks, appV (· + lenB h.blks) (· + lenV h.vecs) h.vecs h0'.vecs⟩) := by
  intro E w vals hr hd
  have hd' : DenA E.sub w args vals := ⟨hd.1, fun i x u hx hu => (hd.2 i x u hx hu).turn (BdL_get ba i x hx) (fun nm hn => by simp [Env.sub] at hn) (fun id ver y hi => by simp [Env.sub] at hi)
    (fun b _ ho => by simp [Env.sub, ho])⟩
  refine (hc E.sub w vals (sub_rel hr) hd').mono ?_
  rintro e w' ⟨o, h', E', hk, hr', hx, hout⟩
  obtain ⟨k3, k4, k5⟩ := hK o h' hk
  have e1 : E'.nb = lenB h'.blks := hr'.nb
  have e2 : E'.nv = lenV h'.vecs := hr'.nv
  rw [← hr.nb, ← hr.nv]
  have kept : ∀ k t, E.own k = some t → w'.heap[k]? = w.heap[k]? ∧ (E.grow E').own k = E.own k ∧ E'.own k = some .other := fun k t ho => by
    obtain ⟨q1, q2⟩ := hx.oth k (by simp [Env.sub, ho])
    exact ⟨q2, by simp [Env.grow, ho, tagU], q1⟩
  have free : ∀ k, E'.own k = none → E.own k = none := fun k ho => by
    cases hE : E.own k with
    | none => rfl
    | some t => rw [(kept k t hE).2.2] at ho; cases ho
  have hxG : Ext E w (E.grow E') w' := by
    refine ⟨hx.os, hx.tape, hx.output, hx.size, by simp [Env.grow], by simp [Env.grow], fun nm hn => by simp [Env.grow, hn], fun id ver x hi hv => by simp [Env.grow, hi, hv], fun k hk ho => ?_, fun k ho => ?_⟩
    · obtain ⟨q1, q2⟩ := hx.keep k hk (by simp [Env.sub, ho])
      exact ⟨by simp [Env.grow, ho, q1, tagU], q2⟩
    · obtain ⟨q1, q2, _⟩ := kept k _ ho
      exact ⟨by rw [q2, ho], q1⟩
  have up := fun (x : SV) (u : Value) (hd : Den E' w' x u) (hb : Bd (lenB h'.blks) (lenV h'.vecs) x) =>
    Den.ren (E := E.grow E') (E0 := E') (b := (· + E.nb)) (v := (· + E.nv)) hd hb (fun nm hn _ => ⟨by simp only [Env.grow]; omega, by simp only [Env.grow]; rw [if_neg (by omega), Nat.add_sub_cancel]⟩) (fun id ver y hi _ hy => ⟨by simp only [Env.grow]; omega, by simp only [Env.grow]; rw [if_neg (by omega), Nat.add_sub_cancel]; exact hy⟩)
      (fun k _ hk => by simp [Env.grow, free k hk, hk, tagU])
  have upL := fun (l : List SV) (us : Array Value) (hd : DenA E' w' l us) (hb : BdL (lenB h'.blks) (lenV h'.vecs) l) => (show DenA (E.grow E') w' (renL (· + E.nb) (· + E.nv) l) us from
    ⟨by rw [hd.1, renL_eq]; simp, fun i x u hx hu => by
      rw [renL_eq, List.getElem?_map, Option.map_eq_some_iff] at hx
      obtain ⟨y, hy, rfl⟩ := hx
      exact up y u (hd.2 i y u hy hu) (BdL_get hb i y hy)⟩)
  have new : ∀ k t, E'.own k = some t → (match t with | .other => False | _ => True) → E.own k = none := fun k t ho ht => by
    cases hE : E.own k with
    | none => rfl
    | some t' => rw [(kept k t' hE).2.2] at ho; cases ho; exact ht.elim
  have gown : ∀ i, E'.own (E'.rho i) = some (.blk i) → (E.grow E').own (E'.rho i) = some (.blk (i + E.nb)) := fun i ho => by
    have := new _ _ ho trivial
    simp [Env.grow, ho, this, tagU]
  refine ⟨renO (· + E.nb) (· + E.nv) o, _, E.grow E', ⟨o, h', hk, rfl, rfl⟩, ?_, hxG, ?_⟩
  · have gBp := getB_app (· + E.nb) (· + E.nv) h.blks h'.blks
    have gVp := getV_app (· + E.nb) (· + E.nv) h.vecs h'.vecs
    have hnb := hr.nb
    have hnv := hr.nv
    refine ⟨by rw [lenB_app]; simp only [Env.grow]; omega, by rw [lenV_app]; simp only [Env.grow]; omega, ?_, ?_, ?_, ?_, ?_⟩
    · intro nm ty c hg
      simp only at hg
      rw [gBp] at hg
      split at hg
      · rename_i hlt
        obtain ⟨cs, a1, a2, a3, a4⟩ := hr.blk _ _ _ hg
        obtain ⟨f1, f2, _⟩ := kept _ _ a4
        have hr0 : (E.grow E').rho nm = E.rho nm := by simp only [Env.grow]; rw [if_pos (by omega)]
        exact ⟨cs, by rw [hr0]; exact f1.trans a1, a2.ext hxG, a3, by rw [hr0]; exact f2.trans a4⟩
      · rename_i hlt
        have hr0 : (E.grow E').rho nm = E'.rho (nm - lenB h.blks) := by simp only [Env.grow]; rw [if_neg (by omega), hnb]
        cases hb : getB h'.blks (nm - lenB h.blks) with
        | live ty' c' =>
          rw [hb] at hg
          simp only [renK, Blk.live.injEq] at hg
          obtain ⟨rfl, rfl⟩ := hg
          obtain ⟨cs, a1, a2, a3, a4⟩ := hr'.blk _ _ _ hb
          refine ⟨cs, by rw [hr0]; exact a1, upL c' cs a2 (bdB_get k3 hb), a3, ?_⟩
          rw [hr0, gown _ a4, hnb]
          congr 2
          omega
        | dead => rw [hb] at hg; simp [renK] at hg
        | loop => rw [hb] at hg; simp [renK] at hg
        | mp => rw [hb] at hg; simp [renK] at hg
    · intro id ver ty sz n f hg
      simp only at hg
      rw [gVp] at hg
      split at hg
      · rename_i hlt
        obtain ⟨c0, ⟨a, cap, l1, l2⟩, l3⟩ := hr.vec _ _ _ _ _ _ hg
        have hval : ∀ ver, (E.grow E').val id ver = E.val id ver := fun ver => by simp only [Env.grow]; rw [if_pos (by omega)]
        exact ⟨c0, ⟨a, cap, by rw [hval]; exact l1, l2.ext hxG (fun g hg => ⟨(kept g _ hg).1, (kept g _ hg).2.1⟩)⟩, fun v' hv' => by rw [hval]; exact l3 v' hv'⟩
      · rename_i hlt
        have hval : ∀ ver, (E.grow E').val id ver = E'.val (id - lenV h.vecs) ver := fun ver => by simp only [Env.grow]; rw [if_neg (by omega), hnv]
        cases hb : getV h'.vecs (id - lenV h.vecs) with
        | live ver' ty' sz' n' f' =>
          rw [hb] at hg
          simp only [renC, Vc.live.injEq] at hg
          obtain ⟨rfl, rfl, rfl, rfl, rfl⟩ := hg
          obtain ⟨c0, ⟨a, cap, l1, l2⟩, l3⟩ := hr'.vec _ _ _ _ _ _ hb
          refine ⟨c0, ⟨a, cap, by rw [hval]; exact l1, ?_⟩, fun v' hv' => by rw [hval]; exact l3 v' hv'⟩
          rcases l2 with hk | ⟨g1, o, cur, p1, p2, p3, p4, p5, p6, p7, p8⟩
          · exact .inl hk
          · refine .inr ⟨g1, o, cur, p1, p2, p3, p4, p5, ?_, p7, fun a j u hi hj hu => up _ _ (p8 a j u hi hj hu) (bdV_get k4 hb a j hi hj)⟩
            have := new _ _ p6 trivial
            simp only [Env.grow, this, p6, tagU]
            congr 2
            omega
        | dead => rw [hb] at hg; simp [renC] at hg
    · intro k t hk
      simp only [Env.grow] at hk
      cases hE : E.own k with
      | some t' => exact Nat.lt_of_lt_of_le (hr.own k t' hE) hx.size
      | none =>
        cases hE' : E'.own k with
        | none => rw [hE, hE'] at hk; simp [tagU] at hk
        | some t' => exact hr'.own k t' hE'
    · intro nm st pend fid t params assign body hg
      simp only at hg
      rw [gBp] at hg
      split at hg
      · rename_i hlt
        have hr0 : (E.grow E').rho nm = E.rho nm := by simp only [Env.grow]; rw [if_pos (by omega)]
        exact (hr.lp _ _ _ _ _ _ _ _ hg).ext hxG (fun ho => ⟨hr0, (kept _ _ ho).1, (kept _ _ ho).2.1⟩)
      · rename_i hlt
        have hr0 : (E.grow E').rho nm = E'.rho (nm - lenB h.blks) := by simp only [Env.grow]; rw [if_neg (by omega), hnb]
        cases hb : getB h'.blks (nm - lenB h.blks) with
        | loop st' pend' fid' t' params' assign' body' =>
          rw [hb] at hg
          simp only [renK, Blk.loop.injEq] at hg
          obtain ⟨rfl, rfl, rfl, rfl, rfl, rfl, rfl⟩ := hg
          obtain ⟨tmps, db, a1, a2, a3⟩ := hr'.lp _ _ _ _ _ _ _ _ hb
          refine ⟨tmps, db, by rw [hr0]; exact a1, upL t' tmps a2 (bdB_getL k3 hb), ?_⟩
          rw [hr0, gown _ a3, hnb]
          congr 2
          omega
        | dead => rw [hb] at hg; simp [renK] at hg
        | live => rw [hb] at hg; simp [renK] at hg
        | mp => rw [hb] at hg; simp [renK] at hg
    · intro nm m hg
      simp only at hg
      rw [gBp] at hg
      split at hg
      · rename_i hlt
        have hr0 : (E.grow E').rho nm = E.rho nm := by simp only [Env.grow]; rw [if_pos (by omega)]
        exact (hr.mp _ _ hg).ext hxG (fun ho => ⟨hr0, (kept _ _ ho).1, (kept _ _ ho).2.1⟩)
      · rename_i hlt
        have hr0 : (E.grow E').rho nm = E'.rho (nm - lenB h.blks) := by simp only [Env.grow]; rw [if_neg (by omega), hnb]
        cases hb : getB h'.blks (nm - lenB h.blks) with
        | mp m' =>
          rw [hb] at hg
          simp only [renK, Blk.mp.injEq] at hg
          subst hg
          obtain ⟨a2, a3⟩ := hr'.mp _ _ hb
          have hi := bdB_getM k3 hb
          rw [hi] at a3
          obtain ⟨es, a1, a4⟩ := a3
          refine ⟨?_, ?_⟩
          · rw [hr0, gown _ a2, hnb]
            congr 2
            omega
          · rw [hi]
            exact ⟨es, by rw [hr0]; exact a1, a4⟩
        | dead => rw [hb] at hg; simp [renK] at hg
        | live => rw [hb] at hg; simp [renK] at hg
        | loop => rw [hb] at hg; simp [renK] at hg
  · cases o with
    | ret v =>
      cases e with
      | returned val => exact up _ _ hout k5
      | panicked _ => exact hout.elim
      | outgrown => exact hout.elim
    | pan v =>
      cases e with
      | panicked chain => obtain ⟨val, h1, h2⟩ := hout; exact ⟨val, h1, up _ _ h2 k5⟩
      | returned _ => exact hout.elim
      | outgrown => exact hout.elim
    | _ => cases e <;> exact hout.elim
end Go.Eng
end

/- gear: Play; whether a loan is accepted. -/
section
namespace Go.Eng
open Go Go.RowKit Go.Proofs
set_option maxRecDepth 100000
set_option maxHeartbeats 4000000
attribute [local irreducible] OwnT DefS
theorem subB_nil (B : List Blk) : subB B [] := by cases B <;> exact trivial
theorem subV_nil (V : List Vc) : subV V [] := by cases V <;> exact trivial
def gpK0 (s : GS) (m : Nat) (l : Nat → Nat → Int) (o : Out) (h' : HS) : Prop :=
  (gE s l (m - 1) = 0 ∧ o = .ret (.tup [.ptr 3 0, .int .i64 (m : Int), .int .i64 0]) ∧ h' = ⟨[.dead, .dead, .dead, .live 193 (gsC s ++ [.vec 0 1])], [.live 1 296 7 1 (gpC (gst s l (m - 1)))]⟩) ∨
  (gE s l (m - 1) ≠ 0 ∧ o = .ret (.tup [.nilp, .int .i64 (gI s l (m - 1) : Int), .int .i64 (gE s l (m - 1))]) ∧ h' = ⟨[], []⟩)
theorem gpC_bd (p : GP) (L M : Nat) : bdV L M [.live 1 296 7 1 (gpC p)] := ⟨fun i j _ _ => Bd_nth (by simp [BdL, Bd]) j, trivial⟩
theorem gpC_ren (p : GP) (b v : Nat → Nat) (k : Nat) : renC b v (.live k 296 7 1 (gpC p)) = .live k 296 7 1 (gpC p) := by
  have : (fun i j => renS b v (gpC p i j)) = gpC p := by
    funext i j
    match j with
    | 0 | 1 | 2 | 3 | 4 | 5 | 6 => rfl
    | n + 7 => rfl
  simp only [renC, this]
theorem gplay_trim {s : GS} (hs : shB s.f s.n s.c s.ls s.wl s.wh = true) {m : Nat} {l : Nat → Nat → Int} (hl : GOk m l) :
    CallsS Try.prog 82 [.agg (gsC s), .row m 4 (fun i j => .int .i64 (l i j))] ⟨[], []⟩ (gpK0 s m l) := by
  refine calls_trim (gplay_calls hs hl) ?_
  rintro o h' (⟨hE, rfl, B0, B1, B2, B, V, rfl⟩ | ⟨hE, rfl⟩)
  · refine ⟨_, .tup [.ptr 3 0, .int .i64 (m : Int), .int .i64 0], ⟨[.dead, .dead, .dead, .live 193 (gsC s ++ [.vec 0 1])], [.live 1 296 7 1 (gpC (gst s l (m - 1)))]⟩, ⟨rfl, .inl ⟨hE, rfl, rfl⟩⟩, ⟨?_, ?_, ?_, ?_, ?_, ?_⟩, ⟨by simp [lenB], by simp [lenB]⟩, ⟨by simp [lenV], by simp [lenV]⟩⟩
    · exact ⟨rfl, trivial⟩
    · exact ⟨by simp [subBk], by simp [subBk], by simp [subBk], by simp [subBk, gsC, subL, subX], subB_nil _⟩
    · exact ⟨⟨rfl, rfl, rfl, rfl, fun _ _ _ _ => rfl⟩, subV_nil _⟩
    · simp [BdL, Bd, lenB]
    · simp [bdB2, BdL, Bd, gsC, lenB, lenV]
    · exact gpC_bd _ _ _
  · refine ⟨_, .tup [.nilp, .int .i64 (gI s l (m - 1) : Int), .int .i64 (gE s l (m - 1))], ⟨[], []⟩, ⟨rfl, .inr ⟨hE, rfl, rfl⟩⟩, ⟨?_, subB_nil _, subV_nil _, ?_, ?_, ?_⟩, ⟨by simp [lenB], by simp [lenB]⟩, ⟨by simp [lenV], by simp [lenV]⟩⟩
    · exact ⟨rfl, trivial⟩
    · simp [BdL, Bd]
    · trivial
    · trivial
theorem gplay_at {s : GS} (hs : shB s.f s.n s.c s.ls s.wl s.wh = true) {m : Nat} {l : Nat → Nat → Int} (hl : GOk m l) (b : Blk) (y : Vc) :
    CallsS Try.prog 82 [.agg (gsC s), .row m 4 (fun i j => .int .i64 (l i j))] ⟨[b], [y]⟩ (fun o h' =>
      (gE s l (m - 1) = 0 ∧ o = .ret (.tup [.ptr 4 0, .int .i64 (m : Int), .int .i64 0]) ∧ h' = ⟨[b, .dead, .dead, .dead, .live 193 (gsC s ++ [.vec 1 1])], [y, .live 1 296 7 1 (gpC (gst s l (m - 1)))]⟩) ∨
      (gE s l (m - 1) ≠ 0 ∧ o = .ret (.tup [.nilp, .int .i64 (gI s l (m - 1) : Int), .int .i64 (gE s l (m - 1))]) ∧ h' = ⟨[b], [y]⟩)) := by
  refine calls_mono ?_ (calls_grow (gplay_trim hs hl) (by simp [BdL, Bd, gsC]) ?_ _)
  · rintro o h' ⟨o0, h0', (⟨hE, rfl, rfl⟩ | ⟨hE, rfl, rfl⟩), rfl, rfl⟩
    · refine .inl ⟨hE, rfl, ?_⟩
      simp [appB, appV, lenB, lenV, renK, renL, renS, gsC, gpC_ren]
    · exact .inr ⟨hE, by simp [renO, renS, renL], by simp [appB, appV]⟩
  · rintro o h' (⟨hE, rfl, rfl⟩ | ⟨hE, rfl, rfl⟩)
    · refine ⟨?_, gpC_bd _ _ _, ?_⟩
      · simp [bdB, BdL, Bd, gsC, lenB, lenV]
      · simp [bdO, BdL, Bd, lenB]
    · simp [bdB, bdV, bdO, BdL, Bd]
def gearPlayBase : BaseF := fun args => match args with
  | [.agg [.int .i64 f, .int .i64 n, .int .i64 c, .int .i64 ls, .int .i64 wl, .int .i64 wh], .row m sz_x f_x] => some ((sz_x = 4 ∧ IntR m 4 f_x) ∧ (shB f n c ls wl wh = true ∧ GOk m (ivf f_x)), .tup [.row (if gE ⟨f, n, c, ls, wl, wh⟩ (ivf f_x) (m - 1) = 0 then 1 else 0) 7 (gpC (gst ⟨f, n, c, ls, wl, wh⟩ (ivf f_x) (m - 1))), .int .i64 (if gE ⟨f, n, c, ls, wl, wh⟩ (ivf f_x) (m - 1) = 0 then (m : Int) else (gI ⟨f, n, c, ls, wl, wh⟩ (ivf f_x) (m - 1) : Int)), .int .i64 (gE ⟨f, n, c, ls, wl, wh⟩ (ivf f_x) (m - 1))])
  | _ => none
theorem gearPlay_eq (f : Int) (n : Int) (c : Int) (ls : Int) (wl : Int) (wh : Int) (m : Nat) (sz_x : Nat) (f_x : Nat → Nat → SV) : gearPlayBase [.agg [.int .i64 f, .int .i64 n, .int .i64 c, .int .i64 ls, .int .i64 wl, .int .i64 wh], .row m sz_x f_x] = some ((sz_x = 4 ∧ IntR m 4 f_x) ∧ (shB f n c ls wl wh = true ∧ GOk m (ivf f_x)), .tup [.row (if gE ⟨f, n, c, ls, wl, wh⟩ (ivf f_x) (m - 1) = 0 then 1 else 0) 7 (gpC (gst ⟨f, n, c, ls, wl, wh⟩ (ivf f_x) (m - 1))), .int .i64 (if gE ⟨f, n, c, ls, wl, wh⟩ (ivf f_x) (m - 1) = 0 then (m : Int) else (gI ⟨f, n, c, ls, wl, wh⟩ (ivf f_x) (m - 1) : Int)), .int .i64 (gE ⟨f, n, c, ls, wl, wh⟩ (ivf f_x) (m - 1))]) := rfl
theorem gearPlay_base : Base Try.prog 29 gearPlayBase := by
  intro args p v hq hp
  unfold gearPlayBase at hq
  split at hq
  rotate_left
  · cases hq
  rename_i f n c ls wl wh m sz_x f_x
  cases hq
  obtain ⟨⟨rfl, i_x⟩, pre⟩ := hp
  refine baseF_of (C := cx [82] [] [] [] none) (cx_ok trivial trivial) rfl (g := 29) (fn := Try.f29)
    (args' := [.agg [.int .i64 f, .int .i64 n, .int .i64 c, .int .i64 ls, .int .i64 wl, .int .i64 wh], .row m 4 (rowF .i64 (ivf f_x))]) (fn_29) rfl 1000 (by
    simp only [BdL, Bd, and_self, and_true, true_and]
    exact (fun i j hi hj => by rw [i_x i j hi hj]; trivial)) ⟨SameD.rfl' _, SameD.int i_x, trivial⟩ ?_
  generalize ivf f_x = x at *
  simp only [rowF_eq]
  obtain ⟨p1, p2⟩ := pre
  obtain ⟨S, hS⟩ : ∃ S : GS, S = ⟨f, n, c, ls, wl, wh⟩ := ⟨_, rfl⟩
  have hC : gsC S = [.int .i64 f, .int .i64 n, .int .i64 c, .int .i64 ls, .int .i64 wl, .int .i64 wh] := by rw [hS]; rfl
  have hs : shB S.f S.n S.c S.ls S.wl S.wh = true := by rw [hS]; exact p1
  simp only [← hS, Try.f29, go_sem, ↓reduceIte, Nat.reduceAdd, Nat.reduceSub, Nat.reduceMul, Nat.reduceEqDiff, Nat.reduceLT, Nat.reduceLeDiff, Int.reduceToNat, Int.reduceLE, Int.reduceLT, Int.reduceEq, Int.reduceNeg, reduceCtorEq]
  unfold callS
  have hcall := gplay_at hs p2 (.live 25 (gsC S)) (.live 0 296 7 0 fun _ _ => .any)
  rw [hC] at hcall
  refine calls_mono ?_ hcall
  rintro o h' (⟨hE, rfl, rfl⟩ | ⟨hE, rfl, rfl⟩)
  · have e1 : decide ((0 : Int) = 0) = true := rfl
    simp only [hE, e1, List.cons_append, List.nil_append, Try.f29, go_sem, ↓reduceIte, Nat.reduceAdd, Nat.reduceSub, Nat.reduceMul, Nat.reduceEqDiff, Nat.reduceLT, Nat.reduceLeDiff, Int.reduceToNat, Int.reduceLE, Int.reduceLT, Int.reduceEq, Int.reduceNeg, reduceCtorEq]
    refine ⟨⟨by omega, by omega, by omega⟩, fun i j hi hj => ?_⟩
    obtain rfl : i = 0 := by omega
    rcases (by omega : j = 0 ∨ j = 1 ∨ j = 2 ∨ j = 3 ∨ j = 4 ∨ j = 5 ∨ j = 6) with rfl | rfl | rfl | rfl | rfl | rfl | rfl <;> exact ⟨rfl, trivial⟩
  · have e1 : decide (gE S x (m - 1) = 0) = false := decide_eq_false hE
    simp only [e1, if_neg hE, Try.f29, go_sem, ↓reduceIte, Nat.reduceAdd, Nat.reduceSub, Nat.reduceMul, Nat.reduceEqDiff, Nat.reduceLT, Nat.reduceLeDiff, Int.reduceToNat, Int.reduceLE, Int.reduceLT, Int.reduceEq, Int.reduceNeg, reduceCtorEq]
    exact fun i j hi _ => absurd hi (by omega)
/-- Events, and one more. -/
def snF (m : Nat) (x : Nat → Nat → Int) (t k p v : Int) (i j : Nat) : Int := if i < m then x i j else if j = 0 then t else if j = 1 then k else if j = 2 then p else v
theorem gst_cg {s : GS} {l l' : Nat → Nat → Int} : ∀ q, (∀ i, i ≤ q → ∀ j, j < 4 → l i j = l' i j) → gst s l q = gst s l' q
  | 0, _ => rfl
  | q + 1, h => by
    have h1 := gst_cg (s := s) q fun i hi j hj => h i (by omega) j hj
    have h0 := h (q + 1) (Nat.le_refl _)
    simp only [gst, gdo, h1, h0 0 (by omega), h0 1 (by omega), h0 3 (by omega)]
theorem gE_cg {s : GS} {l l' : Nat → Nat → Int} : ∀ q, (∀ i, i ≤ q → ∀ j, j < 4 → l i j = l' i j) → gE s l q = gE s l' q
  | 0, _ => rfl
  | q + 1, h => by
    have h1 := gE_cg (s := s) q fun i hi j hj => h i (by omega) j hj
    have h2 := gst_cg (s := s) q fun i hi j hj => h i (by omega) j hj
    have h0 := h (q + 1) (Nat.le_refl _)
    simp only [gE, gerr, h1, h2, h0 1 (by omega)]
theorem GOk_cg {m : Nat} {l l' : Nat → Nat → Int} (h : ∀ i, i < m → ∀ j, j < 4 → l i j = l' i j) (g : GOk m l') : GOk m l := by
  obtain ⟨a, b, c, d, e, f, k⟩ := g
  refine ⟨a, b, ?_, fun i hi => ?_, fun i hi => ?_, fun i hi => ?_, fun i h0 hi => ?_⟩
  · have h0 := h 0 (by omega)
    rw [h0 0 (by omega), h0 1 (by omega), h0 2 (by omega), h0 3 (by omega)]; exact c
  · rw [h i hi 0 (by omega)]; exact d i hi
  · rw [h i (by omega) 0 (by omega), h (i + 1) hi 0 (by omega)]; exact e i hi
  · rw [h i hi 2 (by omega)]; exact f i hi
  · rw [h i hi 1 (by omega), h i hi 3 (by omega)]; exact k i h0 hi
theorem snF_cat {m : Nat} {x : Nat → Nat → Int} {t k p v : Int} {h : HS} {n : Nat} (i : Nat) (hi : i < m + 1) (j : Nat) (hj : j < 4) :
    frzF (n + 1) h (catF m (catF 0 (fun _ _ => .any) fun i j => .int .i64 (x i j)) (oneF [.int .i64 t, .int .i64 k, .int .i64 p, .int .i64 v]) i j) = .int .i64 (snF m x t k p v i j) := by
  unfold catF snF
  by_cases hm : i < m
  · rw [if_pos hm, if_pos hm, if_neg (by omega)]; rfl
  · rw [if_neg hm, if_neg hm]
    rcases (by omega : j = 0 ∨ j = 1 ∨ j = 2 ∨ j = 3) with rfl | rfl | rfl | rfl <;> rfl
def lentBase : BaseF := fun args => match args with
  | [.agg [.int .i64 f, .int .i64 n, .int .i64 c, .int .i64 ls, .int .i64 wl, .int .i64 wh], .row m sz_x f_x, .agg [.int .i64 t, .int .i64 k, .int .i64 p, .int .i64 v]] => some ((sz_x = 4 ∧ IntR m 4 f_x) ∧ (m ≤ 1000 ∧ shB f n c ls wl wh = true ∧ GOk (m + 1) (snF m (ivf f_x) t k p v)), .bool (decide (gE ⟨f, n, c, ls, wl, wh⟩ (snF m (ivf f_x) t k p v) m = 0)))
  | _ => none
theorem lent_eq (f : Int) (n : Int) (c : Int) (ls : Int) (wl : Int) (wh : Int) (m : Nat) (sz_x : Nat) (f_x : Nat → Nat → SV) (t : Int) (k : Int) (p : Int) (v : Int) : lentBase [.agg [.int .i64 f, .int .i64 n, .int .i64 c, .int .i64 ls, .int .i64 wl, .int .i64 wh], .row m sz_x f_x, .agg [.int .i64 t, .int .i64 k, .int .i64 p, .int .i64 v]] = some ((sz_x = 4 ∧ IntR m 4 f_x) ∧ (m ≤ 1000 ∧ shB f n c ls wl wh = true ∧ GOk (m + 1) (snF m (ivf f_x) t k p v)), .bool (decide (gE ⟨f, n, c, ls, wl, wh⟩ (snF m (ivf f_x) t k p v) m = 0))) := rfl
theorem lent_base : Base Try.prog 9 lentBase := by
  intro args p v hq hp
  unfold lentBase at hq
  split at hq
  rotate_left
  · cases hq
  rename_i f n c ls wl wh m sz_x f_x t k p v
  cases hq
  obtain ⟨⟨rfl, i_x⟩, pre⟩ := hp
  refine base_of (C := cx [] [] [(29, gearPlayBase)] [(9, 1, p9_1)] none) (cx_ok trivial ⟨gearPlay_base, trivial⟩) rfl (g := 9) (fn := Try.f9)
    (args' := [.agg [.int .i64 f, .int .i64 n, .int .i64 c, .int .i64 ls, .int .i64 wl, .int .i64 wh], .row m 4 (rowF .i64 (ivf f_x)), .agg [.int .i64 t, .int .i64 k, .int .i64 p, .int .i64 v]]) (fn_9) rfl 1000 (by
    simp only [BdL, Bd, and_self, and_true, true_and]
    exact (fun i j hi hj => by rw [i_x i j hi hj]; trivial)) ⟨SameD.rfl' _, SameD.int i_x, SameD.rfl' _, trivial⟩ ?_
  generalize ivf f_x = x at *
  simp only [rowF_eq]
  obtain ⟨p0, p1, p2⟩ := pre
  simp only [p1, gearPlay_eq, p9_1, Try.f9, go_sem, ↓reduceIte, Nat.reduceAdd, Nat.reduceSub, Nat.reduceMul, Nat.reduceEqDiff, Nat.reduceLT, Nat.reduceLeDiff, Int.reduceToNat, Int.reduceLE, Int.reduceLT, Int.reduceEq, Int.reduceNeg, reduceCtorEq]
  have key : ∀ G : Nat → Nat → SV, (∀ i, i < m + 1 → ∀ j, j < 4 → G i j = .int .i64 (snF m x t k p v i j)) → (IntR (m + 1) 4 G ∧ GOk (m + 1) (ivf G)) ∧ SV.bool (decide (gE ⟨f, n, c, ls, wl, wh⟩ (ivf G) (m + 1 - 1) = 0)) = .bool (decide (gE ⟨f, n, c, ls, wl, wh⟩ (snF m x t k p v) m = 0)) := fun G hG => by
    have hiv : ∀ i, i < m + 1 → ∀ j, j < 4 → ivf G i j = snF m x t k p v i j := fun i hi j hj => by
      show iv (G i j) = _
      rw [hG i hi j hj]; rfl
    refine ⟨⟨fun i j hi hj => ?_, GOk_cg hiv p2⟩, ?_⟩
    · rw [hG i hi j hj]; rfl
    · rw [Nat.add_sub_cancel, gE_cg m fun i hi j hj => hiv i (by omega) j hj]
  refine ⟨⟨by kernel_rfl, by kernel_rfl⟩, ⟨⟨by omega, by omega⟩, ⟨by omega, by omega⟩, ?_⟩, ⟨by omega, by omega⟩, ⟨by omega, by omega⟩, ?_⟩
  · exact key _ (fun i hi j hj => snF_cat i hi j hj)
  · exact key _ (fun i hi j hj => snF_cat i hi j hj)
end Go.Eng
end

/- gear and money: what one pair brings, plainly. -/
section
namespace Go.Eng
open Go Go.RowKit Go.Proofs
set_option maxRecDepth 100000
set_option maxHeartbeats 4000000
attribute [local irreducible] OwnT DefS
/-- One more event of a pair. -/
theorem GOk_sn {m : Nat} {x : Nat → Nat → Int} {t k v : Int} (h : GOk m x) (hm : m + 1 ≤ 256) (ht : x (m - 1) 0 ≤ t) (ht2 : t ≤ 1048576) (hk : k = 1 ∧ v = 7 ∨ k = 2 ∧ v = 0 ∨ k = 3 ∧ v = 0) : GOk (m + 1) (snF m x t k 0 v) := by
  obtain ⟨a, b, c, d, e, f, g⟩ := h
  have lt : ∀ i, i < m → ∀ j, snF m x t k 0 v i j = x i j := fun i hi j => if_pos hi
  have at0 : snF m x t k 0 v m 0 = t := by simp [snF]
  have at1 : snF m x t k 0 v m 1 = k := by simp [snF]
  have at2 : snF m x t k 0 v m 2 = 0 := by simp [snF]
  have at3 : snF m x t k 0 v m 3 = v := by simp [snF]
  have d0 := d (m - 1) (by omega)
  refine ⟨by omega, hm, ?_, fun i hi => ?_, fun i hi => ?_, fun i hi => ?_, fun i h0 hi => ?_⟩
  · simp only [lt 0 (by omega)]; exact c
  · rcases Nat.lt_or_ge i m with q | q
    · rw [lt i q]; exact d i q
    · obtain rfl : i = m := by omega
      rw [at0]; omega
  · rcases Nat.lt_or_ge (i + 1) m with q | q
    · rw [lt i (by omega), lt (i + 1) q]; exact e i q
    · obtain rfl : m = i + 1 := by omega
      rw [lt i (by omega), at0]
      simpa using ht
  · rcases Nat.lt_or_ge i m with q | q
    · rw [lt i q]; exact f i q
    · obtain rfl : i = m := by omega
      exact at2
  · rcases Nat.lt_or_ge i m with q | q
    · rw [lt i q, lt i q]; exact g i h0 q
    · obtain rfl : i = m := by omega
      rw [at1, at3]; exact hk
theorem sn_ok {s : GS} {m : Nat} {x : Nat → Nat → Int} {t k p v : Int} (h : GOk m x) (h0 : gE s x (m - 1) = 0) :
    gE s (snF m x t k p v) m = gerr s (gst s x (m - 1)) (fun j => snF m x t k p v m j) ∧ gst s (snF m x t k p v) m = gdo s (gst s x (m - 1)) (fun j => snF m x t k p v m j) := by
  obtain ⟨q, rfl⟩ : ∃ q, m = q + 1 := ⟨m - 1, by have := h.m1; omega⟩
  rw [Nat.add_sub_cancel] at h0 ⊢
  have e1 := gE_cg (s := s) (l := snF (q + 1) x t k p v) (l' := x) q (fun i hi j _ => if_pos (by omega))
  have e2 := gst_cg (s := s) (l := snF (q + 1) x t k p v) (l' := x) q (fun i hi j _ => if_pos (by omega))
  simp only [gE, gst, e1, e2, h0, if_true, and_self]
/-- Behind i - 1 loans. -/
def RInv (s : GS) (L G i : Int) (m : Nat) (x : Nat → Nat → Int) (t : Int) : Prop :=
  GOk m x ∧ gE s x (m - 1) = 0 ∧ x (m - 1) 0 < t ∧ ∃ g k hi si, (0 ≤ g ∧ g ≤ G) ∧ (0 ≤ k ∧ k ≤ L) ∧ g * L + k = i - 1 ∧ gst s x (m - 1) = ⟨max 0 (s.f - k * s.wh), hi, 5000 - g * s.c, -1, si⟩
theorem loan_iff {f n wh k : Int} (hw : 0 < wh) (hn : 0 < n) (hf : n ≤ f) (hk : 0 ≤ k) : n ≤ max 0 (f - k * wh) ↔ k < laL f n wh := by
  have e : (f - n).tdiv wh = (f - n) / wh := Int.tdiv_eq_ediv_of_nonneg (by omega)
  have := Int.le_ediv_iff_mul_le (a := k) (b := f - n) hw
  unfold laL
  rw [e]
  omega
theorem grind_iff {c ls g : Int} (hc : 0 < c) (hg : 0 ≤ g) : ls ≤ 5000 - (g + 1) * c ↔ g < laG c ls 5000 := by
  have e : (max 0 (5000 - ls)).tdiv c = max 0 (5000 - ls) / c := Int.tdiv_eq_ediv_of_nonneg (by omega)
  have := Int.le_ediv_iff_mul_le (a := g + 1) (b := max 0 (5000 - ls)) hc
  have h2 : (g + 1) * c ≥ c := by
    have := Int.mul_le_mul_of_nonneg_right (show (1 : Int) ≤ g + 1 by omega) (show 0 ≤ c by omega)
    omega
  unfold laG
  rw [e]
  omega
structure SOk (s : GS) : Prop where
  sh : shB s.f s.n s.c s.ls s.wl s.wh = true
  wh : 0 < s.wh
  n : 0 < s.n
/-- A loan is accepted just if there is one left until the next grinding. -/
theorem loan_ok {s : GS} (hs : SOk s) {m : Nat} {x : Nat → Nat → Int} {t : Int} {g k hi si : Int} (h : GOk m x) (h0 : gE s x (m - 1) = 0) (hk : 0 ≤ k)
    (hp : gst s x (m - 1) = ⟨max 0 (s.f - k * s.wh), hi, 5000 - g * s.c, -1, si⟩) : decide (gE s (snF m x t 1 0 7) m = 0) = decide (k < laL s.f s.n s.wh) := by
  obtain ⟨a1, a2, a3, a4, a5, a6, a7⟩ := shB_iff.1 hs.sh
  have h1 := loan_iff (f := s.f) (k := k) hs.wh hs.n (by omega) hk
  rw [(sn_ok h h0).1, hp]
  have e1 : snF m x t 1 0 7 m 1 = 1 := by simp [snF]
  simp only [gerr, e1, if_true]
  by_cases hc : s.n ≤ max 0 (s.f - k * s.wh)
  · rw [if_pos hc, decide_eq_true rfl, decide_eq_true (h1.1 hc)]
  · rw [if_neg hc, decide_eq_false (by decide), decide_eq_false (fun q => hc (h1.2 q))]
/-- Lent for an hour, and returned. -/
theorem loan_on {s : GS} (hs : SOk s) {m : Nat} {x : Nat → Nat → Int} {t : Int} {g k hi si : Int} (h : GOk m x) (hm : m + 2 ≤ 256) (h0 : gE s x (m - 1) = 0) (hk : 0 ≤ k) (hkL : k < laL s.f s.n s.wh) (ht : x (m - 1) 0 < t) (ht2 : t + 60 ≤ 1048576)
    (hp : gst s x (m - 1) = ⟨max 0 (s.f - k * s.wh), hi, 5000 - g * s.c, -1, si⟩) :
    GOk (m + 2) (snF (m + 1) (snF m x t 1 0 7) (t + 60) 2 0 0) ∧ gE s (snF (m + 1) (snF m x t 1 0 7) (t + 60) 2 0 0) (m + 1) = 0 ∧ snF (m + 1) (snF m x t 1 0 7) (t + 60) 2 0 0 (m + 1) 0 = t + 60 ∧
      ∃ hi', gst s (snF (m + 1) (snF m x t 1 0 7) (t + 60) 2 0 0) (m + 1) = ⟨max 0 (s.f - (k + 1) * s.wh), hi', 5000 - g * s.c, -1, t + 60⟩ := by
  obtain ⟨a1, a2, a3, a4, a5, a6, a7⟩ := shB_iff.1 hs.sh
  have g1 : GOk (m + 1) (snF m x t 1 0 7) := GOk_sn h (by omega) (by omega) (by omega) (.inl ⟨rfl, rfl⟩)
  have e0 : gE s (snF m x t 1 0 7) m = 0 := by
    have := loan_ok hs (t := t) h h0 hk hp
    rw [decide_eq_true hkL] at this
    exact of_decide_eq_true this
  have e1 : gst s (snF m x t 1 0 7) m = ⟨max 0 (s.f - k * s.wh), hi, 5000 - g * s.c, 7, t⟩ := by
    rw [(sn_ok h h0).2, hp]
    simp [gdo, snF]
  have hl0 : snF m x t 1 0 7 m 0 = t := by simp [snF]
  have g2 := GOk_sn (t := t + 60) (k := 2) (v := 0) g1 (by omega) (by rw [Nat.add_sub_cancel, hl0]; omega) ht2 (.inr (.inl ⟨rfl, rfl⟩))
  obtain ⟨q1, q2⟩ := sn_ok (s := s) (t := t + 60) (k := 2) (p := 0) (v := 0) g1 (by rw [Nat.add_sub_cancel]; exact e0)
  rw [Nat.add_sub_cancel, e1] at q1 q2
  have z1 : snF (m + 1) (snF m x t 1 0 7) (t + 60) 2 0 0 (m + 1) 1 = 2 := by simp [snF]
  have z0 : snF (m + 1) (snF m x t 1 0 7) (t + 60) 2 0 0 (m + 1) 0 = t + 60 := by simp [snF]
  refine ⟨g2, ?_, z0, ?_⟩
  · rw [q1]; simp [gerr, z1]
  · have hH : (t + 60 - t + 60 - 1).tdiv 60 = 1 := by rw [show t + 60 - t + 60 - 1 = 119 by omega]; rfl
    rw [q2]
    refine ⟨max 0 (hi - 1 * s.wl), ?_⟩
    simp only [gdo, z1, z0, if_neg (show ¬ (2 : Int) = 1 by decide), if_true, hH]
    have : max 0 (max 0 (s.f - k * s.wh) - 1 * s.wh) = max 0 (s.f - (k + 1) * s.wh) := by
      rw [Int.add_mul]; omega
    rw [this]
theorem grind_ok {s : GS} (hs : SOk s) {m : Nat} {x : Nat → Nat → Int} {t : Int} {g lo hi si : Int} (h : GOk m x) (h0 : gE s x (m - 1) = 0) (hg : 0 ≤ g)
    (hp : gst s x (m - 1) = ⟨lo, hi, 5000 - g * s.c, -1, si⟩) : (gE s (snF m x t 3 0 0) m = 0 ↔ g < laG s.c s.ls 5000) ∧ gst s (snF m x t 3 0 0) m = ⟨max 0 (s.f - 0 * s.wh), s.f, 5000 - (g + 1) * s.c, -1, si⟩ := by
  obtain ⟨a1, a2, a3, a4, a5, a6, a7⟩ := shB_iff.1 hs.sh
  have h1 := grind_iff (c := s.c) (ls := s.ls) (g := g) (by omega) hg
  have e1 : snF m x t 3 0 0 m 1 = 3 := by simp [snF]
  have e2 : 5000 - (g + 1) * s.c = 5000 - g * s.c - s.c := by rw [Int.add_mul]; omega
  obtain ⟨q1, q2⟩ := sn_ok (s := s) (t := t) (k := 3) (p := 0) (v := 0) h h0
  rw [hp] at q1 q2
  constructor
  · rw [q1, ← h1, e2]
    simp only [gerr, e1, if_neg (show ¬ (3 : Int) = 1 by decide), if_neg (show ¬ (3 : Int) = 2 by decide), if_true]
    split <;> simp_all
  · rw [q2]
    simp only [gdo, e1, if_neg (show ¬ (3 : Int) = 1 by decide), if_neg (show ¬ (3 : Int) = 2 by decide), e2]
    rw [show max 0 (s.f - 0 * s.wh) = s.f by omega]
theorem laL_pos {s : GS} (hs : SOk s) : 1 ≤ laL s.f s.n s.wh := by
  obtain ⟨a1, a2, a3, a4, a5, a6, a7⟩ := shB_iff.1 hs.sh
  have := Int.tdiv_nonneg (a := s.f - s.n) (b := s.wh) (by omega) (by omega)
  unfold laL; omega
theorem RInv.one {s : GS} (hs : SOk s) {L G i : Int} {m : Nat} {x : Nat → Nat → Int} {t : Int} (h : RInv s L G i m x t) (hm : m + 2 ≤ 256) (ht : t ≤ 1048576) : GOk (m + 1) (snF m x t 1 0 7) ∧ GOk (m + 1) (snF m x t 3 0 0) ∧ GOk (m + 2) (snF (m + 1) (snF m x t 3 0 0) t 1 0 7) := by
  have g3 : GOk (m + 1) (snF m x t 3 0 0) := GOk_sn h.1 (by omega) (by have := h.2.2.1; omega) ht (.inr (.inr ⟨rfl, rfl⟩))
  have z0 : snF m x t 3 0 0 m 0 = t := by simp [snF]
  exact ⟨GOk_sn h.1 (by omega) (by have := h.2.2.1; omega) ht (.inl ⟨rfl, rfl⟩), g3, GOk_sn g3 (by omega) (by rw [Nat.add_sub_cancel, z0]; exact Int.le_refl _) ht (.inl ⟨rfl, rfl⟩)⟩
/-- One loan more. -/
theorem RInv.step {s : GS} (hs : SOk s) {i : Int} {m : Nat} {x : Nat → Nat → Int} {t : Int} (h : RInv s (laL s.f s.n s.wh) (laG s.c s.ls 5000) i m x t) (hi : i ≤ laL s.f s.n s.wh * (laG s.c s.ls 5000 + 1)) (hm : m + 3 ≤ 256) (ht : t + 60 ≤ 1048576) :
    (decide (gE s (snF m x t 1 0 7) m = 0) = true ∧ RInv s (laL s.f s.n s.wh) (laG s.c s.ls 5000) (i + 1) (m + 2) (snF (m + 1) (snF m x t 1 0 7) (t + 60) 2 0 0) (t + 1440)) ∨
    (decide (gE s (snF m x t 1 0 7) m = 0) = false ∧ decide (gE s (snF (m + 1) (snF m x t 3 0 0) t 1 0 7) (m + 1) = 0) = true ∧ RInv s (laL s.f s.n s.wh) (laG s.c s.ls 5000) (i + 1) (m + 3) (snF (m + 2) (snF (m + 1) (snF m x t 3 0 0) t 1 0 7) (t + 60) 2 0 0) (t + 1440)) := by
  obtain ⟨hG, h0, h1, g, k, hi', si, ⟨g0, g1⟩, ⟨k0, k1⟩, hgk, hp⟩ := h
  have hL := laL_pos hs
  obtain ⟨L, hLd⟩ : ∃ L, laL s.f s.n s.wh = L := ⟨_, rfl⟩
  obtain ⟨G, hGd⟩ : ∃ G, laG s.c s.ls 5000 = G := ⟨_, rfl⟩
  rw [hLd, hGd] at hi
  rw [hLd] at hL hgk k1
  rw [hGd] at g1
  have hlo := loan_ok hs (t := t) hG h0 k0 hp
  rw [hLd] at hlo
  rw [hLd, hGd]
  by_cases hk : k < L
  · refine .inl ⟨by rw [hlo, decide_eq_true hk], ?_⟩
    obtain ⟨a1, a2, a3, hi2, a4⟩ := loan_on hs hG (by omega) h0 k0 (by rw [hLd]; exact hk) h1 ht hp
    exact ⟨a1, a2, by rw [show m + 2 - 1 = m + 1 by omega, a3]; omega, g, k + 1, hi2, t + 60, ⟨g0, g1⟩, ⟨by omega, by omega⟩, by omega, a4⟩
  · obtain rfl : k = L := by omega
    have e1 : k * (G + 1) = G * k + k := by rw [Int.mul_add, Int.mul_one, Int.mul_comm]
    have hgG : g < G := by
      rcases Int.lt_or_le g G with q | q
      · exact q
      · obtain rfl : g = G := by omega
        omega
    obtain ⟨q1, q2⟩ := grind_ok hs (t := t) hG h0 g0 hp
    rw [hGd] at q1
    have q3 := q1.2 hgG
    have g3 : GOk (m + 1) (snF m x t 3 0 0) := GOk_sn hG (by omega) (by omega) (by omega) (.inr (.inr ⟨rfl, rfl⟩))
    have z0 : snF m x t 3 0 0 m 0 = t := by simp [snF]
    have hlo2 := loan_ok hs (t := t) g3 (by rw [Nat.add_sub_cancel]; exact q3) (Int.le_refl 0) (by rw [Nat.add_sub_cancel]; exact q2)
    refine .inr ⟨by rw [hlo, decide_eq_false hk], by rw [hlo2, hLd, decide_eq_true (by omega)], ?_⟩
    have g4 : GOk (m + 2) (snF (m + 1) (snF m x t 3 0 0) t 1 0 7) := GOk_sn g3 (by omega) (by rw [Nat.add_sub_cancel, z0]; exact Int.le_refl _) (by omega) (.inl ⟨rfl, rfl⟩)
    have z1 : snF (m + 1) (snF m x t 3 0 0) t 1 0 7 (m + 1) 0 = t := by simp [snF]
    have g5 := GOk_sn (t := t + 60) (k := 2) (v := 0) g4 (by omega) (by rw [show m + 2 - 1 = m + 1 by omega, z1]; omega) ht (.inr (.inl ⟨rfl, rfl⟩))
    have e0 : gE s (snF (m + 1) (snF m x t 3 0 0) t 1 0 7) (m + 1) = 0 := by
      have := hlo2
      rw [hLd, decide_eq_true (show (0 : Int) < k by omega)] at this
      exact of_decide_eq_true this
    obtain ⟨r1, r2⟩ := sn_ok (s := s) (t := t) (k := 1) (p := 0) (v := 7) g3 (by rw [Nat.add_sub_cancel]; exact q3)
    rw [Nat.add_sub_cancel, q2] at r2
    have e2 : gst s (snF (m + 1) (snF m x t 3 0 0) t 1 0 7) (m + 1) = ⟨max 0 (s.f - 0 * s.wh), s.f, 5000 - (g + 1) * s.c, 7, t⟩ := by
      rw [r2]; simp [gdo, snF]
    obtain ⟨u1, u2⟩ := sn_ok (s := s) (t := t + 60) (k := 2) (p := 0) (v := 0) g4 (by rw [show m + 2 - 1 = m + 1 by omega]; exact e0)
    rw [show m + 2 - 1 = m + 1 by omega, e2] at u1 u2
    have y1 : snF (m + 2) (snF (m + 1) (snF m x t 3 0 0) t 1 0 7) (t + 60) 2 0 0 (m + 2) 1 = 2 := by simp [snF]
    have y0 : snF (m + 2) (snF (m + 1) (snF m x t 3 0 0) t 1 0 7) (t + 60) 2 0 0 (m + 2) 0 = t + 60 := by simp [snF]
    have hH : (t + 60 - t + 60 - 1).tdiv 60 = 1 := by rw [show t + 60 - t + 60 - 1 = 119 by omega]; rfl
    have e4 : (g + 1) * k = g * k + k := by rw [Int.add_mul, Int.one_mul]
    refine ⟨g5, by rw [show m + 3 - 1 = m + 2 by omega, u1]; simp [gerr, y1], by rw [show m + 3 - 1 = m + 2 by omega, y0]; omega, g + 1, 1, max 0 (s.f - 1 * s.wl), t + 60, ⟨by omega, by omega⟩, ⟨by omega, by omega⟩, by omega, ?_⟩
    rw [show m + 3 - 1 = m + 2 by omega, u2]
    simp only [gdo, y1, y0, if_neg (show ¬ (2 : Int) = 1 by decide), if_true, hH]
    have e5 : max 0 (max 0 (s.f - 0 * s.wh) - 1 * s.wh) = max 0 (s.f - 1 * s.wh) := by
      obtain ⟨b1, b2, b3, b4, b5, b6, b7⟩ := shB_iff.1 hs.sh
      omega
    rw [e5]
/-- No loan more, ground or not. -/
theorem RInv.last {s : GS} (hs : SOk s) {m : Nat} {x : Nat → Nat → Int} {t : Int} (h : RInv s (laL s.f s.n s.wh) (laG s.c s.ls 5000) (laL s.f s.n s.wh * (laG s.c s.ls 5000 + 1) + 1) m x t) (hm : m + 2 ≤ 256) (ht : t ≤ 1048576) :
    decide (gE s (snF m x t 1 0 7) m = 0) = false ∧ decide (gE s (snF (m + 1) (snF m x t 3 0 0) t 1 0 7) (m + 1) = 0) = false := by
  obtain ⟨hG, h0, h1, g, k, hi', si, ⟨g0, g1⟩, ⟨k0, k1⟩, hgk, hp⟩ := h
  have hL := laL_pos hs
  obtain ⟨L, hLd⟩ : ∃ L, laL s.f s.n s.wh = L := ⟨_, rfl⟩
  obtain ⟨G, hGd⟩ : ∃ G, laG s.c s.ls 5000 = G := ⟨_, rfl⟩
  rw [hLd, hGd] at hgk
  rw [hLd] at hL k1
  rw [hGd] at g1
  have e1 : L * (G + 1) = G * L + L := by rw [Int.mul_add, Int.mul_one, Int.mul_comm]
  have hgG : g = G := by
    rcases Int.lt_or_le g G with q | q
    · have := Int.mul_le_mul_of_nonneg_right (show g + 1 ≤ G by omega) (show 0 ≤ L by omega)
      rw [Int.add_mul, Int.one_mul] at this
      omega
    · omega
  subst hgG
  have hkL : k = L := by omega
  have hlo := loan_ok hs (t := t) hG h0 k0 hp
  rw [hLd] at hlo
  obtain ⟨q1, q2⟩ := grind_ok hs (t := t) hG h0 g0 hp
  rw [hGd] at q1
  have q3 : gE s (snF m x t 3 0 0) m ≠ 0 := fun q => by have := q1.1 q; omega
  refine ⟨by rw [hlo, decide_eq_false (by omega)], decide_eq_false ?_⟩
  have hst := gE_stop (s := s) (l := snF (m + 1) (snF m x t 3 0 0) t 1 0 7) (a := m) (by
    rw [gE_cg (s := s) (l := snF (m + 1) (snF m x t 3 0 0) t 1 0 7) (l' := snF m x t 3 0 0) m (fun i hi j _ => if_pos (by omega))]
    exact q3) (b := m + 1) (by omega)
  rw [hst.1, gE_cg (s := s) (l := snF (m + 1) (snF m x t 3 0 0) t 1 0 7) (l' := snF m x t 3 0 0) m (fun i hi j _ => if_pos (by omega))]
  exact q3
/-- The pair is bought. -/
def by0 (_ j : Nat) : Int := if j = 3 then 40 else 0
theorem RInv.first {s : GS} (hs : SOk s) {L G : Int} (hL : 0 ≤ L) (hG : 0 ≤ G) : RInv s L G 1 1 by0 1440 := by
  obtain ⟨a1, a2, a3, a4, a5, a6, a7⟩ := shB_iff.1 hs.sh
  refine ⟨⟨by omega, by omega, by simp [by0], fun i hi => by simp [by0], fun i hi => by omega, fun i hi => by simp [by0], fun i h0 hi => by omega⟩, rfl, by simp [by0], 0, 0, s.f, 0, ⟨by omega, by omega⟩, ⟨by omega, by omega⟩, by omega, ?_⟩
  show (⟨s.f, s.f, 5000, -1, 0⟩ : GP) = _
  rw [show max 0 (s.f - 0 * s.wh) = s.f by omega, show (5000 : Int) - 0 * s.c = 5000 by omega]
end Go.Eng
end

/- money: the till of one pair, plainly. -/
section
namespace Go.Eng
open Go Go.RowKit Go.Proofs
set_option maxRecDepth 100000
set_option maxHeartbeats 4000000
attribute [local irreducible] OwnT DefS
def liF (a : Nat) (_ : Nat) : Int := if a = 0 then 1099511627776 else 0
def enF (a b : Nat) : Int := if b = 0 then (a : Int) + 1 else if b = 1 then 0 else if b = 2 then 1 else 500
def dyF (cost : Int) (a b : Nat) : Int := if b = 0 then (a : Int) else if a = 0 then (if b = 3 ∨ b = 4 then cost else 0) else if b = 2 then 500 else 0
theorem bal_en : ∀ q, balF enF q 0 = -(500 * (q : Int)) ∧ balF enF q 1 = 500 * (q : Int)
  | 0 => by simp [balF]
  | q + 1 => by
    obtain ⟨h1, h2⟩ := bal_en q
    simp only [balF, h1, h2]
    simp [enF]
    omega
theorem ent_en {n : Nat} (hn : n ≤ 256) : ∀ q, q < n → entE 2 liF enF q = 0 := fun q hq => by
  have h1 : enB 2 (enF q) = true := enB_iff.2 (by simp [enF] <;> omega)
  have h2 : (decide (q = 0) || decide (enF (q - 1) 0 ≤ enF q 0)) = true := by simp [enF] <;> omega
  have h3 := (bal_en q).1
  have e1 : enF q 1 = 0 := rfl
  have e3 : enF q 3 = 500 := rfl
  have e0 : liF 0 0 = 1099511627776 := rfl
  simp only [entE, h1, h2, if_true, e1, e3, Int.toNat_zero, e0, h3]
  rw [if_pos (by omega)]
theorem ply_en {n : Nat} (hn : n ≤ 256) : plyE 2 liF n enF = 0 ∧ plyI 2 liF n enF = n ∧ plyN 2 liF n enF = 2 := by
  have hb := bad1_all (ent_en hn)
  have hl : limB 2 liF = true := by decide
  have hE : plyE 2 liF n enF = 0 := by simp [plyE, hn, hl, hb]
  exact ⟨hE, by simp [plyI, hn, hl, hb], by simp [plyN, hE]⟩
theorem bdg_dy {n : Nat} (hn : n ≤ 127) {cost : Int} (h0 : 0 ≤ cost) (h1 : cost ≤ 1099511627776) : bdgB (n + 1) (dyF cost) = true := by
  refine bdgB_iff.2 ⟨by omega, fun i hi => ⟨dyBl_iff.2 ?_, ?_⟩⟩
  · by_cases h : i = 0
    · subst h; simp [dyF]; omega
    · simp [dyF, h]; omega
  · by_cases h : i = 0
    · exact .inl h
    · right; simp [dyF]; omega
theorem lo_dy (s cost : Int) : ∀ i, loS s (dyF cost) (i + 1) = s - cost
  | 0 => by simp [loS, dyF]; omega
  | i + 1 => by
    rw [loS, lo_dy s cost i]
    simp [dyF]
theorem mis_dy {cost : Int} (h0 : 0 ≤ cost) : ∀ i, misS (dyF cost) (i + 1) = cost
  | 0 => by
    rw [misS, lo_dy]
    simp only [misS]; omega
  | i + 1 => by
    rw [misS, lo_dy, mis_dy h0 i]; omega
theorem eno_dy {n : Nat} (hn : n ≤ 127) {cost : Int} (h0 : 0 ≤ cost) (h1 : cost ≤ 1099511627776) : enoR (n + 1) (dyF cost) = cost ∧ enoE (n + 1) (dyF cost) = 0 := by
  have := bdg_dy hn h0 h1
  simp [enoR, enoE, this, mis_dy h0]
theorem bel_dy {n : Nat} (hn : n ≤ 127) {cost : Int} (h0 : 1 ≤ cost) (h1 : cost ≤ 1099511627776) :
    belE (n + 1) (dyF cost) cost cost = 4 ∧ belE (n + 1) (dyF cost) (cost - 1) (cost - 1) = 0 ∧ belP (n + 1) (dyF cost) (cost - 1) (cost - 1) = 0 := by
  have hB := bdg_dy hn (show 0 ≤ cost by omega) h1
  have s1 : spB cost cost = true := spB_iff.2 ⟨by omega, by omega, by omega⟩
  have s2 : spB (cost - 1) (cost - 1) = true := spB_iff.2 ⟨by omega, by omega, by omega⟩
  have l1 : ltL (loS cost (dyF cost)) (dyF cost) (n + 1) = -1 := ltL_none fun i hi => by rw [lo_dy]; omega
  have l2 : ltL (loS (cost - 1) (dyF cost)) (dyF cost) (n + 1) = 0 := by
    have := ltL_hit (s := loS (cost - 1) (dyF cost)) (l := dyF cost) (q := 0) (by rw [lo_dy]; omega) (by simp [dyF]) (fun i hi => by omega) (n := n + 1) (by omega)
    rw [this]; rfl
  have hE : belE (n + 1) (dyF cost) (cost - 1) (cost - 1) = 0 := by simp [belE, hB, s2, l2]
  exact ⟨by simp [belE, hB, s1, l1], hE, by simp [belP, hE, l2]⟩
end Go.Eng
end

/- TopRent. -/
section
namespace Go.Eng
open Go Go.RowKit Go.Proofs
set_option maxRecDepth 100000
set_option maxHeartbeats 4000000
attribute [local irreducible] OwnT DefS
def awake13Base : BaseF := fun args => match args with
  | [] => some (True, .bool true)
  | _ => none
theorem awake13_eq  : awake13Base [] = some (True, .bool true) := rfl
theorem awake13_base : Base Try.prog 7 awake13Base := by
  intro args p v hq hp
  unfold awake13Base at hq
  split at hq
  rotate_left
  · cases hq
  cases hq
  refine base_of (C := cx [] [] [(6, lastsBase), (10, playBase)] [] none) (cx_ok trivial ⟨lasts_base, play_base, trivial⟩) rfl (g := 7) (fn := Try.f7)
    (args' := []) (fn_7) rfl 1000 (by simp only [BdL, Bd, and_self, and_true, true_and]) trivial ?_
  simp only [lasts_eq, play_eq, Try.f7, go_sem, ↓reduceIte, Nat.reduceAdd, Nat.reduceSub, Nat.reduceMul, Nat.reduceEqDiff, Nat.reduceLT, Nat.reduceLeDiff, Int.reduceToNat, Int.reduceLE, Int.reduceLT, Int.reduceEq, Int.reduceNeg, reduceCtorEq]
  refine ⟨⟨intRb_ok (by kernel_rfl), intRb_ok (by kernel_rfl)⟩, spl_t (by kernel_rfl) (spl_t (by kernel_rfl) (spl_t (by kernel_rfl) ⟨of_decide_eq_true (by kernel_rfl), spl_t (by kernel_rfl) (spl_t (by kernel_rfl) ?_)⟩))⟩
  congr 1
theorem sn_key {s : GS} {m : Nat} {x : Nat → Nat → Int} {t k v t' k' v' : Int} {G : Nat → Nat → SV} (hG : ∀ i, i < m + 1 → ∀ j, j < 4 → G i j = .int .i64 (snF m x t k 0 v i j)) (g : GOk (m + 2) (snF (m + 1) (snF m x t k 0 v) t' k' 0 v')) :
    (IntR (m + 1) 4 G ∧ GOk (m + 1 + 1) (snF (m + 1) (ivf G) t' k' 0 v')) ∧ gE s (snF (m + 1) (ivf G) t' k' 0 v') (m + 1) = gE s (snF (m + 1) (snF m x t k 0 v) t' k' 0 v') (m + 1) := by
  have hiv : ∀ i, i < m + 1 → ∀ j, j < 4 → ivf G i j = snF m x t k 0 v i j := fun i hi j hj => by
    show iv (G i j) = _
    rw [hG i hi j hj]; rfl
  have hsn : ∀ i, i < m + 2 → ∀ j, j < 4 → snF (m + 1) (ivf G) t' k' 0 v' i j = snF (m + 1) (snF m x t k 0 v) t' k' 0 v' i j := fun i hi j hj => by
    unfold snF
    split
    · rename_i h
      rw [hiv i h j hj]; rfl
    · rfl
  exact ⟨⟨fun i j hi hj => by rw [hG i hi j hj]; rfl, GOk_cg hsn g⟩, gE_cg (m + 1) fun i hi j hj => hsn i (by omega) j hj⟩
theorem snF_cat1 {m : Nat} {x : Nat → Nat → Int} {t k p v : Int} {h : HS} {n : Nat} (i : Nat) (hi : i < m + 1) (j : Nat) (hj : j < 4) :
    frzF (n + 1) h (catF m (fun i j => .int .i64 (x i j)) (oneF [.int .i64 t, .int .i64 k, .int .i64 p, .int .i64 v]) i j) = .int .i64 (snF m x t k p v i j) := by
  unfold catF snF
  by_cases hm : i < m
  · rw [if_pos hm, if_pos hm]; rfl
  · rw [if_neg hm, if_neg hm]
    rcases (by omega : j = 0 ∨ j = 1 ∨ j = 2 ∨ j = 3) with rfl | rfl | rfl | rfl <;> rfl
theorem en_cat {q : Nat} : ∀ i j, i < q + 1 → j < 4 → catF q (fun a b => SV.int .i64 (enF a b)) (oneF [.int .i64 ((q : Int) + 1), .int .i64 0, .int .i64 1, .int .i64 500]) i j = .int .i64 (enF i j) := fun i j hi hj => by
  unfold catF
  by_cases h : i < q
  · rw [if_pos h]
  · obtain rfl : i = q := by omega
    rw [if_neg h]
    rcases (by omega : j = 0 ∨ j = 1 ∨ j = 2 ∨ j = 3) with rfl | rfl | rfl | rfl <;> rfl
theorem dy_cat {cost : Int} {q : Nat} : ∀ i j, i < q + 1 + 1 → j < 5 → catF (q + 1) (fun a b => SV.int .i64 (dyF cost a b)) (oneF [.int .i64 ((q : Int) + 1), .int .i64 0, .int .i64 500, .int .i64 0, .int .i64 0]) i j = .int .i64 (dyF cost i j) := fun i j hi hj => by
  unfold catF
  by_cases h : i < q + 1
  · rw [if_pos h]
  · obtain rfl : i = q + 1 := by omega
    rw [if_neg h]
    rcases (by omega : j = 0 ∨ j = 1 ∨ j = 2 ∨ j = 3 ∨ j = 4) with rfl | rfl | rfl | rfl | rfl <;> simp [oneF, nth, dyF]
theorem sk_cat2 {F : Nat → Nat → SV} {m : Nat} {x : Nat → Nat → Int} {t u k v k' v' : Int} (hF : ∀ i, i < m → ∀ j, j < 4 → F i j = .int .i64 (x i j)) : ∀ i j, i < m + 2 → j < 4 → catF m F (cellAt [.int .i64 t, .int .i64 k, .int .i64 0, .int .i64 v, .int .i64 u, .int .i64 k', .int .i64 0, .int .i64 v'] 4) i j = .int .i64 (snF (m + 1) (snF m x t k 0 v) u k' 0 v' i j) := fun i j hi hj => by
  unfold catF snF
  by_cases h : i < m
  · rw [if_pos h, if_pos (by omega), if_pos h]; exact hF i h j hj
  · rw [if_neg h]
    rcases (by omega : i = m ∨ i = m + 1) with rfl | rfl
    · rw [if_pos (by omega), if_neg (by omega), Nat.sub_self]
      rcases (by omega : j = 0 ∨ j = 1 ∨ j = 2 ∨ j = 3) with rfl | rfl | rfl | rfl <;> rfl
    · rw [if_neg (by omega), show m + 1 - m = 1 by omega]
      rcases (by omega : j = 0 ∨ j = 1 ∨ j = 2 ∨ j = 3) with rfl | rfl | rfl | rfl <;> rfl
theorem sk_cat1 {m : Nat} {x : Nat → Nat → Int} {t k v : Int} (i : Nat) (hi : i < m + 1) (j : Nat) (hj : j < 4) : catF m (fun i j => SV.int .i64 (x i j)) (oneF [.int .i64 t, .int .i64 k, .int .i64 0, .int .i64 v]) i j = .int .i64 (snF m x t k 0 v i j) := by
  unfold catF snF
  by_cases hm : i < m
  · rw [if_pos hm, if_pos hm]
  · rw [if_neg hm, if_neg hm]
    rcases (by omega : j = 0 ∨ j = 1 ∨ j = 2 ∨ j = 3) with rfl | rfl | rfl | rfl <;> rfl
def topRentBase : BaseF := fun args => match args with
  | [.agg [.int .i64 f, .int .i64 n, .int .i64 c, .int .i64 ls, .int .i64 wl, .int .i64 wh], .int .u16 pr] => some (((Lit.int .u16 pr).wf = true), .bool true)
  | _ => none
theorem topRent_base : Base Try.prog 3 topRentBase := by
  intro args p v hq hp
  unfold topRentBase at hq
  split at hq
  rotate_left
  · cases hq
  rename_i f n c ls wl wh pr
  cases hq
  obtain wf_pr := hp
  refine base_of (C := cx [] [] [(6, lastsBase), (7, awake13Base), (8, shopRBase), (9, lentBase), (10, playBase), (11, enoughBase), (12, below_Base)] [(3, 26, p3_26)] none) (cx_ok trivial ⟨lasts_base, awake13_base, shopR_base, lent_base, play_base, enough_base, below__base, trivial⟩) rfl (g := 3) (fn := Try.f3)
    (args' := [.agg [.int .i64 f, .int .i64 n, .int .i64 c, .int .i64 ls, .int .i64 wl, .int .i64 wh], .int .u16 pr]) (fn_3) rfl 1000 (by simp only [BdL, Bd, and_self, and_true, true_and]) ⟨SameD.rfl' _, SameD.rfl' _, trivial⟩ ?_
  obtain ⟨E, hE⟩ : ∃ E, laE f n c ls wl wh 5000 = E := ⟨_, rfl⟩
  obtain ⟨N, hN⟩ : ∃ N, laN f n c ls wl wh 5000 = N := ⟨_, rfl⟩
  cases c1 : decide (E = 0) with
  | false =>
    simp only [hE, hN, c1, lasts_eq, awake13_eq, shopR_eq, lent_eq, play_eq, enough_eq, below__eq, p3_26, Try.f3, go_sem, ↓reduceIte, Nat.reduceAdd, Nat.reduceSub, Nat.reduceMul, Nat.reduceEqDiff, Nat.reduceLT, Nat.reduceLeDiff, Int.reduceToNat, Int.reduceLE, Int.reduceLT, Int.reduceEq, Int.reduceNeg, reduceCtorEq]
  | true =>
  cases c2 : decide ((40 : Int) < N) with
  | true =>
    simp only [hE, hN, c1, c2, lasts_eq, awake13_eq, shopR_eq, lent_eq, play_eq, enough_eq, below__eq, p3_26, Try.f3, go_sem, ↓reduceIte, Nat.reduceAdd, Nat.reduceSub, Nat.reduceMul, Nat.reduceEqDiff, Nat.reduceLT, Nat.reduceLeDiff, Int.reduceToNat, Int.reduceLE, Int.reduceLT, Int.reduceEq, Int.reduceNeg, reduceCtorEq]
  | false =>
  have hE0 : laE f n c ls wl wh 5000 = 0 := by rw [hE]; exact of_decide_eq_true c1
  obtain ⟨c3, n3, n4⟩ : shB f n c ls wl wh = true ∧ wh ≠ 0 ∧ n ≠ 0 := by
    unfold laE at hE0
    cases hc : shB f n c ls wl wh with
    | false => simp [hc] at hE0
    | true =>
      simp only [hc, if_true, show in3 5000 0 10000 = true from rfl] at hE0
      cases h1 : (decide (wh = 0) || decide (n = 0)) with
      | true => simp [h1] at hE0
      | false =>
        simp only [Bool.or_eq_false_iff, decide_eq_false_iff_not] at h1
        exact ⟨rfl, h1⟩
  obtain ⟨S, hS⟩ : ∃ S : GS, S = ⟨f, n, c, ls, wl, wh⟩ := ⟨_, rfl⟩
  obtain ⟨b1, b2, b3, b4, b5, b6, b7⟩ := shB_iff.1 c3
  have hs : SOk S := by subst hS; exact ⟨c3, by simp only []; omega, by simp only []; omega⟩
  have hNv : N = laL S.f S.n S.wh * (laG S.c S.ls 5000 + 1) := by subst hS; rw [← hN, laN, if_pos hE0]
  have hL := laL_pos hs
  have hG : 0 ≤ laG S.c S.ls 5000 := Int.tdiv_nonneg (by omega) (by subst hS; simp only []; omega)
  have hN1 : 1 ≤ N := by
    have := Int.mul_le_mul hL (show (1 : Int) ≤ laG S.c S.ls 5000 + 1 by omega) (by omega) (by omega)
    omega
  have hN40 : N ≤ 40 := by have := of_decide_eq_false c2; omega
  have c4 : decide (N < 1) = false := decide_eq_false (by omega)
  have hpr : 0 ≤ pr ∧ pr ≤ 65535 := by simpa [Lit.wf, IntKind.min, IntKind.max, IntKind.signed, IntKind.bits] using hp
  obtain ⟨cost, hcost, hc1, hc2⟩ : ∃ cost, IntKind.i64.wrap (1 + IntKind.i64.wrap pr) = cost ∧ 1 ≤ cost ∧ cost ≤ 1099511627776 := by
    refine ⟨_, rfl, ?_⟩
    rw [wrap_id (x := pr) (by omega) (by omega), wrap_id (by omega) (by omega)]
    omega
  simp only [hE, hN, c1, c2, c3, c4, hcost, lasts_eq, awake13_eq, shopR_eq, lent_eq, play_eq, enough_eq, below__eq, p3_26, Try.f3, go_sem, ↓reduceIte, Nat.reduceAdd, Nat.reduceSub, Nat.reduceMul, Nat.reduceEqDiff, Nat.reduceLT, Nat.reduceLeDiff, Int.reduceToNat, Int.reduceLE, Int.reduceLT, Int.reduceEq, Int.reduceNeg, reduceCtorEq]
  refine ⟨by omega, by decide, ?_⟩
  refine loop_ofH { z : Nat × Nat × (Nat → Nat → Int) × Nat × Nat × Nat // (z.1 : Int) ≤ N ∧ RInv S (laL S.f S.n S.wh) (laG S.c S.ls 5000) ((z.1 : Int) + 1) z.2.1 z.2.2.1 (1440 * ((z.1 : Int) + 1)) ∧ z.2.1 ≤ 1 + 3 * z.1 }
    (fun z => [(13, .int .i64 ((z.1.1 : Int) + 1)), (12, .vec 3 0), (11, .int .i64 (1440 * ((z.1.1 : Int) + 1))), (10, .vec 2 z.1.2.2.2.2.2), (9, .int .i64 cost), (8, .vec 1 z.1.2.2.2.2.1), (7, .vec 0 z.1.2.2.2.1), (5, .int .i64 N), (2, .ptr 0 0)])
    (fun h z => ⟨h.blks, [.live z.1.2.2.2.1 33 4 z.1.2.1 (fun a b => .int .i64 (z.1.2.2.1 a b)), .live z.1.2.2.2.2.1 42 4 z.1.1 (fun a b => .int .i64 (enF a b)), .live z.1.2.2.2.2.2 37 5 (z.1.1 + 1) (fun a b => .int .i64 (dyF cost a b)), .live 0 3 1 2 (fun a b => .int .i64 (liF a b))]⟩)
    (fun z => (N - z.1.1).toNat) (fun _ => ⟨rfl, rfl⟩) ⟨(0, 1, by0, 0, 0, 0), by simp only []; omega, RInv.first hs (by omega) hG, by simp only []; omega⟩ ?_ ?_
  · apply sub_of <;> simp only [go_sem, ↓reduceIte, Nat.reduceAdd, Nat.reduceSub, Nat.reduceMul, Nat.reduceEqDiff, Nat.reduceLT, Nat.reduceLeDiff, Int.reduceToNat, Int.reduceLE, Int.reduceLT, Int.reduceEq, Int.reduceNeg, reduceCtorEq] <;> (try simp)
    refine ⟨fun i j hi hj => ?_, fun i j hi hj => ?_, fun i hi => ?_⟩
    · subst hi
      rcases (by omega : j = 0 ∨ j = 1 ∨ j = 2 ∨ j = 3) with rfl | rfl | rfl | rfl <;> rfl
    · subst hi
      rcases (by omega : j = 0 ∨ j = 1 ∨ j = 2 ∨ j = 3 ∨ j = 4) with rfl | rfl | rfl | rfl | rfl <;> rfl
    · rcases (by omega : i = 0 ∨ i = 1) with rfl | rfl <;> rfl
  rintro ⟨⟨q, m, x, v0, v1, v2⟩, hq, hR, hm⟩
  simp only at hq hR hm ⊢
  by_cases qN : (q : Int) < N
  · have e1 : decide ((q : Int) + 1 ≤ N) = true := decide_eq_true (by omega)
    obtain ⟨g1, g2, g3⟩ := hR.one hs (by omega) (by omega)
    have w1 : IntKind.i64.wrap (1440 * ((q : Int) + 1) + 60) = 1440 * ((q : Int) + 1) + 60 := wrap_id (by omega) (by omega)
    have w2 : IntKind.i64.wrap (1440 * ((q : Int) + 1) + 1440) = 1440 * (((q + 1 : Nat) : Int) + 1) := by rw [wrap_id (by omega) (by omega)]; omega
    have w3 : IntKind.i64.wrap ((q : Int) + 1 + 1) = ((q + 1 : Nat) : Int) + 1 := by rw [wrap_id (by omega) (by omega)]; omega
    have ei : ((q : Int) + 1 + 1) = ((q + 1 : Nat) : Int) + 1 := by omega
    have et : 1440 * ((q : Int) + 1) + 1440 = 1440 * (((q + 1 : Nat) : Int) + 1) := by omega
    have hst := hR.step hs (by omega) (by omega) (by omega)
    rw [ei, et] at hst
    rcases hst with ⟨d1, hR'⟩ | ⟨d1, d2, hR'⟩
    · simp only [e1, c3, ← hS, d1, lasts_eq, awake13_eq, shopR_eq, lent_eq, play_eq, enough_eq, below__eq, p3_26, Try.f3, go_sem, ↓reduceIte, Nat.reduceAdd, Nat.reduceSub, Nat.reduceMul, Nat.reduceEqDiff, Nat.reduceLT, Nat.reduceLeDiff, Int.reduceToNat, Int.reduceLE, Int.reduceLT, Int.reduceEq, Int.reduceNeg, reduceCtorEq]
      refine ⟨⟨by omega, g1⟩, ⟨by omega, g1⟩, ⟨by omega, by omega⟩, ⟨by omega, by omega⟩, ⟨by omega, by omega⟩, ⟨(q + 1, m + 2, snF (m + 1) (snF m x (1440 * ((q : Int) + 1)) 1 0 7) (1440 * ((q : Int) + 1) + 60) 2 0 0, v0 + 1, v1 + 1, v2 + 1), by simp only []; omega, hR', by simp only []; omega⟩, by simp only []; omega, ?_⟩
      apply sub_of <;> simp only [w1, w2, w3, go_sem, ↓reduceIte, Nat.reduceAdd, Nat.reduceSub, Nat.reduceMul, Nat.reduceEqDiff, Nat.reduceLT, Nat.reduceLeDiff, Int.reduceToNat, Int.reduceLE, Int.reduceLT, Int.reduceEq, Int.reduceNeg, reduceCtorEq] <;> (try simp)
      exact ⟨sk_cat2 (fun _ _ _ _ => rfl), en_cat, dy_cat⟩
    · simp only [e1, c3, ← hS, d1, lasts_eq, awake13_eq, shopR_eq, lent_eq, play_eq, enough_eq, below__eq, p3_26, Try.f3, go_sem, ↓reduceIte, Nat.reduceAdd, Nat.reduceSub, Nat.reduceMul, Nat.reduceEqDiff, Nat.reduceLT, Nat.reduceLeDiff, Int.reduceToNat, Int.reduceLE, Int.reduceLT, Int.reduceEq, Int.reduceNeg, reduceCtorEq]
      have hk : ∀ G : Nat → Nat → SV, (∀ i, i < m + 1 → ∀ j, j < 4 → G i j = .int .i64 (snF m x (1440 * ((q : Int) + 1)) 3 0 0 i j)) → (IntR (m + 1) 4 G ∧ m ≤ 999 ∧ GOk (m + 1 + 1) (snF (m + 1) (ivf G) (1440 * ((q : Int) + 1)) 1 0 7)) ∧ decide (gE S (snF (m + 1) (ivf G) (1440 * ((q : Int) + 1)) 1 0 7) (m + 1) = 0) = true := fun G hG => by
        obtain ⟨⟨h1, h2⟩, h3⟩ := sn_key (s := S) hG g3
        exact ⟨⟨h1, by omega, h2⟩, by rw [h3]; exact d2⟩
      refine ⟨⟨by omega, g1⟩, ⟨by omega, by omega⟩, (hk _ (fun i hi j hj => snF_cat1 i hi j hj)).1, spl_f (by rw [(hk _ (fun i hi j hj => snF_cat1 i hi j hj)).2]; rfl) ?_⟩
      refine ⟨⟨by omega, by omega⟩, ⟨by omega, by omega⟩, ⟨by omega, by omega⟩, ⟨(q + 1, m + 3, snF (m + 2) (snF (m + 1) (snF m x (1440 * ((q : Int) + 1)) 3 0 0) (1440 * ((q : Int) + 1)) 1 0 7) (1440 * ((q : Int) + 1) + 60) 2 0 0, v0 + 2, v1 + 1, v2 + 1), by simp only []; omega, hR', by simp only []; omega⟩, by simp only []; omega, ?_⟩
      apply sub_of <;> simp only [w1, w2, w3, go_sem, ↓reduceIte, Nat.reduceAdd, Nat.reduceSub, Nat.reduceMul, Nat.reduceEqDiff, Nat.reduceLT, Nat.reduceLeDiff, Int.reduceToNat, Int.reduceLE, Int.reduceLT, Int.reduceEq, Int.reduceNeg, reduceCtorEq] <;> (try simp)
      exact ⟨sk_cat2 (m := m + 1) sk_cat1, en_cat, dy_cat⟩
  have e1 : decide ((q : Int) + 1 ≤ N) = false := decide_eq_false (by omega)
  have hqN : (q : Int) = N := by omega
  obtain ⟨g1, g2, g3⟩ := hR.one hs (by omega) (by omega)
  have hR2 : RInv S (laL S.f S.n S.wh) (laG S.c S.ls 5000) (laL S.f S.n S.wh * (laG S.c S.ls 5000 + 1) + 1) m x (1440 * ((q : Int) + 1)) := by rw [← hNv, ← hqN]; exact hR
  obtain ⟨d1, d2⟩ := hR2.last hs (by omega) (by omega)
  obtain ⟨p1, p2, p3⟩ := ply_en (n := q) (by omega)
  obtain ⟨p4, p5⟩ := bal_en q
  obtain ⟨p6, p7⟩ := eno_dy (n := q) (by omega) (cost := cost) (by omega) hc2
  obtain ⟨p8, p9, p10⟩ := bel_dy (n := q) (by omega) hc1 hc2
  have w1 : IntKind.i64.wrap (N * 500) = 500 * (q : Int) := by rw [wrap_id (by omega) (by omega)]; omega
  have w2 : IntKind.i64.wrap (0 - N) = -N := by rw [wrap_id (by omega) (by omega)]; omega
  have w3 : IntKind.i64.wrap (-N * 500) = -(500 * (q : Int)) := by rw [wrap_id (by omega) (by omega)]; omega
  have w4 : IntKind.i64.wrap (cost - 1) = cost - 1 := wrap_id (by omega) (by omega)
  have y1 : decide ((0 : Int) = 0) = true := rfl
  have y2 : decide ((q : Int) = N) = true := decide_eq_true hqN
  have y3 : decide (((2 : Nat) : Int) = 2) = true := rfl
  have y4 : decide (500 * (q : Int) = 500 * (q : Int)) = true := decide_eq_true rfl
  have y5 : decide (-(500 * (q : Int)) = -(500 * (q : Int))) = true := decide_eq_true rfl
  have y6 : decide (cost = cost) = true := decide_eq_true rfl
  have y7 : decide ((4 : Int) = 4) = true := rfl
  have hk : ∀ G : Nat → Nat → SV, (∀ i, i < m + 1 → ∀ j, j < 4 → G i j = .int .i64 (snF m x (1440 * ((q : Int) + 1)) 3 0 0 i j)) → (IntR (m + 1) 4 G ∧ m ≤ 999 ∧ GOk (m + 1 + 1) (snF (m + 1) (ivf G) (1440 * ((q : Int) + 1)) 1 0 7)) ∧ decide (gE S (snF (m + 1) (ivf G) (1440 * ((q : Int) + 1)) 1 0 7) (m + 1) = 0) = false := fun G hG => by
    obtain ⟨⟨h1, h2⟩, h3⟩ := sn_key (s := S) hG g3
    exact ⟨⟨h1, by omega, h2⟩, by rw [h3]; exact d2⟩
  simp only [e1, c3, ← hS, d1, p1, p2, p3, p4, p5, p6, p7, p8, p9, p10, w1, w2, w3, w4, y1, y2, y3, y4, y5, y6, y7, lasts_eq, awake13_eq, shopR_eq, lent_eq, play_eq, enough_eq, below__eq, p3_26, Try.f3, go_sem, ↓reduceIte, Nat.reduceAdd, Nat.reduceSub, Nat.reduceMul, Nat.reduceEqDiff, Nat.reduceLT, Nat.reduceLeDiff, Int.reduceToNat, Int.reduceLE, Int.reduceLT, Int.reduceEq, Int.reduceNeg, reduceCtorEq]
  refine ⟨⟨by kernel_rfl, by kernel_rfl⟩, ⟨by omega, g1⟩, ⟨⟨by omega, by omega⟩, ⟨by omega, by omega⟩, (hk _ (fun i hi j hj => snF_cat i hi j hj)).1, spl_f (by rw [(hk _ (fun i hi j hj => snF_cat i hi j hj)).2]) ?_⟩, ⟨by omega, by omega⟩, ⟨by omega, by omega⟩, (hk _ (fun i hi j hj => snF_cat i hi j hj)).1, spl_f (by rw [(hk _ (fun i hi j hj => snF_cat i hi j hj)).2]) ?_⟩
  all_goals exact ⟨by omega, by decide, by decide, by omega⟩
end Go.Eng
end

/-
  TopRent: for every input the law returns true, and each argument reads afterwards as it read before. No condition.
-/
section
namespace Go.Proofs.Ythidhbamcmgloaa.topRent
open Go.ChangeShapes Go.WideShapes Go.ChangeAt Go.RowKit Go.Eng
set_option linter.unusedVariables false
theorem own : ownKnob Try.prog.godebug = none := by kernel_rfl
theorem laid : laidOutB Try.prog = true := by kernel_rfl
set_option maxRecDepth 100000 in
theorem lifted (os : Os) (started : os.Started) (H : Type) (enc : TypeId × Value → H) :
    ReturnsInHanded {} Try.checked os 3 .any (Rows.topRentSpec.pre6 enc Try.prog Try.f3 Rows.topRentRow.domain false) (Rows.topRentSpec.post enc Try.prog Try.f3 false true false false) := by
  refine returnsInHanded_of_change (C := Try.checked) own started (by kernel_rfl) Try.func3
    (ChangeSpec.witness6 (enc := enc) (C := Try.checked) false ⟨#[], #[.agg #[.int .i64 0, .int .i64 0, .int .i64 0, .int .i64 0, .int .i64 0, .int .i64 0], .int .u16 0], []⟩ 8 (by kernel_rfl) (by kernel_rfl) (by kernel_rfl) (by kernel_rfl)) ?_
  intro W base args ds gs before hval0 hW hcnd _
  have hval : ∀ (j : Nat) t v, Try.f3.params[j]? = some t → args[j]? = some v → Value.okWide Try.prog W .any base t v := hval0
  have hW' := hW
  obtain ⟨p, q, hA0, hV, rfl, hfz, hnd⟩ := hW
  have hA : DataW.TrodAll enc Try.prog W 0 (fun _ => true) true Try.f3.params.toList args.toList ds p := hA0
  rw [Try.params3] at hA hval
  obtain ⟨v0, vs0, d0, ds0, p0, q0, hargs, rfl, rfl, h0, r0⟩ := trodAll_cons hA
  obtain ⟨v1, vs1, d1, ds1, p1, q1, rfl, rfl, rfl, h1, r1⟩ := trodAll_cons r0
  obtain ⟨rfl, rfl, rfl⟩ := trodAll_nil r1
  obtain rfl : args = #[v0, v1] := by cases args; simp_all
  obtain ⟨rfl, rfl⟩ := trodVars_none hV
  obtain ⟨xs0, e0, l0, t0⟩ := arg_agg (shs := [.int .i64, .int .i64, .int .i64, .int .i64, .int .i64, .int .i64]) Try.underlying25 (by kernel_rfl) (hval 0 25 v0 rfl rfl) h0
  obtain ⟨a0_0, a0_1, a0_2, a0_3, a0_4, a0_5, rfl⟩ : ∃ a0_0 a0_1 a0_2 a0_3 a0_4 a0_5, xs0 = [a0_0, a0_1, a0_2, a0_3, a0_4, a0_5] := by
    match xs0, l0 with
    | [a0_0, a0_1, a0_2, a0_3, a0_4, a0_5], _ => exact ⟨a0_0, a0_1, a0_2, a0_3, a0_4, a0_5, rfl⟩
  obtain ⟨x0_0, rfl, w0_0⟩ := typ_int (t0 0 _ _ rfl rfl)
  obtain ⟨x0_1, rfl, w0_1⟩ := typ_int (t0 1 _ _ rfl rfl)
  obtain ⟨x0_2, rfl, w0_2⟩ := typ_int (t0 2 _ _ rfl rfl)
  obtain ⟨x0_3, rfl, w0_3⟩ := typ_int (t0 3 _ _ rfl rfl)
  obtain ⟨x0_4, rfl, w0_4⟩ := typ_int (t0 4 _ _ rfl rfl)
  obtain ⟨x0_5, rfl, w0_5⟩ := typ_int (t0 5 _ _ rfl rfl)
  obtain ⟨x1, rfl, rfl, rfl, w1⟩ := open_int Try.underlying26 (hval 1 26 v1 rfl rfl) h1
  have hd : DenL Env.emp W [.agg [.int .i64 x0_0, .int .i64 x0_1, .int .i64 x0_2, .int .i64 x0_3, .int .i64 x0_4, .int .i64 x0_5], .int .u16 x1] [v0, .int .u16 x1] := ⟨e0, .int _ _, trivial⟩
  refine (law_calls topRent_base (args := [.agg [.int .i64 x0_0, .int .i64 x0_1, .int .i64 x0_2, .int .i64 x0_3, .int .i64 x0_4, .int .i64 x0_5], .int .u16 x1]) rfl w1 (denA_of hd)).mono fun e W' ⟨he, hb⟩ => ?_
  subst he
  exact ⟨_, rfl, law_end laid rfl Try.underlying4 (by kernel_rfl) rfl hW' rfl hb⟩
theorem over : Rows.topRentRow.holds Try.pinned (OpenSpec.ofChange Rows.topRentSpec) :=
  OpenClaim.holds_of_wide 3 Try.f3 rfl rfl rfl rfl rfl rfl rfl ⟨rfl, rfl, rfl, rfl, rfl⟩ rfl rfl rfl rfl rfl (by kernel_rfl) Try.func3 (by kernel_rfl)
    (of_decide_eq_true (by kernel_rfl)) (by unfold Func.isWrapper; first | (rw [if_pos (by decide +kernel)]; kernel_rfl) | (rw [if_neg (by decide +kernel)]; exact ⟨rfl, rfl⟩))
    (fun os started H enc _ => lifted os started H enc)
end Go.Proofs.Ythidhbamcmgloaa.topRent
namespace Go.Proofs.Ythidhbamcmgloaa
/-- The given statement. -/
theorem topRent_holds : Rows.TopRentSaid := topRent.over
#print axioms topRent_holds
end Go.Proofs.Ythidhbamcmgloaa
end
