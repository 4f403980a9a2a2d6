/-
  MoneyCheapest: for every input the law returns true, and each argument reads afterwards as it read before. No condition.
-/
import Derived.Test.YtiimhkdjechkpaaRows
import Derived.WalkKit
import Derived.Test.YtiimhkdjechkpaaM4
set_option linter.unusedSimpArgs false
set_option linter.unusedVariables false
/- money: no choice is cheaper. -/
section
namespace Go.Eng
open Go Go.RowKit Go.Proofs
set_option maxRecDepth 100000
set_option maxHeartbeats 4000000
attribute [local irreducible] OwnT DefS
/-- The other choice. -/
def othF (y : Nat → Nat → Int) (z : Nat) (i : Nat) : Int := (y (i % z) 0) % 8
theorem othF_bd (y : Nat → Nat → Int) (z i : Nat) : 0 ≤ othF y z i ∧ othF y z i ≤ 7 := by
  have h1 := Int.emod_nonneg (y (i % z) 0) (show (8 : Int) ≠ 0 by omega)
  have h2 := Int.emod_lt_of_pos (y (i % z) 0) (show 0 < (8 : Int) by omega)
  unfold othF; omega
def oth (y : Nat → Nat → Int) (z m j : Nat) : Int := if j < m then othF y z j else 0
theorem oth_bd (y : Nat → Nat → Int) (z m j : Nat) : 0 ≤ oth y z m j ∧ oth y z m j ≤ 7 := by
  have := othF_bd y z j
  unfold oth; split <;> omega
theorem oth_0 (y : Nat → Nat → Int) (z j : Nat) : oth y z 0 j = 0 := by simp [oth]
theorem spl_same {b c : Bool} {X Y : Prop} (h : Y) (hbc : b = true → c = false) : spl b (spl c X Y) Y := by
  cases b with
  | true => exact spl_t rfl (spl_f (hbc rfl) h)
  | false => exact spl_f rfl h
/-- None found, or the best one found. -/
theorem chp_04 {n : Nat} {l : Nat → Nat → Int} {a ch : Int} (h : ¬ (chpE n l a ch = 1 ∨ chpE n l a ch = 2)) : n ≤ 6 ∧ (∀ i, i < n → tkB (l i) = true) ∧ (0 ≤ a ∧ a ≤ 12) ∧ (0 ≤ ch ∧ ch ≤ 12) ∧ ((chpE n l a ch = 4 ∧ (best l n n a (a + ch)).is = false) ∨ chpE n l a ch = 0) := by
  have h' := h
  unfold chpE at h
  split at h
  · rename_i hv
    split at h
    · rename_i hr
      have hv' := hv
      have hr' := hr
      simp only [chpV, Bool.and_eq_true, decide_eq_true_eq, allU_iff] at hv
      simp only [Bool.and_eq_true, in3_iff] at hr
      refine ⟨hv.1, hv.2, hr.1, hr.2, ?_⟩
      cases hb : (best l n n a (a + ch)).is with
      | true => exact .inr (chp_of hv.1 hv.2 hr.1 hr.2 hb)
      | false => exact .inl ⟨by simp [chpE, hv', hr', hb], rfl⟩
    · exact absurd (.inr rfl) h
  · exact absurd (.inl rfl) h
def moneyCheapestBase : BaseF := fun args => match args with
  | [.row n sz_l f_l, .int .i64 a, .int .i64 ch, .row z sz_y f_y] => some ((sz_l = 3 ∧ IntR n 3 f_l) ∧ (sz_y = 1 ∧ IntK .u8 z 1 f_y) ∧ (∀ i, i < z → (Lit.int .u8 ((ivf f_y) i 0)).wf = true), .bool true)
  | _ => none
theorem moneyCheapest_eq (n : Nat) (sz_l : Nat) (f_l : Nat → Nat → SV) (a : Int) (ch : Int) (z : Nat) (sz_y : Nat) (f_y : Nat → Nat → SV) : moneyCheapestBase [.row n sz_l f_l, .int .i64 a, .int .i64 ch, .row z sz_y f_y] = some ((sz_l = 3 ∧ IntR n 3 f_l) ∧ (sz_y = 1 ∧ IntK .u8 z 1 f_y) ∧ (∀ i, i < z → (Lit.int .u8 ((ivf f_y) i 0)).wf = true), .bool true) := rfl
theorem moneyCheapest_base : Base Try.prog 5 moneyCheapestBase := by
  intro args p v hq hp
  unfold moneyCheapestBase at hq
  split at hq
  rotate_left
  · cases hq
  rename_i n sz_l f_l a ch z sz_y f_y
  cases hq
  obtain ⟨⟨rfl, i_l⟩, ⟨rfl, i_y⟩, pre⟩ := hp
  refine base_of (C := cx [] [] [(11, awakeBase), (12, cheapestBase), (24, ticketsBase), (25, admitsBase), (26, priceBase)] [(5, 30, p5_30), (5, 31, p5_31)] none) (cx_ok trivial ⟨awake_base, cheapest_base, tickets_base, admits_base, price_base, trivial⟩) rfl (g := 5) (fn := Try.f5)
    (args' := [.row n 3 (rowF .i64 (ivf f_l)), .int .i64 a, .int .i64 ch, .row z 1 (rowF .u8 (ivf f_y))]) (fn_5) rfl 1000 (by
    simp only [BdL, Bd, and_self, and_true, true_and]
    exact ⟨(fun i j hi hj => by rw [i_l i j hi hj]; trivial), (fun i j hi hj => by rw [i_y i j hi hj]; trivial)⟩) ⟨SameD.int i_l, SameD.rfl' _, SameD.rfl' _, SameD.intK i_y, trivial⟩ ?_
  generalize ivf f_l = l at *
  generalize ivf f_y = y at *
  simp only [rowF_eq]
  by_cases hn : 8 < n
  · simp only [show decide (8 < (n : Int)) = true from decide_eq_true (by omega), awake_eq, cheapest_eq, tickets_eq, admits_eq, price_eq, p5_30, p5_31, Try.f5, go_sem, ↓reduceIte, Nat.reduceAdd, Nat.reduceSub, Nat.reduceMul, Nat.reduceEqDiff, Nat.reduceLT, Nat.reduceLeDiff, Int.reduceToNat, Int.reduceLE, Int.reduceLT, Int.reduceEq, Int.reduceNeg, reduceCtorEq]
  have hn1 : decide (8 < (n : Int)) = false := decide_eq_false (by omega)
  by_cases hz : z = 0
  · simp only [hn1, show decide ((z : Int) = 0) = true from decide_eq_true (by omega), awake_eq, cheapest_eq, tickets_eq, admits_eq, price_eq, p5_30, p5_31, Try.f5, go_sem, ↓reduceIte, Nat.reduceAdd, Nat.reduceSub, Nat.reduceMul, Nat.reduceEqDiff, Nat.reduceLT, Nat.reduceLeDiff, Int.reduceToNat, Int.reduceLE, Int.reduceLT, Int.reduceEq, Int.reduceNeg, reduceCtorEq]
  have hz1 : decide ((z : Int) = 0) = false := decide_eq_false (by omega)
  by_cases h12 : chpE n l a ch = 1 ∨ chpE n l a ch = 2
  · have hN : chpN n l a ch = 0 := by simp only [chpN]; rw [if_neg (by omega)]
    have hP : chpP n l a ch = 0 := by simp only [chpP]; rw [if_neg (by omega)]
    simp only [hn1, hz1, hN, hP, awake_eq, cheapest_eq, tickets_eq, admits_eq, price_eq, p5_30, p5_31, Try.f5, go_sem, ↓reduceIte, Nat.reduceAdd, Nat.reduceSub, Nat.reduceMul, Nat.reduceEqDiff, Nat.reduceLT, Nat.reduceLeDiff, Int.reduceToNat, Int.reduceLE, Int.reduceLT, Int.reduceEq, Int.reduceNeg, reduceCtorEq]
    refine ⟨by omega, ?_⟩
    rcases h12 with h | h
    · exact spl_t (decide_eq_true h) (spl_t (by decide) trivial)
    · exact spl_f (decide_eq_false (by omega)) (spl_t (decide_eq_true h) (spl_t (by decide) trivial))
  obtain ⟨hn6, hl, ha, hc, hE⟩ := chp_04 h12
  have htk : (allU (tkBl l) n && decide (n ≤ 6)) = true := by rw [Bool.and_eq_true, allU_iff]; exact ⟨hl, decide_eq_true hn6⟩
  have ha0 : decide (a < 0) = false := decide_eq_false (by omega)
  have hc0 : decide (ch < 0) = false := decide_eq_false (by omega)
  rcases hE with ⟨hE, hb⟩ | hE
  · have hN : chpN n l a ch = 0 := by simp only [chpN]; rw [if_neg (by omega)]
    have hP : chpP n l a ch = 0 := by simp only [chpP]; rw [if_neg (by omega)]
    simp only [hn1, hz1, hE, hN, hP, htk, ha0, hc0, show decide ((4 : Int) = 1) = false from rfl, show decide ((4 : Int) = 2) = false from rfl, show decide ((4 : Int) = 0) = false from rfl, show decide ((4 : Int) = 4) = true from rfl, awake_eq, cheapest_eq, tickets_eq, admits_eq, price_eq, p5_30, p5_31, Try.f5, go_sem, ↓reduceIte, Nat.reduceAdd, Nat.reduceSub, Nat.reduceMul, Nat.reduceEqDiff, Nat.reduceLT, Nat.reduceLeDiff, Int.reduceToNat, Int.reduceLE, Int.reduceLT, Int.reduceEq, Int.reduceNeg, reduceCtorEq]
    refine ⟨by omega, by omega, ⟨by omega, by omega, by omega⟩, ?_⟩
    refine loop_of { i : Nat // i ≤ n } (fun i => [(13, .int .i64 (i.1 : Int)), (12, .vec 0 0), (11, .int .i64 4), (10, .int .i64 0), (9, .row 0 1 fun i x => .int .i64 (chA l n a (a + ch) i)), (3, .row z 1 fun i j => .int .u8 (y i j)), (2, .int .i64 ch), (1, .int .i64 a), (0, .row n 3 fun i j => .int .i64 (l i j))]) (fun i => ⟨[], [.live 0 3 1 n fun j _ => .int .i64 (oth y z i.1 j)]⟩) (fun i => n - i.1) (fun _ => ⟨rfl, rfl⟩) ⟨0, by omega⟩ (by (apply sub_of <;> simp only [go_sem, ↓reduceIte, Nat.reduceAdd, Nat.reduceSub, Nat.reduceMul, Nat.reduceEqDiff, Nat.reduceLT, Nat.reduceLeDiff, Int.reduceToNat, Int.reduceLE, Int.reduceLT, Int.reduceEq, Int.reduceNeg, reduceCtorEq] <;> (try simp [catF]) <;> (try exact fun j _ => Bd_nth (by simp [BdL, Bd]) j) <;> (try exact bd_setL (by simp [bdAs, BdL, Bd])) <;> (try exact nestF_bd _ _ _ _ _ _ _ _ _)); exact fun _ _ => rfl) ?_
    rintro ⟨i, hi⟩
    simp only [awake_eq, cheapest_eq, tickets_eq, admits_eq, price_eq, p5_30, p5_31, Try.f5, go_sem, ↓reduceIte, Nat.reduceAdd, Nat.reduceSub, Nat.reduceMul, Nat.reduceEqDiff, Nat.reduceLT, Nat.reduceLeDiff, Int.reduceToNat, Int.reduceLE, Int.reduceLT, Int.reduceEq, Int.reduceNeg, reduceCtorEq]
    have hw3 : IntKind.i64.wrap ((i : Int) + 1) = ((i + 1 : Nat) : Int) := by rw [wrap_id (by omega) (by omega)]; omega
    refine ⟨fun e1 => ?_, fun e1 => ?_⟩
    · simp only [decide_eq_true_eq] at e1
      have ht := Nat.mod_lt i (show 0 < z by omega)
      have hy := wf_u8 (pre (i % z) ht)
      have wy : IntKind.i64.wrap (y (i % z) 0) = y (i % z) 0 := wrap_id (by omega) (by omega)
      have w8 : (y (i % z) 0).tmod 8 = othF y z i := Int.tmod_eq_emod_of_nonneg hy.1
      simp only [tmod_nat, Int.toNat_natCast, wy, w8]
      refine ⟨by omega, ⟨by omega, by omega⟩, by omega, ⟨by omega, by omega⟩, by omega, ⟨i + 1, by omega⟩, by simp only []; omega, ?_⟩
      apply sub_of <;> simp only [hw3, go_sem, ↓reduceIte, Nat.reduceAdd, Nat.reduceSub, Nat.reduceMul, Nat.reduceEqDiff, Nat.reduceLT, Nat.reduceLeDiff, Int.reduceToNat, Int.reduceLE, Int.reduceLT, Int.reduceEq, Int.reduceNeg, reduceCtorEq] <;> (try simp) <;> (try exact fun j _ => Bd_nth (by simp [BdL, Bd]) j) <;> (try exact bd_setL (by simp [bdAs, BdL, Bd])) <;> (try exact nestF_bd _ _ _ _ _ _ _ _ _)
      exact fun j hj => by
        by_cases h : j = i
        · subst h; simp [updF, oth, nth]
        · simp [updF, oth, h, show j < i + 1 ↔ j < i by omega]
    simp only [decide_eq_false_iff_not] at e1
    have hin : n = i := by omega
    subst hin
    have hO := oth_bd y z n
    have hadm : admB n l (fun j _ => oth y z n j) a ch = false := by
      cases hB : admB n l (fun j _ => oth y z n j) a ch with
      | false => rfl
      | true =>
        simp only [admB, Bool.and_eq_true, decide_eq_true_eq] at hB
        have := (best_opt hl (oth y z n) (fun i _ => (hO i).1) n a (a + ch) (Nat.le_refl _) (by omega) (by omega) (by rw [sumT_all]; exact hB.1) (by rw [sumT_all]; exact hB.2)).1
        rw [hb] at this; cases this
    exact ⟨⟨by omega, by omega, by omega, by omega, hl, fun j _ => by have := hO j; omega⟩, spl_t (by decide) (spl_t (by rw [hadm]; rfl) trivial)⟩
  · obtain ⟨_, _, _, _, hb, hN, hP⟩ := chp_ok hE
    simp only [hn1, hz1, hE, hN, htk, ha0, hc0, show decide ((0 : Int) = 1) = false from rfl, show decide ((0 : Int) = 2) = false from rfl, show decide ((0 : Int) = 0) = true from rfl, awake_eq, cheapest_eq, tickets_eq, admits_eq, price_eq, p5_30, p5_31, Try.f5, go_sem, ↓reduceIte, Nat.reduceAdd, Nat.reduceSub, Nat.reduceMul, Nat.reduceEqDiff, Nat.reduceLT, Nat.reduceLeDiff, Int.reduceToNat, Int.reduceLE, Int.reduceLT, Int.reduceEq, Int.reduceNeg, reduceCtorEq]
    refine ⟨by omega, by omega, ⟨by omega, by omega, by omega⟩, ?_⟩
    refine loop_of { i : Nat // i ≤ n } (fun i => [(13, .int .i64 (i.1 : Int)), (12, .vec 0 0), (11, .int .i64 0), (10, .int .i64 (chpP n l a ch)), (9, .row n 1 fun i x => .int .i64 (chA l n a (a + ch) i)), (3, .row z 1 fun i j => .int .u8 (y i j)), (2, .int .i64 ch), (1, .int .i64 a), (0, .row n 3 fun i j => .int .i64 (l i j))]) (fun i => ⟨[], [.live 0 3 1 n fun j _ => .int .i64 (oth y z i.1 j)]⟩) (fun i => n - i.1) (fun _ => ⟨rfl, rfl⟩) ⟨0, by omega⟩ (by (apply sub_of <;> simp only [go_sem, ↓reduceIte, Nat.reduceAdd, Nat.reduceSub, Nat.reduceMul, Nat.reduceEqDiff, Nat.reduceLT, Nat.reduceLeDiff, Int.reduceToNat, Int.reduceLE, Int.reduceLT, Int.reduceEq, Int.reduceNeg, reduceCtorEq] <;> (try simp [catF]) <;> (try exact fun j _ => Bd_nth (by simp [BdL, Bd]) j) <;> (try exact bd_setL (by simp [bdAs, BdL, Bd])) <;> (try exact nestF_bd _ _ _ _ _ _ _ _ _)); exact fun _ _ => rfl) ?_
    rintro ⟨i, hi⟩
    simp only [awake_eq, cheapest_eq, tickets_eq, admits_eq, price_eq, p5_30, p5_31, Try.f5, go_sem, ↓reduceIte, Nat.reduceAdd, Nat.reduceSub, Nat.reduceMul, Nat.reduceEqDiff, Nat.reduceLT, Nat.reduceLeDiff, Int.reduceToNat, Int.reduceLE, Int.reduceLT, Int.reduceEq, Int.reduceNeg, reduceCtorEq]
    have hw3 : IntKind.i64.wrap ((i : Int) + 1) = ((i + 1 : Nat) : Int) := by rw [wrap_id (by omega) (by omega)]; omega
    refine ⟨fun e1 => ?_, fun e1 => ?_⟩
    · simp only [decide_eq_true_eq] at e1
      have ht := Nat.mod_lt i (show 0 < z by omega)
      have hy := wf_u8 (pre (i % z) ht)
      have wy : IntKind.i64.wrap (y (i % z) 0) = y (i % z) 0 := wrap_id (by omega) (by omega)
      have w8 : (y (i % z) 0).tmod 8 = othF y z i := Int.tmod_eq_emod_of_nonneg hy.1
      simp only [tmod_nat, Int.toNat_natCast, wy, w8]
      refine ⟨by omega, ⟨by omega, by omega⟩, by omega, ⟨by omega, by omega⟩, by omega, ⟨i + 1, by omega⟩, by simp only []; omega, ?_⟩
      apply sub_of <;> simp only [hw3, go_sem, ↓reduceIte, Nat.reduceAdd, Nat.reduceSub, Nat.reduceMul, Nat.reduceEqDiff, Nat.reduceLT, Nat.reduceLeDiff, Int.reduceToNat, Int.reduceLE, Int.reduceLT, Int.reduceEq, Int.reduceNeg, reduceCtorEq] <;> (try simp) <;> (try exact fun j _ => Bd_nth (by simp [BdL, Bd]) j) <;> (try exact bd_setL (by simp [bdAs, BdL, Bd])) <;> (try exact nestF_bd _ _ _ _ _ _ _ _ _)
      exact fun j hj => by
        by_cases h : j = i
        · subst h; simp [updF, oth, nth]
        · simp [updF, oth, h, show j < i + 1 ↔ j < i by omega]
    simp only [decide_eq_false_iff_not] at e1
    have hin : n = i := by omega
    subst hin
    have hO := oth_bd y z n
    obtain ⟨s1, s2, s3, s4, s5⟩ := chp_sum hE
    simp only [sumT_all] at s2 s3 s4 s5
    refine ⟨⟨by omega, by omega, by omega, by omega, hl, fun j _ => by have := hO j; omega⟩, ⟨by omega, by omega, by omega, by omega, hl, fun j hj => by have := s1 j hj; omega⟩, spl_f (by simp [admB, s2, s3]) ⟨⟨by omega, by omega, hl, fun j hj => by have := s1 j hj; omega⟩, ⟨by omega, by omega, hl, fun j _ => by have := hO j; omega⟩, ?_⟩⟩
    rw [← s4]
    generalize hB : admB n l (fun j _ => oth y z n j) a ch = B
    refine loop_of { q : Nat // q ≤ n } (fun q => [(19, .int .i64 (q.1 : Int)), (18, .int .i64 (sumK (fun i => oth y z n i) n)), (17, .int .i64 (sumK (fun i => oth y z n i * l i 2) n)), (16, .int .i64 (sumK (fun i => chA l n a (a + ch) i) n)), (15, .int .i64 (chpP n l a ch)), (14, .bool B), (12, .vec 0 0), (11, .int .i64 0), (10, .int .i64 (chpP n l a ch)), (9, .row n 1 fun i x => .int .i64 (chA l n a (a + ch) i)), (3, .row z 1 fun i j => .int .u8 (y i j)), (2, .int .i64 ch), (1, .int .i64 a), (0, .row n 3 fun i j => .int .i64 (l i j))]) (fun _ => ⟨[], [.live 0 3 1 n fun j _ => .int .i64 (oth y z n j)]⟩) (fun q => n - q.1) (fun _ => ⟨rfl, rfl⟩) ⟨0, by omega⟩ (by (apply sub_of <;> simp only [go_sem, ↓reduceIte, Nat.reduceAdd, Nat.reduceSub, Nat.reduceMul, Nat.reduceEqDiff, Nat.reduceLT, Nat.reduceLeDiff, Int.reduceToNat, Int.reduceLE, Int.reduceLT, Int.reduceEq, Int.reduceNeg, reduceCtorEq] <;> (try simp [catF]) <;> (try exact fun j _ => Bd_nth (by simp [BdL, Bd]) j) <;> (try exact bd_setL (by simp [bdAs, BdL, Bd])) <;> (try exact nestF_bd _ _ _ _ _ _ _ _ _))) ?_
    rintro ⟨q, hq⟩
    simp only [awake_eq, cheapest_eq, tickets_eq, admits_eq, price_eq, p5_30, p5_31, Try.f5, go_sem, ↓reduceIte, Nat.reduceAdd, Nat.reduceSub, Nat.reduceMul, Nat.reduceEqDiff, Nat.reduceLT, Nat.reduceLeDiff, Int.reduceToNat, Int.reduceLE, Int.reduceLT, Int.reduceEq, Int.reduceNeg, reduceCtorEq]
    have hw4 : IntKind.i64.wrap ((q : Int) + 1) = ((q + 1 : Nat) : Int) := by rw [wrap_id (by omega) (by omega)]; omega
    have hop : B = true → chpP n l a ch < sumK (fun i => oth y z n i * l i 2) n ∨ (chpP n l a ch = sumK (fun i => oth y z n i * l i 2) n ∧ sumK (fun i => chA l n a (a + ch) i) n ≤ sumK (fun i => oth y z n i) n) := fun h => by
      subst h
      simp only [admB, Bool.and_eq_true, decide_eq_true_eq] at hB
      have h1 := (best_opt hl (oth y z n) (fun i _ => (hO i).1) n a (a + ch) (Nat.le_refl _) (by omega) (by omega) (by rw [sumT_all]; exact hB.1) (by rw [sumT_all]; exact hB.2)).2
      simp only [Ans.le, sumT_all, s5, ← hP] at h1
      exact h1
    refine ⟨fun e1 => ?_, fun e1 => ?_⟩
    · simp only [decide_eq_true_eq] at e1
      have hcq := s1 q (by omega)
      refine ⟨⟨by omega, by omega⟩, spl_f (decide_eq_false (by omega)) ⟨⟨q + 1, by omega⟩, by simp only []; omega, ?_⟩⟩
      apply sub_of <;> simp only [hw4, go_sem, ↓reduceIte, Nat.reduceAdd, Nat.reduceSub, Nat.reduceMul, Nat.reduceEqDiff, Nat.reduceLT, Nat.reduceLeDiff, Int.reduceToNat, Int.reduceLE, Int.reduceLT, Int.reduceEq, Int.reduceNeg, reduceCtorEq] <;> (try simp) <;> (try exact fun j _ => Bd_nth (by simp [BdL, Bd]) j) <;> (try exact bd_setL (by simp [bdAs, BdL, Bd])) <;> (try exact nestF_bd _ _ _ _ _ _ _ _ _)
    have dec : n = q := by simp only [decide_eq_false_iff_not] at e1; omega
    subst dec
    have wa : IntKind.i64.wrap (a - 1) = a - 1 := wrap_id (by omega) (by omega)
    have wc : IntKind.i64.wrap (ch - 1) = ch - 1 := wrap_id (by omega) (by omega)
    obtain ⟨f1, f2⟩ := chp_less hE (a' := max 0 (a - 1)) (ch' := ch) (by omega) (by omega)
    obtain ⟨f3, f4⟩ := chp_less hE (a' := a) (ch' := max 0 (ch - 1)) (by omega) (by omega)
    refine ⟨fun e2 => spl_f (decide_eq_false (by have := hop e2; omega)) ⟨fun e4 => spl_f (decide_eq_false (by have := hop e2; simp only [decide_eq_true_eq] at e4; omega)) ?_, fun e4 => ?_⟩, fun e2 => ?_⟩
    all_goals refine loop_of { i : Nat // i ≤ n ∧ ∀ j, j < i → oth y z n j = chA l n a (a + ch) j } (fun i => [(20, .int .i64 (i.1 : Int)), (18, .int .i64 (sumK (fun i => oth y z n i) n)), (17, .int .i64 (sumK (fun i => oth y z n i * l i 2) n)), (16, .int .i64 (sumK (fun i => chA l n a (a + ch) i) n)), (15, .int .i64 (chpP n l a ch)), (14, .bool B), (12, .vec 0 0), (11, .int .i64 0), (10, .int .i64 (chpP n l a ch)), (9, .row n 1 fun i x => .int .i64 (chA l n a (a + ch) i)), (3, .row z 1 fun i j => .int .u8 (y i j)), (2, .int .i64 ch), (1, .int .i64 a), (0, .row n 3 fun i j => .int .i64 (l i j))]) (fun _ => ⟨[], [.live 0 3 1 n fun j _ => .int .i64 (oth y z n j)]⟩) (fun q => n - q.1) (fun _ => ⟨rfl, rfl⟩) ⟨0, by omega, fun j hj => absurd hj (by omega)⟩ (by (apply sub_of <;> simp only [go_sem, ↓reduceIte, Nat.reduceAdd, Nat.reduceSub, Nat.reduceMul, Nat.reduceEqDiff, Nat.reduceLT, Nat.reduceLeDiff, Int.reduceToNat, Int.reduceLE, Int.reduceLT, Int.reduceEq, Int.reduceNeg, reduceCtorEq] <;> (try simp [catF]) <;> (try exact fun j _ => Bd_nth (by simp [BdL, Bd]) j) <;> (try exact bd_setL (by simp [bdAs, BdL, Bd])) <;> (try exact nestF_bd _ _ _ _ _ _ _ _ _))) ?_
    all_goals rintro ⟨i, hi, hpr⟩
    all_goals simp only [awake_eq, cheapest_eq, tickets_eq, admits_eq, price_eq, p5_30, p5_31, Try.f5, go_sem, ↓reduceIte, Nat.reduceAdd, Nat.reduceSub, Nat.reduceMul, Nat.reduceEqDiff, Nat.reduceLT, Nat.reduceLeDiff, Int.reduceToNat, Int.reduceLE, Int.reduceLT, Int.reduceEq, Int.reduceNeg, reduceCtorEq]
    all_goals have hw5 : IntKind.i64.wrap ((i : Int) + 1) = ((i + 1 : Nat) : Int) := by rw [wrap_id (by omega) (by omega)]; omega
    all_goals rw [wa, wc]
    all_goals refine ⟨fun e5 => ⟨fun e6 => ⟨fun e7 => ⟨fun e8 => ?_, fun _ => ⟨by omega, by omega, spl_t (decide_eq_true f1) (spl_t (decide_eq_true f2) (spl_t (decide_eq_true f3) (spl_t (decide_eq_true f4) trivial)))⟩⟩, fun _ => ⟨by omega, by omega, spl_t (decide_eq_true f1) (spl_t (decide_eq_true f2) (spl_t (decide_eq_true f3) (spl_t (decide_eq_true f4) trivial)))⟩⟩, fun _ => ⟨by omega, by omega, spl_t (decide_eq_true f1) (spl_t (decide_eq_true f2) (spl_t (decide_eq_true f3) (spl_t (decide_eq_true f4) trivial)))⟩⟩, fun _ => ⟨by omega, by omega, spl_t (decide_eq_true f1) (spl_t (decide_eq_true f2) (spl_t (decide_eq_true f3) (spl_t (decide_eq_true f4) trivial)))⟩⟩
    all_goals simp only [decide_eq_true_eq] at e5 e7 e8
    all_goals refine ⟨⟨by kernel_rfl, by kernel_rfl⟩, ⟨by omega, by omega⟩, ⟨by omega, by omega⟩, by omega, fun e9 => ?_, fun e9 => ⟨⟨i + 1, by omega, ?_⟩, by simp only []; omega, ?_⟩⟩
    all_goals first
      | (refine ⟨⟨by kernel_rfl, by kernel_rfl⟩, ⟨by omega, by omega⟩, ⟨by omega, by omega⟩, by omega, spl_f (decide_eq_false ?_) ⟨by omega, by omega, spl_t (decide_eq_true f1) (spl_t (decide_eq_true f2) (spl_t (decide_eq_true f3) (spl_t (decide_eq_true f4) trivial)))⟩⟩
         rw [e6] at hB
         simp only [admB, Bool.and_eq_true, decide_eq_true_eq] at hB
         exact best_first hl (a := a) (p := a + ch) (by omega) (by omega) hb (c := oth y z n) (fun i _ => (hO i).1) (by rw [sumT_all]; exact hB.1) (by rw [sumT_all]; exact hB.2) (by rw [sumT_all, sumT_all]; omega) (by rw [sumT_all, sumT_all]; exact e8) i (by omega) hpr)
      | (apply sub_of <;> simp only [hw5, go_sem, ↓reduceIte, Nat.reduceAdd, Nat.reduceSub, Nat.reduceMul, Nat.reduceEqDiff, Nat.reduceLT, Nat.reduceLeDiff, Int.reduceToNat, Int.reduceLE, Int.reduceLT, Int.reduceEq, Int.reduceNeg, reduceCtorEq] <;> (try simp) <;> (try exact fun j _ => Bd_nth (by simp [BdL, Bd]) j) <;> (try exact bd_setL (by simp [bdAs, BdL, Bd])) <;> (try exact nestF_bd _ _ _ _ _ _ _ _ _)
         done)
      | (intro j hj
         rcases Nat.lt_or_ge j i with h | h
         · exact hpr j h
         · have hji : j = i := by omega
           subst hji
           simp only [Bool.not_eq_false', decide_eq_true_eq] at e9
           exact e9.symm)
end Go.Eng
end

/-
  MoneyCheapest: for every input the law returns true, and each argument reads afterwards as it read before. No condition.
-/
section
namespace Go.Proofs.Ytiimhkdjechkpaa.moneyCheapest
open Go.ChangeShapes Go.WideShapes Go.ChangeAt Go.RowKit Go.Eng
set_option linter.unusedVariables false
theorem own : ownKnob Try.prog.godebug = none := by kernel_rfl
theorem laid : laidOutB Try.prog = true := by kernel_rfl
set_option maxRecDepth 100000 in
theorem lifted (os : Os) (started : os.Started) (H : Type) (enc : TypeId × Value → H) :
    ReturnsInHanded {} Try.checked os 5 .any (Rows.moneyCheapestSpec.pre6 enc Try.prog Try.f5 Rows.moneyCheapestRow.domain false) (Rows.moneyCheapestSpec.post enc Try.prog Try.f5 false true false false) := by
  refine returnsInHanded_of_change (C := Try.checked) own started (by kernel_rfl) Try.func5
    (ChangeSpec.witness6 (enc := enc) (C := Try.checked) false ⟨#[], #[.slice none 0 0, .int .i64 0, .int .i64 0, .slice none 0 0], []⟩ 8 (by kernel_rfl) (by kernel_rfl) (by kernel_rfl) (by kernel_rfl)) ?_
  intro W base args ds gs before hval0 hW hcnd _
  have hval : ∀ (j : Nat) t v, Try.f5.params[j]? = some t → args[j]? = some v → Value.okWide Try.prog W .any base t v := hval0
  have hW' := hW
  obtain ⟨p, q, hA0, hV, rfl, hfz, hnd⟩ := hW
  have hA : DataW.TrodAll enc Try.prog W 0 (fun _ => true) true Try.f5.params.toList args.toList ds p := hA0
  rw [Try.params5] at hA hval
  obtain ⟨v0, vs0, d0, ds0, p0, q0, hargs, rfl, rfl, h0, r0⟩ := trodAll_cons hA
  obtain ⟨v1, vs1, d1, ds1, p1, q1, rfl, rfl, rfl, h1, r1⟩ := trodAll_cons r0
  obtain ⟨v2, vs2, d2, ds2, p2, q2, rfl, rfl, rfl, h2, r2⟩ := trodAll_cons r1
  obtain ⟨v3, vs3, d3, ds3, p3, q3, rfl, rfl, rfl, h3, r3⟩ := trodAll_cons r2
  obtain ⟨rfl, rfl, rfl⟩ := trodAll_nil r3
  obtain rfl : args = #[v0, v1, v2, v3] := by cases args; simp_all
  obtain ⟨rfl, rfl⟩ := trodVars_none hV
  obtain ⟨n0, f0, e0, m0, t0⟩ := arg_row (s := [.int .i64, .int .i64, .int .i64]) Try.underlying22 (by kernel_rfl) (hval 0 22 v0 rfl rfl) h0
  obtain ⟨i0, b0⟩ := intK_of_typ (k := .i64) (c := 3) rfl t0
  obtain ⟨x1, rfl, rfl, rfl, w1⟩ := open_int Try.underlying3 (hval 1 3 v1 rfl rfl) h1
  obtain ⟨x2, rfl, rfl, rfl, w2⟩ := open_int Try.underlying3 (hval 2 3 v2 rfl rfl) h2
  obtain ⟨n3, f3, e3, m3, t3⟩ := arg_row (s := [.int .u8]) Try.underlying44 (by kernel_rfl) (hval 3 44 v3 rfl rfl) h3
  obtain ⟨i3, b3⟩ := intK_of_typ (k := .u8) (c := 1) rfl t3
  have hd : DenL Env.emp W [.row n0 3 f0, .int .i64 x1, .int .i64 x2, .row n3 1 f3] [v0, .int .i64 x1, .int .i64 x2, v3] := ⟨e0, .int _ _, .int _ _, e3, trivial⟩
  refine (law_calls moneyCheapest_base (args := [.row n0 3 f0, .int .i64 x1, .int .i64 x2, .row n3 1 f3]) rfl ⟨⟨rfl, fun i j hi hj => i0 i j hi hj⟩, ⟨rfl, fun i j hi hj => i3 i j hi hj⟩, fun i hi => b3 i 0 hi (by omega)⟩ (denA_of hd)).mono fun e W' ⟨he, hb⟩ => ?_
  subst he
  exact ⟨_, rfl, law_end laid rfl Try.underlying4 (by kernel_rfl) rfl hW' rfl hb⟩
theorem over : Rows.moneyCheapestRow.holds Try.pinned (OpenSpec.ofChange Rows.moneyCheapestSpec) :=
  OpenClaim.holds_of_wide 5 Try.f5 rfl rfl rfl rfl rfl rfl rfl ⟨rfl, rfl, rfl, rfl, rfl⟩ rfl rfl rfl rfl rfl (by kernel_rfl) Try.func5 (by kernel_rfl)
    (of_decide_eq_true (by kernel_rfl)) (by unfold Func.isWrapper; first | (rw [if_pos (by decide +kernel)]; kernel_rfl) | (rw [if_neg (by decide +kernel)]; exact ⟨rfl, rfl⟩))
    (fun os started H enc _ => lifted os started H enc)
end Go.Proofs.Ytiimhkdjechkpaa.moneyCheapest
namespace Go.Proofs.Ytiimhkdjechkpaa
/-- The given statement. -/
theorem moneyCheapest_holds : Rows.MoneyCheapestSaid := moneyCheapest.over
#print axioms moneyCheapest_holds
end Go.Proofs.Ytiimhkdjechkpaa
end
