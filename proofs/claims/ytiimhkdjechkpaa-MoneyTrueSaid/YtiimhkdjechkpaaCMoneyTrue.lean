/-
  MoneyTrue: for every input the law returns true, and each argument reads afterwards as it read before. No condition.
-/
import Derived.Test.YtiimhkdjechkpaaRows
import Derived.WalkKit
import Derived.Test.YtiimhkdjechkpaaM3
set_option linter.unusedSimpArgs false
set_option linter.unusedVariables false
/- money: what is true. -/
section
namespace Go.Eng
open Go Go.RowKit Go.Proofs
set_option maxRecDepth 100000
set_option maxHeartbeats 4000000
attribute [local irreducible] OwnT DefS
def pkB (lo hi b : Int) : Int := lo + b % (hi - lo + 1)
theorem pkB_bd {lo hi b : Int} (h : lo ≤ hi) : lo ≤ pkB lo hi b ∧ pkB lo hi b ≤ hi := by
  have h1 := Int.emod_nonneg b (show hi - lo + 1 ≠ 0 by omega)
  have h2 := Int.emod_lt_of_pos b (show 0 < hi - lo + 1 by omega)
  unfold pkB; omega
def pickBase : BaseF := fun args => match args with
  | [.agg [.int .i64 lo, .int .i64 hi], .int .u32 bb] => some (((Lit.int .u32 bb).wf = true) ∧ (0 ≤ lo ∧ lo ≤ hi ∧ hi ≤ 1099511627776), .int .i64 (pkB lo hi bb))
  | _ => none
theorem pick_eq (lo : Int) (hi : Int) (bb : Int) : pickBase [.agg [.int .i64 lo, .int .i64 hi], .int .u32 bb] = some (((Lit.int .u32 bb).wf = true) ∧ (0 ≤ lo ∧ lo ≤ hi ∧ hi ≤ 1099511627776), .int .i64 (pkB lo hi bb)) := rfl
theorem pick_base : Base Try.prog 30 pickBase := by
  intro args p v hq hp
  unfold pickBase at hq
  split at hq
  rotate_left
  · cases hq
  rename_i lo hi bb
  cases hq
  obtain ⟨wf_bb, pre⟩ := hp
  refine base_of (C := cx [] [] [] [(30, 1, p30_1)] none) (cx_ok trivial trivial) rfl (g := 30) (fn := Try.f30)
    (args' := [.agg [.int .i64 lo, .int .i64 hi], .int .u32 bb]) (fn_30) rfl 1000 (by simp only [BdL, Bd, and_self, and_true, true_and]) ⟨SameD.rfl' _, SameD.rfl' _, trivial⟩ ?_
  simp only [p30_1, Try.f30, go_sem, ↓reduceIte, Nat.reduceAdd, Nat.reduceSub, Nat.reduceMul, Nat.reduceEqDiff, Nat.reduceLT, Nat.reduceLeDiff, Int.reduceToNat, Int.reduceLE, Int.reduceLT, Int.reduceEq, Int.reduceNeg, reduceCtorEq]
  have h1 : IntKind.i64.wrap (hi - lo) = hi - lo := wrap_id (by omega) (by omega)
  have h2 : IntKind.i64.wrap (hi - lo + 1) = hi - lo + 1 := wrap_id (by omega) (by omega)
  have hb := wf_u32 wf_bb
  have h3 : IntKind.i64.wrap bb = bb := wrap_id (by omega) (by omega)
  have h4 : bb.tmod (hi - lo + 1) = bb % (hi - lo + 1) := Int.tmod_eq_emod_of_nonneg hb.1
  have h5 := pkB_bd (lo := lo) (hi := hi) (b := bb) pre.2.1
  rw [h1, h2, h3, h4]
  refine ⟨⟨by kernel_rfl, by kernel_rfl⟩, by omega, ?_⟩
  unfold pkB at *
  rw [wrap_id (by omega) (by omega)]
/-- The money that truly is there, behind i days. -/
def nowS (s : Int) (l : Nat → Nat → Int) (z : Nat) (y : Nat → Nat → Int) : Nat → Int
  | 0 => s
  | i + 1 => nowS s l z y i + pkB (l i 1) (l i 2) (y (i % z) 0) - pkB (l i 3) (l i 4) (y ((i + 1) % z) 0)
theorem nowS_bd {l : Nat → Nat → Int} {n z : Nat} {y : Nat → Nat → Int} {a b s : Int} (hl : ∀ i, i < n → dyBl l i = true) (hs : a ≤ s ∧ s ≤ b) : ∀ i, i ≤ n → loS a l i ≤ nowS s l z y i ∧ nowS s l z y i ≤ hiS b l i
  | 0, _ => hs
  | i + 1, hi => by
    obtain ⟨h1, h2⟩ := nowS_bd (y := y) (z := z) hl hs i (by omega)
    have hd := dyBl_iff.1 (hl i (by omega))
    have p1 := pkB_bd (lo := l i 1) (hi := l i 2) (b := y (i % z) 0) hd.2.1.2.1
    have p2 := pkB_bd (lo := l i 3) (hi := l i 4) (b := y ((i + 1) % z) 0) hd.2.2.2.1
    simp only [loS, hiS, nowS]
    omega
theorem ltL_mono {s s' : Nat → Int} {l : Nat → Nat → Int} {n : Nat} (hd : ∀ i, i < n → 0 ≤ l i 0) (hr : ∀ i j, i ≤ j → j < n → l i 0 ≤ l j 0) (h : ∀ i, i < n → s (i + 1) ≤ s' (i + 1)) :
    ltL s' l n < 0 ∨ (0 ≤ ltL s l n ∧ ltL s l n ≤ ltL s' l n) := by
  rcases ltL_cases s' l n hd with ⟨h1, _⟩ | ⟨q, hq, h1, h2, h3⟩
  · left; omega
  · right
    rcases ltL_cases s l n hd with ⟨_, h5⟩ | ⟨p, hp, h4, h5, h6⟩
    · have := h5 q hq
      have := h q hq
      omega
    · rw [h3, h6]
      refine ⟨hd p hp, ?_⟩
      rcases Nat.lt_or_ge q p with h7 | h7
      · have := h5 q h7
        have := h q hq
        omega
      · exact hr p q h7 hq
theorem days_up {n : Nat} {l : Nat → Nat → Int} (h : ∀ i, i < n → dyBl l i = true ∧ (i = 0 ∨ l (i - 1) 0 < l i 0)) : ∀ i j, i ≤ j → j < n → l i 0 ≤ l j 0 := by
  intro i j hij
  obtain ⟨k, rfl⟩ : ∃ k, j = i + k := ⟨j - i, by omega⟩
  induction k with
  | zero => intro _; exact Int.le_refl _
  | succ k ih =>
    intro hj
    have h1 := ih (by omega) (by omega)
    rcases (h (i + (k + 1)) hj).2 with h2 | h2
    · omega
    · rw [show i + (k + 1) - 1 = i + k by omega] at h2; omega
theorem loS_add (s : Int) (l : Nat → Nat → Int) : ∀ i, loS s l i = s + loS 0 l i
  | 0 => by simp [loS]
  | i + 1 => by simp only [loS, loS_add s l i]; omega
theorem misS_ge (l : Nat → Nat → Int) : ∀ n, 0 ≤ misS l n ∧ ∀ i, i < n → -(loS 0 l (i + 1)) ≤ misS l n
  | 0 => ⟨by simp [misS], fun i hi => absurd hi (by omega)⟩
  | n + 1 => by
    obtain ⟨h1, h2⟩ := misS_ge l n
    refine ⟨by simp only [misS]; omega, fun i hi => ?_⟩
    simp only [misS]
    rcases Nat.lt_or_ge i n with h | h
    · have := h2 i h; omega
    · obtain rfl : i = n := by omega
      omega
theorem misS_hit (l : Nat → Nat → Int) : ∀ n, 0 < misS l n → ∃ i, i < n ∧ misS l n = -(loS 0 l (i + 1))
  | 0, h => by simp [misS] at h
  | n + 1, h => by
    simp only [misS] at h ⊢
    rcases Int.le_total (misS l n) (-(loS 0 l (n + 1))) with h1 | h1
    · exact ⟨n, by omega, by rw [Int.max_eq_right h1]⟩
    · rw [Int.max_eq_left h1] at h ⊢
      obtain ⟨i, hi, h2⟩ := misS_hit l n h
      exact ⟨i, by omega, h2⟩
/-- There is enough just if there is as much as is missing. -/
theorem bel_iff {n : Nat} {l : Nat → Nat → Int} {a b : Int} (hv : bdgB n l = true) (hs : spB a b = true) : belE n l a b = if misS l n ≤ a then 4 else 0 := by
  obtain ⟨h1, h2⟩ := bdgB_iff.1 hv
  have hd : ∀ i, i < n → 0 ≤ l i 0 := fun i hi => (dyBl_iff.1 (h2 i hi).1).1.1
  have h3 := spB_iff.1 hs
  simp only [belE, hv, hs, if_true]
  congr 1
  apply propext
  rcases ltL_cases (loS a l) l n hd with ⟨h4, h5⟩ | ⟨q, hq, h4, h5, h6⟩
  · rw [h4]
    refine ⟨fun _ => ?_, fun _ => by omega⟩
    rcases Int.lt_or_le 0 (misS l n) with h | h
    · obtain ⟨i, hi, h7⟩ := misS_hit l n h
      have := h5 i hi
      rw [loS_add] at this
      omega
    · omega
  · rw [h6]
    refine ⟨fun h => by have := hd q hq; omega, fun h => ?_⟩
    have := (misS_ge l n).2 q hq
    rw [loS_add] at h4
    omega
def moneyTrueBase : BaseF := fun args => match args with
  | [.agg [.int .i64 a, .int .i64 b], .row n sz_l f_l, .row z sz_y f_y] => some ((sz_l = 5 ∧ IntR n 5 f_l) ∧ (sz_y = 1 ∧ IntK .u32 z 1 f_y) ∧ (∀ i, i < z → (Lit.int .u32 ((ivf f_y) i 0)).wf = true), .bool true)
  | _ => none
theorem moneyTrue_eq (a : Int) (b : Int) (n : Nat) (sz_l : Nat) (f_l : Nat → Nat → SV) (z : Nat) (sz_y : Nat) (f_y : Nat → Nat → SV) : moneyTrueBase [.agg [.int .i64 a, .int .i64 b], .row n sz_l f_l, .row z sz_y f_y] = some ((sz_l = 5 ∧ IntR n 5 f_l) ∧ (sz_y = 1 ∧ IntK .u32 z 1 f_y) ∧ (∀ i, i < z → (Lit.int .u32 ((ivf f_y) i 0)).wf = true), .bool true) := rfl
theorem moneyTrue_base : Base Try.prog 9 moneyTrueBase := by
  intro args p v hq hp
  unfold moneyTrueBase at hq
  split at hq
  rotate_left
  · cases hq
  rename_i a b n sz_l f_l z sz_y f_y
  cases hq
  obtain ⟨⟨rfl, i_l⟩, ⟨rfl, i_y⟩, pre⟩ := hp
  refine base_of (C := cx [] [] [(11, awakeBase), (20, below_Base), (22, enoughBase), (29, budgetBase), (30, pickBase)] [(9, 21, p9_21), (9, 26, p9_26)] none) (cx_ok trivial ⟨awake_base, below__base, enough_base, budget_base, pick_base, trivial⟩) rfl (g := 9) (fn := Try.f9)
    (args' := [.agg [.int .i64 a, .int .i64 b], .row n 5 (rowF .i64 (ivf f_l)), .row z 1 (rowF .u32 (ivf f_y))]) (fn_9) rfl 1000 (by
    simp only [BdL, Bd, and_self, and_true, true_and]
    exact ⟨(fun i j hi hj => by rw [i_l i j hi hj]; trivial), (fun i j hi hj => by rw [i_y i j hi hj]; trivial)⟩) ⟨SameD.rfl' _, SameD.int i_l, SameD.intK i_y, trivial⟩ ?_
  generalize ivf f_l = l at *
  generalize ivf f_y = y at *
  simp only [rowF_eq]
  by_cases hn : 132 < n
  · simp only [show decide (132 < (n : Int)) = true from decide_eq_true (by omega), awake_eq, below__eq, enough_eq, budget_eq, pick_eq, p9_21, p9_26, Try.f9, go_sem, ↓reduceIte, Nat.reduceAdd, Nat.reduceSub, Nat.reduceMul, Nat.reduceEqDiff, Nat.reduceLT, Nat.reduceLeDiff, Int.reduceToNat, Int.reduceLE, Int.reduceLT, Int.reduceEq, Int.reduceNeg, reduceCtorEq]
  by_cases hz : z = 0
  · simp only [show decide (132 < (n : Int)) = false from decide_eq_false (by omega), show decide ((z : Int) = 0) = true from decide_eq_true (by omega), awake_eq, below__eq, enough_eq, budget_eq, pick_eq, p9_21, p9_26, Try.f9, go_sem, ↓reduceIte, Nat.reduceAdd, Nat.reduceSub, Nat.reduceMul, Nat.reduceEqDiff, Nat.reduceLT, Nat.reduceLeDiff, Int.reduceToNat, Int.reduceLE, Int.reduceLT, Int.reduceEq, Int.reduceNeg, reduceCtorEq]
  have hn1 : decide (132 < (n : Int)) = false := decide_eq_false (by omega)
  have hz1 : decide ((z : Int) = 0) = false := decide_eq_false (by omega)
  cases hv : bdgB n l with
  | false =>
    have hE : enoE n l = 1 := by simp [enoE, hv]
    have hR : enoR n l = 0 := by simp [enoR, hv]
    have hB : belE n l a b = 1 := by simp [belE, hv]
    have hS : belS n l a b = 0 := by simp [belS, hB]
    have hP : belP n l a b = 0 := by simp [belP, hB]
    simp only [hn1, hz1, hE, hR, hB, hS, hP, awake_eq, below__eq, enough_eq, budget_eq, pick_eq, p9_21, p9_26, Try.f9, go_sem, ↓reduceIte, Nat.reduceAdd, Nat.reduceSub, Nat.reduceMul, Nat.reduceEqDiff, Nat.reduceLT, Nat.reduceLeDiff, Int.reduceToNat, Int.reduceLE, Int.reduceLT, Int.reduceEq, Int.reduceNeg, reduceCtorEq]
    omega
  | true =>
    obtain ⟨h1, h2⟩ := bdgB_iff.1 hv
    have hE : enoE n l = 0 := by simp [enoE, hv]
    have hR : enoR n l = misS l n := by simp [enoR, hv]
    have hmis := misS_ge l n
    have hmb : misS l n ≤ 1099511627776 * 200 := by
      rcases Int.lt_or_le 0 (misS l n) with h | h
      · obtain ⟨i, hi, h7⟩ := misS_hit l n h
        have := loS_bd (l := l) (n := n) (s := 0) (fun i hi => (h2 i hi).1) (by omega) (i + 1) (by omega)
        omega
      · omega
    have hw1 : IntKind.i64.wrap (misS l n - 1) = misS l n - 1 := wrap_id (by omega) (by omega)
    have hm0 : decide (misS l n < 0) = false := decide_eq_false (by omega)
    have hfull : ∀ s, 0 ≤ s → s ≤ 1099511627776 → spB s s = true := fun s h1 h2 => spB_iff.2 ⟨h1, Int.le_refl _, h2⟩
    have hself : misS l n ≤ 1099511627776 → belE n l (misS l n) (misS l n) = 4 := fun h => by rw [bel_iff hv (hfull _ hmis.1 h), if_pos (Int.le_refl _)]
    have hless : 0 < misS l n → misS l n - 1 ≤ 1099511627776 → belE n l (misS l n - 1) (misS l n - 1) = 0 := fun h h' => by rw [bel_iff hv (hfull _ (by omega) h'), if_neg (by omega)]
    have hdy : ∀ i, i < n → dyBl l i = true := fun i hi => (h2 i hi).1
    have hd0 : ∀ i, i < n → 0 ≤ l i 0 := fun i hi => (dyBl_iff.1 (hdy i hi)).1.1
    have hup := days_up h2
    cases hsp : spB a b with
    | false =>
      have hB : belE n l a b = 2 := by simp [belE, hv, hsp]
      have hS : belS n l a b = 0 := by simp [belS, hB]
      have hP : belP n l a b = 0 := by simp [belP, hB]
      rcases (show (misS l n = 0) ∨ (0 < misS l n ∧ misS l n ≤ 1099511627776) ∨ (misS l n = 1099511627777) ∨ (1099511627777 < misS l n) by omega) with kk | kk | kk | kk
      · have k1 : decide (misS l n ≤ 1099511627776) = true := decide_eq_true (by omega)
        have k2 : decide (0 < misS l n) = false := decide_eq_false (by omega)
        have k4 := hself (by omega)
        simp only [hn1, hz1, hE, hR, hv, hm0, hw1, k1, k2, k4, hB, hS, hP, awake_eq, below__eq, enough_eq, budget_eq, pick_eq, p9_21, p9_26, Try.f9, go_sem, ↓reduceIte, Nat.reduceAdd, Nat.reduceSub, Nat.reduceMul, Nat.reduceEqDiff, Nat.reduceLT, Nat.reduceLeDiff, Int.reduceToNat, Int.reduceLE, Int.reduceLT, Int.reduceEq, Int.reduceNeg, reduceCtorEq]
        omega
      · have k1 : decide (misS l n ≤ 1099511627776) = true := decide_eq_true (by omega)
        have k2 : decide (0 < misS l n) = true := decide_eq_true (by omega)
        have k3 : decide (misS l n - 1 ≤ 1099511627776) = true := decide_eq_true (by omega)
        have k4 := hself (by omega)
        have k5 := hless (by omega) (by omega)
        simp only [hn1, hz1, hE, hR, hv, hm0, hw1, k1, k2, k3, k4, k5, hB, hS, hP, awake_eq, below__eq, enough_eq, budget_eq, pick_eq, p9_21, p9_26, Try.f9, go_sem, ↓reduceIte, Nat.reduceAdd, Nat.reduceSub, Nat.reduceMul, Nat.reduceEqDiff, Nat.reduceLT, Nat.reduceLeDiff, Int.reduceToNat, Int.reduceLE, Int.reduceLT, Int.reduceEq, Int.reduceNeg, reduceCtorEq]
        omega
      · have k1 : decide (misS l n ≤ 1099511627776) = false := decide_eq_false (by omega)
        have k2 : decide (0 < misS l n) = true := decide_eq_true (by omega)
        have k3 : decide (misS l n - 1 ≤ 1099511627776) = true := decide_eq_true (by omega)
        have k5 := hless (by omega) (by omega)
        simp only [hn1, hz1, hE, hR, hv, hm0, hw1, k1, k2, k3, k5, hB, hS, hP, awake_eq, below__eq, enough_eq, budget_eq, pick_eq, p9_21, p9_26, Try.f9, go_sem, ↓reduceIte, Nat.reduceAdd, Nat.reduceSub, Nat.reduceMul, Nat.reduceEqDiff, Nat.reduceLT, Nat.reduceLeDiff, Int.reduceToNat, Int.reduceLE, Int.reduceLT, Int.reduceEq, Int.reduceNeg, reduceCtorEq]
        omega
      · have k1 : decide (misS l n ≤ 1099511627776) = false := decide_eq_false (by omega)
        have k2 : decide (0 < misS l n) = true := decide_eq_true (by omega)
        have k3 : decide (misS l n - 1 ≤ 1099511627776) = false := decide_eq_false (by omega)
        simp only [hn1, hz1, hE, hR, hv, hm0, hw1, k1, k2, k3, hB, hS, hP, awake_eq, below__eq, enough_eq, budget_eq, pick_eq, p9_21, p9_26, Try.f9, go_sem, ↓reduceIte, Nat.reduceAdd, Nat.reduceSub, Nat.reduceMul, Nat.reduceEqDiff, Nat.reduceLT, Nat.reduceLeDiff, Int.reduceToNat, Int.reduceLE, Int.reduceLT, Int.reduceEq, Int.reduceNeg, reduceCtorEq]
        omega
    | true =>
      have hab := spB_iff.1 hsp
      have ha0 : decide (a < 0) = false := decide_eq_false (by omega)
      have ha1 : decide (b < a) = false := decide_eq_false (by omega)
      have ha2 : decide (1099511627776 < b) = false := decide_eq_false (by omega)
      have hbel := bel_iff hv hsp
      have hpk := pkB_bd (lo := a) (hi := b) (b := y 0 0) hab.2.1
      have hnow := nowS_bd (y := y) (z := z) (s := pkB a b (y 0 0)) hdy hpk
      have hLb := loS_bd (l := l) (n := n) (s := a) hdy (by omega)
      have hHb := hiS_bd (l := l) (n := n) (s := b) hdy (by omega)
      have hzn : 0 < z := by omega
      by_cases hma : misS l n ≤ a
      · have hB : belE n l a b = 4 := by rw [hbel, if_pos hma]
        have hS : belS n l a b = 0 := by simp [belS, hB]
        have hP : belP n l a b = 0 := by simp [belP, hB]
        have hmm : decide (misS l n ≤ a) = true := decide_eq_true hma
        have hlt : ltL (loS a l) l n = -1 := by
          have : belE n l a b = if ltL (loS a l) l n < 0 then 4 else 0 := by simp [belE, hv, hsp]
          rw [hB] at this
          rcases ltL_cases (loS a l) l n hd0 with ⟨h, _⟩ | ⟨q, hq, _, _, h⟩
          · exact h
          · rw [h, if_neg (by have := hd0 q hq; omega)] at this; cases this
        rcases (show (misS l n = 0) ∨ (0 < misS l n ∧ misS l n ≤ 1099511627776) ∨ (misS l n = 1099511627777) ∨ (1099511627777 < misS l n) by omega) with kk | kk | kk | kk
        · have k1 : decide (misS l n ≤ 1099511627776) = true := decide_eq_true (by omega)
          have k2 : decide (0 < misS l n) = false := decide_eq_false (by omega)
          have k4 := hself (by omega)
          simp only [hn1, hz1, hE, hR, hv, hm0, hw1, k1, k2, k4, hB, hS, hP, ha0, ha1, ha2, hmm, awake_eq, below__eq, enough_eq, budget_eq, pick_eq, p9_21, p9_26, Try.f9, go_sem, ↓reduceIte, Nat.reduceAdd, Nat.reduceSub, Nat.reduceMul, Nat.reduceEqDiff, Nat.reduceLT, Nat.reduceLeDiff, Int.reduceToNat, Int.reduceLE, Int.reduceLT, Int.reduceEq, Int.reduceNeg, reduceCtorEq]
          repeat refine ⟨(by omega : n ≤ 1000000), ?_⟩
          refine spl_f rfl ⟨⟨by kernel_rfl, by kernel_rfl⟩, by omega, ⟨pre 0 hzn, hab⟩, ?_⟩
          refine loop_of { i : Nat // i ≤ n } (fun i => [(20, .int .i64 (i.1 : Int)), (19, .int .i64 (ltL (nowS (pkB a b (y 0 0)) l z y) l i.1)), (18, .int .i64 (nowS (pkB a b (y 0 0)) l z y i.1)), (9, .int .i64 4), (8, .int .i64 0), (7, .int .i64 0), (2, .row z 1 fun i j => .int .u32 (y i j)), (1, .row n 5 fun i j => .int .i64 (l i j))]) (fun _ => ⟨[.live 34 [.int .i64 a, .int .i64 b]], []⟩) (fun i => n - i.1) (fun _ => ⟨rfl, rfl⟩) ⟨0, by omega⟩ (by simp only [ltL, nowS]; (apply sub_of <;> simp only [go_sem, ↓reduceIte, Nat.reduceAdd, Nat.reduceSub, Nat.reduceMul, Nat.reduceEqDiff, Nat.reduceLT, Nat.reduceLeDiff, Int.reduceToNat, Int.reduceLE, Int.reduceLT, Int.reduceEq, Int.reduceNeg, reduceCtorEq] <;> (try simp [catF]) <;> (try exact fun j _ => Bd_nth (by simp [BdL, Bd]) j) <;> (try exact bd_setL (by simp [bdAs, BdL, Bd])) <;> (try exact nestF_bd _ _ _ _ _ _ _ _ _))) ?_
          rintro ⟨i, hi⟩
          simp only [awake_eq, below__eq, enough_eq, budget_eq, pick_eq, p9_21, p9_26, Try.f9, go_sem, ↓reduceIte, Nat.reduceAdd, Nat.reduceSub, Nat.reduceMul, Nat.reduceEqDiff, Nat.reduceLT, Nat.reduceLeDiff, Int.reduceToNat, Int.reduceLE, Int.reduceLT, Int.reduceEq, Int.reduceNeg, reduceCtorEq]
          have hw3 : IntKind.i64.wrap ((i : Int) + 1) = ((i + 1 : Nat) : Int) := by rw [wrap_id (by omega) (by omega)]; omega
          refine ⟨fun e1 => ?_, fun e1 => ?_⟩
          · have ik : i < n := by simp at e1; omega
            have hd := dyBl_iff.1 (hdy i ik)
            obtain ⟨n1, n2⟩ := hnow i hi
            have l1 := hLb i hi
            have l2 := hHb i hi
            rw [hw3, tmod_nat, tmod_nat]
            simp only [Int.toNat_natCast]
            have p1 := pkB_bd (lo := l i 1) (hi := l i 2) (b := y (i % z) 0) hd.2.1.2.1
            have p2 := pkB_bd (lo := l i 3) (hi := l i 4) (b := y ((i + 1) % z) 0) hd.2.2.2.1
            have w1 : IntKind.i64.wrap (nowS (pkB a b (y 0 0)) l z y i + pkB (l i 1) (l i 2) (y (i % z) 0)) = nowS (pkB a b (y 0 0)) l z y i + pkB (l i 1) (l i 2) (y (i % z) 0) := wrap_id (by omega) (by omega)
            have w2 : IntKind.i64.wrap (nowS (pkB a b (y 0 0)) l z y i + pkB (l i 1) (l i 2) (y (i % z) 0) - pkB (l i 3) (l i 4) (y ((i + 1) % z) 0)) = nowS (pkB a b (y 0 0)) l z y (i + 1) := by rw [wrap_id (by omega) (by omega)]; rfl
            simp only [w1, w2]
            have m1 := Nat.mod_lt i hzn
            have m2 := Nat.mod_lt (i + 1) hzn
            refine ⟨⟨by kernel_rfl, by kernel_rfl⟩, ⟨by omega, by omega⟩, by omega, ⟨by omega, by omega⟩, ⟨pre _ m1, by omega, by omega, by omega⟩, ⟨by omega, by omega⟩, by omega, ⟨by omega, by omega⟩, ⟨pre _ m2, by omega, by omega, by omega⟩, fun e2 => ⟨fun e3 => ⟨⟨by omega, by omega⟩, (by
              simp only [decide_eq_true_eq, decide_eq_false_iff_not] at *
              have LN : ltL (nowS (pkB a b (y 0 0)) l z y) l (i + 1) = l i 0 := by simp only [ltL]; repeat' split <;> first | rfl | omega
              refine ⟨⟨i + 1, by omega⟩, by simp only []; omega, ?_⟩
              apply sub_of <;> simp only [hw3, LN, go_sem, ↓reduceIte, Nat.reduceAdd, Nat.reduceSub, Nat.reduceMul, Nat.reduceEqDiff, Nat.reduceLT, Nat.reduceLeDiff, Int.reduceToNat, Int.reduceLE, Int.reduceLT, Int.reduceEq, Int.reduceNeg, reduceCtorEq] <;> (try simp) <;> (try exact fun j _ => Bd_nth (by simp [BdL, Bd]) j) <;> (try exact bd_setL (by simp [bdAs, BdL, Bd])) <;> (try exact nestF_bd _ _ _ _ _ _ _ _ _))⟩, fun e3 => (by
              simp only [decide_eq_true_eq, decide_eq_false_iff_not] at *
              have LN : ltL (nowS (pkB a b (y 0 0)) l z y) l (i + 1) = ltL (nowS (pkB a b (y 0 0)) l z y) l i := by simp only [ltL]; repeat' split <;> first | rfl | omega
              refine ⟨⟨i + 1, by omega⟩, by simp only []; omega, ?_⟩
              apply sub_of <;> simp only [hw3, LN, go_sem, ↓reduceIte, Nat.reduceAdd, Nat.reduceSub, Nat.reduceMul, Nat.reduceEqDiff, Nat.reduceLT, Nat.reduceLeDiff, Int.reduceToNat, Int.reduceLE, Int.reduceLT, Int.reduceEq, Int.reduceNeg, reduceCtorEq] <;> (try simp) <;> (try exact fun j _ => Bd_nth (by simp [BdL, Bd]) j) <;> (try exact bd_setL (by simp [bdAs, BdL, Bd])) <;> (try exact nestF_bd _ _ _ _ _ _ _ _ _))⟩, fun e2 => (by
              simp only [decide_eq_true_eq, decide_eq_false_iff_not] at *
              have LN : ltL (nowS (pkB a b (y 0 0)) l z y) l (i + 1) = ltL (nowS (pkB a b (y 0 0)) l z y) l i := by simp only [ltL]; repeat' split <;> first | rfl | omega
              refine ⟨⟨i + 1, by omega⟩, by simp only []; omega, ?_⟩
              apply sub_of <;> simp only [hw3, LN, go_sem, ↓reduceIte, Nat.reduceAdd, Nat.reduceSub, Nat.reduceMul, Nat.reduceEqDiff, Nat.reduceLT, Nat.reduceLeDiff, Int.reduceToNat, Int.reduceLE, Int.reduceLT, Int.reduceEq, Int.reduceNeg, reduceCtorEq] <;> (try simp) <;> (try exact fun j _ => Bd_nth (by simp [BdL, Bd]) j) <;> (try exact bd_setL (by simp [bdAs, BdL, Bd])) <;> (try exact nestF_bd _ _ _ _ _ _ _ _ _))⟩
          · simp only [decide_eq_false_iff_not] at e1
            obtain rfl : i = n := by omega
            have mm := ltL_mono (s := loS a l) (s' := nowS (pkB a b (y 0 0)) l z y) hd0 hup (fun j hj => (hnow (j + 1) (by omega)).1)
            rw [hlt] at mm
            exact spl_t (decide_eq_true (by omega)) trivial
        · have k1 : decide (misS l n ≤ 1099511627776) = true := decide_eq_true (by omega)
          have k2 : decide (0 < misS l n) = true := decide_eq_true (by omega)
          have k3 : decide (misS l n - 1 ≤ 1099511627776) = true := decide_eq_true (by omega)
          have k4 := hself (by omega)
          have k5 := hless (by omega) (by omega)
          simp only [hn1, hz1, hE, hR, hv, hm0, hw1, k1, k2, k3, k4, k5, hB, hS, hP, ha0, ha1, ha2, hmm, awake_eq, below__eq, enough_eq, budget_eq, pick_eq, p9_21, p9_26, Try.f9, go_sem, ↓reduceIte, Nat.reduceAdd, Nat.reduceSub, Nat.reduceMul, Nat.reduceEqDiff, Nat.reduceLT, Nat.reduceLeDiff, Int.reduceToNat, Int.reduceLE, Int.reduceLT, Int.reduceEq, Int.reduceNeg, reduceCtorEq]
          repeat refine ⟨(by omega : n ≤ 1000000), ?_⟩
          refine spl_f rfl ⟨⟨by kernel_rfl, by kernel_rfl⟩, by omega, ⟨pre 0 hzn, hab⟩, ?_⟩
          refine loop_of { i : Nat // i ≤ n } (fun i => [(20, .int .i64 (i.1 : Int)), (19, .int .i64 (ltL (nowS (pkB a b (y 0 0)) l z y) l i.1)), (18, .int .i64 (nowS (pkB a b (y 0 0)) l z y i.1)), (9, .int .i64 4), (8, .int .i64 0), (7, .int .i64 0), (2, .row z 1 fun i j => .int .u32 (y i j)), (1, .row n 5 fun i j => .int .i64 (l i j))]) (fun _ => ⟨[.live 34 [.int .i64 a, .int .i64 b]], []⟩) (fun i => n - i.1) (fun _ => ⟨rfl, rfl⟩) ⟨0, by omega⟩ (by simp only [ltL, nowS]; (apply sub_of <;> simp only [go_sem, ↓reduceIte, Nat.reduceAdd, Nat.reduceSub, Nat.reduceMul, Nat.reduceEqDiff, Nat.reduceLT, Nat.reduceLeDiff, Int.reduceToNat, Int.reduceLE, Int.reduceLT, Int.reduceEq, Int.reduceNeg, reduceCtorEq] <;> (try simp [catF]) <;> (try exact fun j _ => Bd_nth (by simp [BdL, Bd]) j) <;> (try exact bd_setL (by simp [bdAs, BdL, Bd])) <;> (try exact nestF_bd _ _ _ _ _ _ _ _ _))) ?_
          rintro ⟨i, hi⟩
          simp only [awake_eq, below__eq, enough_eq, budget_eq, pick_eq, p9_21, p9_26, Try.f9, go_sem, ↓reduceIte, Nat.reduceAdd, Nat.reduceSub, Nat.reduceMul, Nat.reduceEqDiff, Nat.reduceLT, Nat.reduceLeDiff, Int.reduceToNat, Int.reduceLE, Int.reduceLT, Int.reduceEq, Int.reduceNeg, reduceCtorEq]
          have hw3 : IntKind.i64.wrap ((i : Int) + 1) = ((i + 1 : Nat) : Int) := by rw [wrap_id (by omega) (by omega)]; omega
          refine ⟨fun e1 => ?_, fun e1 => ?_⟩
          · have ik : i < n := by simp at e1; omega
            have hd := dyBl_iff.1 (hdy i ik)
            obtain ⟨n1, n2⟩ := hnow i hi
            have l1 := hLb i hi
            have l2 := hHb i hi
            rw [hw3, tmod_nat, tmod_nat]
            simp only [Int.toNat_natCast]
            have p1 := pkB_bd (lo := l i 1) (hi := l i 2) (b := y (i % z) 0) hd.2.1.2.1
            have p2 := pkB_bd (lo := l i 3) (hi := l i 4) (b := y ((i + 1) % z) 0) hd.2.2.2.1
            have w1 : IntKind.i64.wrap (nowS (pkB a b (y 0 0)) l z y i + pkB (l i 1) (l i 2) (y (i % z) 0)) = nowS (pkB a b (y 0 0)) l z y i + pkB (l i 1) (l i 2) (y (i % z) 0) := wrap_id (by omega) (by omega)
            have w2 : IntKind.i64.wrap (nowS (pkB a b (y 0 0)) l z y i + pkB (l i 1) (l i 2) (y (i % z) 0) - pkB (l i 3) (l i 4) (y ((i + 1) % z) 0)) = nowS (pkB a b (y 0 0)) l z y (i + 1) := by rw [wrap_id (by omega) (by omega)]; rfl
            simp only [w1, w2]
            have m1 := Nat.mod_lt i hzn
            have m2 := Nat.mod_lt (i + 1) hzn
            refine ⟨⟨by kernel_rfl, by kernel_rfl⟩, ⟨by omega, by omega⟩, by omega, ⟨by omega, by omega⟩, ⟨pre _ m1, by omega, by omega, by omega⟩, ⟨by omega, by omega⟩, by omega, ⟨by omega, by omega⟩, ⟨pre _ m2, by omega, by omega, by omega⟩, fun e2 => ⟨fun e3 => ⟨⟨by omega, by omega⟩, (by
              simp only [decide_eq_true_eq, decide_eq_false_iff_not] at *
              have LN : ltL (nowS (pkB a b (y 0 0)) l z y) l (i + 1) = l i 0 := by simp only [ltL]; repeat' split <;> first | rfl | omega
              refine ⟨⟨i + 1, by omega⟩, by simp only []; omega, ?_⟩
              apply sub_of <;> simp only [hw3, LN, go_sem, ↓reduceIte, Nat.reduceAdd, Nat.reduceSub, Nat.reduceMul, Nat.reduceEqDiff, Nat.reduceLT, Nat.reduceLeDiff, Int.reduceToNat, Int.reduceLE, Int.reduceLT, Int.reduceEq, Int.reduceNeg, reduceCtorEq] <;> (try simp) <;> (try exact fun j _ => Bd_nth (by simp [BdL, Bd]) j) <;> (try exact bd_setL (by simp [bdAs, BdL, Bd])) <;> (try exact nestF_bd _ _ _ _ _ _ _ _ _))⟩, fun e3 => (by
              simp only [decide_eq_true_eq, decide_eq_false_iff_not] at *
              have LN : ltL (nowS (pkB a b (y 0 0)) l z y) l (i + 1) = ltL (nowS (pkB a b (y 0 0)) l z y) l i := by simp only [ltL]; repeat' split <;> first | rfl | omega
              refine ⟨⟨i + 1, by omega⟩, by simp only []; omega, ?_⟩
              apply sub_of <;> simp only [hw3, LN, go_sem, ↓reduceIte, Nat.reduceAdd, Nat.reduceSub, Nat.reduceMul, Nat.reduceEqDiff, Nat.reduceLT, Nat.reduceLeDiff, Int.reduceToNat, Int.reduceLE, Int.reduceLT, Int.reduceEq, Int.reduceNeg, reduceCtorEq] <;> (try simp) <;> (try exact fun j _ => Bd_nth (by simp [BdL, Bd]) j) <;> (try exact bd_setL (by simp [bdAs, BdL, Bd])) <;> (try exact nestF_bd _ _ _ _ _ _ _ _ _))⟩, fun e2 => (by
              simp only [decide_eq_true_eq, decide_eq_false_iff_not] at *
              have LN : ltL (nowS (pkB a b (y 0 0)) l z y) l (i + 1) = ltL (nowS (pkB a b (y 0 0)) l z y) l i := by simp only [ltL]; repeat' split <;> first | rfl | omega
              refine ⟨⟨i + 1, by omega⟩, by simp only []; omega, ?_⟩
              apply sub_of <;> simp only [hw3, LN, go_sem, ↓reduceIte, Nat.reduceAdd, Nat.reduceSub, Nat.reduceMul, Nat.reduceEqDiff, Nat.reduceLT, Nat.reduceLeDiff, Int.reduceToNat, Int.reduceLE, Int.reduceLT, Int.reduceEq, Int.reduceNeg, reduceCtorEq] <;> (try simp) <;> (try exact fun j _ => Bd_nth (by simp [BdL, Bd]) j) <;> (try exact bd_setL (by simp [bdAs, BdL, Bd])) <;> (try exact nestF_bd _ _ _ _ _ _ _ _ _))⟩
          · simp only [decide_eq_false_iff_not] at e1
            obtain rfl : i = n := by omega
            have mm := ltL_mono (s := loS a l) (s' := nowS (pkB a b (y 0 0)) l z y) hd0 hup (fun j hj => (hnow (j + 1) (by omega)).1)
            rw [hlt] at mm
            exact spl_t (decide_eq_true (by omega)) trivial
        · have k1 : decide (misS l n ≤ 1099511627776) = false := decide_eq_false (by omega)
          have k2 : decide (0 < misS l n) = true := decide_eq_true (by omega)
          have k3 : decide (misS l n - 1 ≤ 1099511627776) = true := decide_eq_true (by omega)
          have k5 := hless (by omega) (by omega)
          simp only [hn1, hz1, hE, hR, hv, hm0, hw1, k1, k2, k3, k5, hB, hS, hP, ha0, ha1, ha2, hmm, awake_eq, below__eq, enough_eq, budget_eq, pick_eq, p9_21, p9_26, Try.f9, go_sem, ↓reduceIte, Nat.reduceAdd, Nat.reduceSub, Nat.reduceMul, Nat.reduceEqDiff, Nat.reduceLT, Nat.reduceLeDiff, Int.reduceToNat, Int.reduceLE, Int.reduceLT, Int.reduceEq, Int.reduceNeg, reduceCtorEq]
          repeat refine ⟨(by omega : n ≤ 1000000), ?_⟩
          refine spl_f rfl ⟨⟨by kernel_rfl, by kernel_rfl⟩, by omega, ⟨pre 0 hzn, hab⟩, ?_⟩
          refine loop_of { i : Nat // i ≤ n } (fun i => [(20, .int .i64 (i.1 : Int)), (19, .int .i64 (ltL (nowS (pkB a b (y 0 0)) l z y) l i.1)), (18, .int .i64 (nowS (pkB a b (y 0 0)) l z y i.1)), (9, .int .i64 4), (8, .int .i64 0), (7, .int .i64 0), (2, .row z 1 fun i j => .int .u32 (y i j)), (1, .row n 5 fun i j => .int .i64 (l i j))]) (fun _ => ⟨[.live 34 [.int .i64 a, .int .i64 b]], []⟩) (fun i => n - i.1) (fun _ => ⟨rfl, rfl⟩) ⟨0, by omega⟩ (by simp only [ltL, nowS]; (apply sub_of <;> simp only [go_sem, ↓reduceIte, Nat.reduceAdd, Nat.reduceSub, Nat.reduceMul, Nat.reduceEqDiff, Nat.reduceLT, Nat.reduceLeDiff, Int.reduceToNat, Int.reduceLE, Int.reduceLT, Int.reduceEq, Int.reduceNeg, reduceCtorEq] <;> (try simp [catF]) <;> (try exact fun j _ => Bd_nth (by simp [BdL, Bd]) j) <;> (try exact bd_setL (by simp [bdAs, BdL, Bd])) <;> (try exact nestF_bd _ _ _ _ _ _ _ _ _))) ?_
          rintro ⟨i, hi⟩
          simp only [awake_eq, below__eq, enough_eq, budget_eq, pick_eq, p9_21, p9_26, Try.f9, go_sem, ↓reduceIte, Nat.reduceAdd, Nat.reduceSub, Nat.reduceMul, Nat.reduceEqDiff, Nat.reduceLT, Nat.reduceLeDiff, Int.reduceToNat, Int.reduceLE, Int.reduceLT, Int.reduceEq, Int.reduceNeg, reduceCtorEq]
          have hw3 : IntKind.i64.wrap ((i : Int) + 1) = ((i + 1 : Nat) : Int) := by rw [wrap_id (by omega) (by omega)]; omega
          refine ⟨fun e1 => ?_, fun e1 => ?_⟩
          · have ik : i < n := by simp at e1; omega
            have hd := dyBl_iff.1 (hdy i ik)
            obtain ⟨n1, n2⟩ := hnow i hi
            have l1 := hLb i hi
            have l2 := hHb i hi
            rw [hw3, tmod_nat, tmod_nat]
            simp only [Int.toNat_natCast]
            have p1 := pkB_bd (lo := l i 1) (hi := l i 2) (b := y (i % z) 0) hd.2.1.2.1
            have p2 := pkB_bd (lo := l i 3) (hi := l i 4) (b := y ((i + 1) % z) 0) hd.2.2.2.1
            have w1 : IntKind.i64.wrap (nowS (pkB a b (y 0 0)) l z y i + pkB (l i 1) (l i 2) (y (i % z) 0)) = nowS (pkB a b (y 0 0)) l z y i + pkB (l i 1) (l i 2) (y (i % z) 0) := wrap_id (by omega) (by omega)
            have w2 : IntKind.i64.wrap (nowS (pkB a b (y 0 0)) l z y i + pkB (l i 1) (l i 2) (y (i % z) 0) - pkB (l i 3) (l i 4) (y ((i + 1) % z) 0)) = nowS (pkB a b (y 0 0)) l z y (i + 1) := by rw [wrap_id (by omega) (by omega)]; rfl
            simp only [w1, w2]
            have m1 := Nat.mod_lt i hzn
            have m2 := Nat.mod_lt (i + 1) hzn
            refine ⟨⟨by kernel_rfl, by kernel_rfl⟩, ⟨by omega, by omega⟩, by omega, ⟨by omega, by omega⟩, ⟨pre _ m1, by omega, by omega, by omega⟩, ⟨by omega, by omega⟩, by omega, ⟨by omega, by omega⟩, ⟨pre _ m2, by omega, by omega, by omega⟩, fun e2 => ⟨fun e3 => ⟨⟨by omega, by omega⟩, (by
              simp only [decide_eq_true_eq, decide_eq_false_iff_not] at *
              have LN : ltL (nowS (pkB a b (y 0 0)) l z y) l (i + 1) = l i 0 := by simp only [ltL]; repeat' split <;> first | rfl | omega
              refine ⟨⟨i + 1, by omega⟩, by simp only []; omega, ?_⟩
              apply sub_of <;> simp only [hw3, LN, go_sem, ↓reduceIte, Nat.reduceAdd, Nat.reduceSub, Nat.reduceMul, Nat.reduceEqDiff, Nat.reduceLT, Nat.reduceLeDiff, Int.reduceToNat, Int.reduceLE, Int.reduceLT, Int.reduceEq, Int.reduceNeg, reduceCtorEq] <;> (try simp) <;> (try exact fun j _ => Bd_nth (by simp [BdL, Bd]) j) <;> (try exact bd_setL (by simp [bdAs, BdL, Bd])) <;> (try exact nestF_bd _ _ _ _ _ _ _ _ _))⟩, fun e3 => (by
              simp only [decide_eq_true_eq, decide_eq_false_iff_not] at *
              have LN : ltL (nowS (pkB a b (y 0 0)) l z y) l (i + 1) = ltL (nowS (pkB a b (y 0 0)) l z y) l i := by simp only [ltL]; repeat' split <;> first | rfl | omega
              refine ⟨⟨i + 1, by omega⟩, by simp only []; omega, ?_⟩
              apply sub_of <;> simp only [hw3, LN, go_sem, ↓reduceIte, Nat.reduceAdd, Nat.reduceSub, Nat.reduceMul, Nat.reduceEqDiff, Nat.reduceLT, Nat.reduceLeDiff, Int.reduceToNat, Int.reduceLE, Int.reduceLT, Int.reduceEq, Int.reduceNeg, reduceCtorEq] <;> (try simp) <;> (try exact fun j _ => Bd_nth (by simp [BdL, Bd]) j) <;> (try exact bd_setL (by simp [bdAs, BdL, Bd])) <;> (try exact nestF_bd _ _ _ _ _ _ _ _ _))⟩, fun e2 => (by
              simp only [decide_eq_true_eq, decide_eq_false_iff_not] at *
              have LN : ltL (nowS (pkB a b (y 0 0)) l z y) l (i + 1) = ltL (nowS (pkB a b (y 0 0)) l z y) l i := by simp only [ltL]; repeat' split <;> first | rfl | omega
              refine ⟨⟨i + 1, by omega⟩, by simp only []; omega, ?_⟩
              apply sub_of <;> simp only [hw3, LN, go_sem, ↓reduceIte, Nat.reduceAdd, Nat.reduceSub, Nat.reduceMul, Nat.reduceEqDiff, Nat.reduceLT, Nat.reduceLeDiff, Int.reduceToNat, Int.reduceLE, Int.reduceLT, Int.reduceEq, Int.reduceNeg, reduceCtorEq] <;> (try simp) <;> (try exact fun j _ => Bd_nth (by simp [BdL, Bd]) j) <;> (try exact bd_setL (by simp [bdAs, BdL, Bd])) <;> (try exact nestF_bd _ _ _ _ _ _ _ _ _))⟩
          · simp only [decide_eq_false_iff_not] at e1
            obtain rfl : i = n := by omega
            have mm := ltL_mono (s := loS a l) (s' := nowS (pkB a b (y 0 0)) l z y) hd0 hup (fun j hj => (hnow (j + 1) (by omega)).1)
            rw [hlt] at mm
            exact spl_t (decide_eq_true (by omega)) trivial
        · have k1 : decide (misS l n ≤ 1099511627776) = false := decide_eq_false (by omega)
          have k2 : decide (0 < misS l n) = true := decide_eq_true (by omega)
          have k3 : decide (misS l n - 1 ≤ 1099511627776) = false := decide_eq_false (by omega)
          simp only [hn1, hz1, hE, hR, hv, hm0, hw1, k1, k2, k3, hB, hS, hP, ha0, ha1, ha2, hmm, awake_eq, below__eq, enough_eq, budget_eq, pick_eq, p9_21, p9_26, Try.f9, go_sem, ↓reduceIte, Nat.reduceAdd, Nat.reduceSub, Nat.reduceMul, Nat.reduceEqDiff, Nat.reduceLT, Nat.reduceLeDiff, Int.reduceToNat, Int.reduceLE, Int.reduceLT, Int.reduceEq, Int.reduceNeg, reduceCtorEq]
          repeat refine ⟨(by omega : n ≤ 1000000), ?_⟩
          refine spl_f rfl ⟨⟨by kernel_rfl, by kernel_rfl⟩, by omega, ⟨pre 0 hzn, hab⟩, ?_⟩
          refine loop_of { i : Nat // i ≤ n } (fun i => [(20, .int .i64 (i.1 : Int)), (19, .int .i64 (ltL (nowS (pkB a b (y 0 0)) l z y) l i.1)), (18, .int .i64 (nowS (pkB a b (y 0 0)) l z y i.1)), (9, .int .i64 4), (8, .int .i64 0), (7, .int .i64 0), (2, .row z 1 fun i j => .int .u32 (y i j)), (1, .row n 5 fun i j => .int .i64 (l i j))]) (fun _ => ⟨[.live 34 [.int .i64 a, .int .i64 b]], []⟩) (fun i => n - i.1) (fun _ => ⟨rfl, rfl⟩) ⟨0, by omega⟩ (by simp only [ltL, nowS]; (apply sub_of <;> simp only [go_sem, ↓reduceIte, Nat.reduceAdd, Nat.reduceSub, Nat.reduceMul, Nat.reduceEqDiff, Nat.reduceLT, Nat.reduceLeDiff, Int.reduceToNat, Int.reduceLE, Int.reduceLT, Int.reduceEq, Int.reduceNeg, reduceCtorEq] <;> (try simp [catF]) <;> (try exact fun j _ => Bd_nth (by simp [BdL, Bd]) j) <;> (try exact bd_setL (by simp [bdAs, BdL, Bd])) <;> (try exact nestF_bd _ _ _ _ _ _ _ _ _))) ?_
          rintro ⟨i, hi⟩
          simp only [awake_eq, below__eq, enough_eq, budget_eq, pick_eq, p9_21, p9_26, Try.f9, go_sem, ↓reduceIte, Nat.reduceAdd, Nat.reduceSub, Nat.reduceMul, Nat.reduceEqDiff, Nat.reduceLT, Nat.reduceLeDiff, Int.reduceToNat, Int.reduceLE, Int.reduceLT, Int.reduceEq, Int.reduceNeg, reduceCtorEq]
          have hw3 : IntKind.i64.wrap ((i : Int) + 1) = ((i + 1 : Nat) : Int) := by rw [wrap_id (by omega) (by omega)]; omega
          refine ⟨fun e1 => ?_, fun e1 => ?_⟩
          · have ik : i < n := by simp at e1; omega
            have hd := dyBl_iff.1 (hdy i ik)
            obtain ⟨n1, n2⟩ := hnow i hi
            have l1 := hLb i hi
            have l2 := hHb i hi
            rw [hw3, tmod_nat, tmod_nat]
            simp only [Int.toNat_natCast]
            have p1 := pkB_bd (lo := l i 1) (hi := l i 2) (b := y (i % z) 0) hd.2.1.2.1
            have p2 := pkB_bd (lo := l i 3) (hi := l i 4) (b := y ((i + 1) % z) 0) hd.2.2.2.1
            have w1 : IntKind.i64.wrap (nowS (pkB a b (y 0 0)) l z y i + pkB (l i 1) (l i 2) (y (i % z) 0)) = nowS (pkB a b (y 0 0)) l z y i + pkB (l i 1) (l i 2) (y (i % z) 0) := wrap_id (by omega) (by omega)
            have w2 : IntKind.i64.wrap (nowS (pkB a b (y 0 0)) l z y i + pkB (l i 1) (l i 2) (y (i % z) 0) - pkB (l i 3) (l i 4) (y ((i + 1) % z) 0)) = nowS (pkB a b (y 0 0)) l z y (i + 1) := by rw [wrap_id (by omega) (by omega)]; rfl
            simp only [w1, w2]
            have m1 := Nat.mod_lt i hzn
            have m2 := Nat.mod_lt (i + 1) hzn
            refine ⟨⟨by kernel_rfl, by kernel_rfl⟩, ⟨by omega, by omega⟩, by omega, ⟨by omega, by omega⟩, ⟨pre _ m1, by omega, by omega, by omega⟩, ⟨by omega, by omega⟩, by omega, ⟨by omega, by omega⟩, ⟨pre _ m2, by omega, by omega, by omega⟩, fun e2 => ⟨fun e3 => ⟨⟨by omega, by omega⟩, (by
              simp only [decide_eq_true_eq, decide_eq_false_iff_not] at *
              have LN : ltL (nowS (pkB a b (y 0 0)) l z y) l (i + 1) = l i 0 := by simp only [ltL]; repeat' split <;> first | rfl | omega
              refine ⟨⟨i + 1, by omega⟩, by simp only []; omega, ?_⟩
              apply sub_of <;> simp only [hw3, LN, go_sem, ↓reduceIte, Nat.reduceAdd, Nat.reduceSub, Nat.reduceMul, Nat.reduceEqDiff, Nat.reduceLT, Nat.reduceLeDiff, Int.reduceToNat, Int.reduceLE, Int.reduceLT, Int.reduceEq, Int.reduceNeg, reduceCtorEq] <;> (try simp) <;> (try exact fun j _ => Bd_nth (by simp [BdL, Bd]) j) <;> (try exact bd_setL (by simp [bdAs, BdL, Bd])) <;> (try exact nestF_bd _ _ _ _ _ _ _ _ _))⟩, fun e3 => (by
              simp only [decide_eq_true_eq, decide_eq_false_iff_not] at *
              have LN : ltL (nowS (pkB a b (y 0 0)) l z y) l (i + 1) = ltL (nowS (pkB a b (y 0 0)) l z y) l i := by simp only [ltL]; repeat' split <;> first | rfl | omega
              refine ⟨⟨i + 1, by omega⟩, by simp only []; omega, ?_⟩
              apply sub_of <;> simp only [hw3, LN, go_sem, ↓reduceIte, Nat.reduceAdd, Nat.reduceSub, Nat.reduceMul, Nat.reduceEqDiff, Nat.reduceLT, Nat.reduceLeDiff, Int.reduceToNat, Int.reduceLE, Int.reduceLT, Int.reduceEq, Int.reduceNeg, reduceCtorEq] <;> (try simp) <;> (try exact fun j _ => Bd_nth (by simp [BdL, Bd]) j) <;> (try exact bd_setL (by simp [bdAs, BdL, Bd])) <;> (try exact nestF_bd _ _ _ _ _ _ _ _ _))⟩, fun e2 => (by
              simp only [decide_eq_true_eq, decide_eq_false_iff_not] at *
              have LN : ltL (nowS (pkB a b (y 0 0)) l z y) l (i + 1) = ltL (nowS (pkB a b (y 0 0)) l z y) l i := by simp only [ltL]; repeat' split <;> first | rfl | omega
              refine ⟨⟨i + 1, by omega⟩, by simp only []; omega, ?_⟩
              apply sub_of <;> simp only [hw3, LN, go_sem, ↓reduceIte, Nat.reduceAdd, Nat.reduceSub, Nat.reduceMul, Nat.reduceEqDiff, Nat.reduceLT, Nat.reduceLeDiff, Int.reduceToNat, Int.reduceLE, Int.reduceLT, Int.reduceEq, Int.reduceNeg, reduceCtorEq] <;> (try simp) <;> (try exact fun j _ => Bd_nth (by simp [BdL, Bd]) j) <;> (try exact bd_setL (by simp [bdAs, BdL, Bd])) <;> (try exact nestF_bd _ _ _ _ _ _ _ _ _))⟩
          · simp only [decide_eq_false_iff_not] at e1
            obtain rfl : i = n := by omega
            have mm := ltL_mono (s := loS a l) (s' := nowS (pkB a b (y 0 0)) l z y) hd0 hup (fun j hj => (hnow (j + 1) (by omega)).1)
            rw [hlt] at mm
            exact spl_t (decide_eq_true (by omega)) trivial
      · have hB : belE n l a b = 0 := by rw [hbel, if_neg hma]
        have hS : belS n l a b = ltL (hiS b l) l n := by simp [belS, hB]
        have hP : belP n l a b = ltL (loS a l) l n := by simp [belP, hB]
        have hmm : decide (misS l n ≤ a) = false := decide_eq_false hma
        rcases (show (misS l n = 0) ∨ (0 < misS l n ∧ misS l n ≤ 1099511627776) ∨ (misS l n = 1099511627777) ∨ (1099511627777 < misS l n) by omega) with kk | kk | kk | kk
        · have k1 : decide (misS l n ≤ 1099511627776) = true := decide_eq_true (by omega)
          have k2 : decide (0 < misS l n) = false := decide_eq_false (by omega)
          have k4 := hself (by omega)
          simp only [hn1, hz1, hE, hR, hv, hm0, hw1, k1, k2, k4, hB, hS, hP, ha0, ha1, ha2, hmm, awake_eq, below__eq, enough_eq, budget_eq, pick_eq, p9_21, p9_26, Try.f9, go_sem, ↓reduceIte, Nat.reduceAdd, Nat.reduceSub, Nat.reduceMul, Nat.reduceEqDiff, Nat.reduceLT, Nat.reduceLeDiff, Int.reduceToNat, Int.reduceLE, Int.reduceLT, Int.reduceEq, Int.reduceNeg, reduceCtorEq]
          repeat refine ⟨(by omega : n ≤ 1000000), ?_⟩
          refine spl_f rfl ⟨⟨by kernel_rfl, by kernel_rfl⟩, by omega, ⟨pre 0 hzn, hab⟩, ?_⟩
          refine loop_of { i : Nat // i ≤ n } (fun i => [(20, .int .i64 (i.1 : Int)), (19, .int .i64 (ltL (nowS (pkB a b (y 0 0)) l z y) l i.1)), (18, .int .i64 (nowS (pkB a b (y 0 0)) l z y i.1)), (9, .int .i64 0), (8, .int .i64 (ltL (loS a l) l n)), (7, .int .i64 (ltL (hiS b l) l n)), (2, .row z 1 fun i j => .int .u32 (y i j)), (1, .row n 5 fun i j => .int .i64 (l i j))]) (fun _ => ⟨[.live 34 [.int .i64 a, .int .i64 b]], []⟩) (fun i => n - i.1) (fun _ => ⟨rfl, rfl⟩) ⟨0, by omega⟩ (by simp only [ltL, nowS]; (apply sub_of <;> simp only [go_sem, ↓reduceIte, Nat.reduceAdd, Nat.reduceSub, Nat.reduceMul, Nat.reduceEqDiff, Nat.reduceLT, Nat.reduceLeDiff, Int.reduceToNat, Int.reduceLE, Int.reduceLT, Int.reduceEq, Int.reduceNeg, reduceCtorEq] <;> (try simp [catF]) <;> (try exact fun j _ => Bd_nth (by simp [BdL, Bd]) j) <;> (try exact bd_setL (by simp [bdAs, BdL, Bd])) <;> (try exact nestF_bd _ _ _ _ _ _ _ _ _))) ?_
          rintro ⟨i, hi⟩
          simp only [awake_eq, below__eq, enough_eq, budget_eq, pick_eq, p9_21, p9_26, Try.f9, go_sem, ↓reduceIte, Nat.reduceAdd, Nat.reduceSub, Nat.reduceMul, Nat.reduceEqDiff, Nat.reduceLT, Nat.reduceLeDiff, Int.reduceToNat, Int.reduceLE, Int.reduceLT, Int.reduceEq, Int.reduceNeg, reduceCtorEq]
          have hw3 : IntKind.i64.wrap ((i : Int) + 1) = ((i + 1 : Nat) : Int) := by rw [wrap_id (by omega) (by omega)]; omega
          refine ⟨fun e1 => ?_, fun e1 => ?_⟩
          · have ik : i < n := by simp at e1; omega
            have hd := dyBl_iff.1 (hdy i ik)
            obtain ⟨n1, n2⟩ := hnow i hi
            have l1 := hLb i hi
            have l2 := hHb i hi
            rw [hw3, tmod_nat, tmod_nat]
            simp only [Int.toNat_natCast]
            have p1 := pkB_bd (lo := l i 1) (hi := l i 2) (b := y (i % z) 0) hd.2.1.2.1
            have p2 := pkB_bd (lo := l i 3) (hi := l i 4) (b := y ((i + 1) % z) 0) hd.2.2.2.1
            have w1 : IntKind.i64.wrap (nowS (pkB a b (y 0 0)) l z y i + pkB (l i 1) (l i 2) (y (i % z) 0)) = nowS (pkB a b (y 0 0)) l z y i + pkB (l i 1) (l i 2) (y (i % z) 0) := wrap_id (by omega) (by omega)
            have w2 : IntKind.i64.wrap (nowS (pkB a b (y 0 0)) l z y i + pkB (l i 1) (l i 2) (y (i % z) 0) - pkB (l i 3) (l i 4) (y ((i + 1) % z) 0)) = nowS (pkB a b (y 0 0)) l z y (i + 1) := by rw [wrap_id (by omega) (by omega)]; rfl
            simp only [w1, w2]
            have m1 := Nat.mod_lt i hzn
            have m2 := Nat.mod_lt (i + 1) hzn
            refine ⟨⟨by kernel_rfl, by kernel_rfl⟩, ⟨by omega, by omega⟩, by omega, ⟨by omega, by omega⟩, ⟨pre _ m1, by omega, by omega, by omega⟩, ⟨by omega, by omega⟩, by omega, ⟨by omega, by omega⟩, ⟨pre _ m2, by omega, by omega, by omega⟩, fun e2 => ⟨fun e3 => ⟨⟨by omega, by omega⟩, (by
              simp only [decide_eq_true_eq, decide_eq_false_iff_not] at *
              have LN : ltL (nowS (pkB a b (y 0 0)) l z y) l (i + 1) = l i 0 := by simp only [ltL]; repeat' split <;> first | rfl | omega
              refine ⟨⟨i + 1, by omega⟩, by simp only []; omega, ?_⟩
              apply sub_of <;> simp only [hw3, LN, go_sem, ↓reduceIte, Nat.reduceAdd, Nat.reduceSub, Nat.reduceMul, Nat.reduceEqDiff, Nat.reduceLT, Nat.reduceLeDiff, Int.reduceToNat, Int.reduceLE, Int.reduceLT, Int.reduceEq, Int.reduceNeg, reduceCtorEq] <;> (try simp) <;> (try exact fun j _ => Bd_nth (by simp [BdL, Bd]) j) <;> (try exact bd_setL (by simp [bdAs, BdL, Bd])) <;> (try exact nestF_bd _ _ _ _ _ _ _ _ _))⟩, fun e3 => (by
              simp only [decide_eq_true_eq, decide_eq_false_iff_not] at *
              have LN : ltL (nowS (pkB a b (y 0 0)) l z y) l (i + 1) = ltL (nowS (pkB a b (y 0 0)) l z y) l i := by simp only [ltL]; repeat' split <;> first | rfl | omega
              refine ⟨⟨i + 1, by omega⟩, by simp only []; omega, ?_⟩
              apply sub_of <;> simp only [hw3, LN, go_sem, ↓reduceIte, Nat.reduceAdd, Nat.reduceSub, Nat.reduceMul, Nat.reduceEqDiff, Nat.reduceLT, Nat.reduceLeDiff, Int.reduceToNat, Int.reduceLE, Int.reduceLT, Int.reduceEq, Int.reduceNeg, reduceCtorEq] <;> (try simp) <;> (try exact fun j _ => Bd_nth (by simp [BdL, Bd]) j) <;> (try exact bd_setL (by simp [bdAs, BdL, Bd])) <;> (try exact nestF_bd _ _ _ _ _ _ _ _ _))⟩, fun e2 => (by
              simp only [decide_eq_true_eq, decide_eq_false_iff_not] at *
              have LN : ltL (nowS (pkB a b (y 0 0)) l z y) l (i + 1) = ltL (nowS (pkB a b (y 0 0)) l z y) l i := by simp only [ltL]; repeat' split <;> first | rfl | omega
              refine ⟨⟨i + 1, by omega⟩, by simp only []; omega, ?_⟩
              apply sub_of <;> simp only [hw3, LN, go_sem, ↓reduceIte, Nat.reduceAdd, Nat.reduceSub, Nat.reduceMul, Nat.reduceEqDiff, Nat.reduceLT, Nat.reduceLeDiff, Int.reduceToNat, Int.reduceLE, Int.reduceLT, Int.reduceEq, Int.reduceNeg, reduceCtorEq] <;> (try simp) <;> (try exact fun j _ => Bd_nth (by simp [BdL, Bd]) j) <;> (try exact bd_setL (by simp [bdAs, BdL, Bd])) <;> (try exact nestF_bd _ _ _ _ _ _ _ _ _))⟩
          · simp only [decide_eq_false_iff_not] at e1
            obtain rfl : i = n := by omega
            have m1 := ltL_mono (s := loS a l) (s' := nowS (pkB a b (y 0 0)) l z y) hd0 hup (fun j hj => (hnow (j + 1) (by omega)).1)
            have m2 := ltL_mono (s := nowS (pkB a b (y 0 0)) l z y) (s' := hiS b l) hd0 hup (fun j hj => (hnow (j + 1) (by omega)).2)
            have m3 := ltL_mono (s := loS a l) (s' := hiS b l) hd0 hup (fun j hj => Int.le_trans (hnow (j + 1) (by omega)).1 (hnow (j + 1) (by omega)).2)
            generalize ltL (nowS (pkB a b (y 0 0)) l z y) l i = B at m1 m2 m3 ⊢
            generalize ltL (hiS b l) l i = S at m1 m2 m3 ⊢
            generalize ltL (loS a l) l i = P at m1 m2 m3 ⊢
            repeat' (first | exact trivial | (refine And.intro (fun _ => ?_) (fun _ => ?_)))
            all_goals (simp only [decide_eq_true_eq, decide_eq_false_iff_not] at *; omega)
        · have k1 : decide (misS l n ≤ 1099511627776) = true := decide_eq_true (by omega)
          have k2 : decide (0 < misS l n) = true := decide_eq_true (by omega)
          have k3 : decide (misS l n - 1 ≤ 1099511627776) = true := decide_eq_true (by omega)
          have k4 := hself (by omega)
          have k5 := hless (by omega) (by omega)
          simp only [hn1, hz1, hE, hR, hv, hm0, hw1, k1, k2, k3, k4, k5, hB, hS, hP, ha0, ha1, ha2, hmm, awake_eq, below__eq, enough_eq, budget_eq, pick_eq, p9_21, p9_26, Try.f9, go_sem, ↓reduceIte, Nat.reduceAdd, Nat.reduceSub, Nat.reduceMul, Nat.reduceEqDiff, Nat.reduceLT, Nat.reduceLeDiff, Int.reduceToNat, Int.reduceLE, Int.reduceLT, Int.reduceEq, Int.reduceNeg, reduceCtorEq]
          repeat refine ⟨(by omega : n ≤ 1000000), ?_⟩
          refine spl_f rfl ⟨⟨by kernel_rfl, by kernel_rfl⟩, by omega, ⟨pre 0 hzn, hab⟩, ?_⟩
          refine loop_of { i : Nat // i ≤ n } (fun i => [(20, .int .i64 (i.1 : Int)), (19, .int .i64 (ltL (nowS (pkB a b (y 0 0)) l z y) l i.1)), (18, .int .i64 (nowS (pkB a b (y 0 0)) l z y i.1)), (9, .int .i64 0), (8, .int .i64 (ltL (loS a l) l n)), (7, .int .i64 (ltL (hiS b l) l n)), (2, .row z 1 fun i j => .int .u32 (y i j)), (1, .row n 5 fun i j => .int .i64 (l i j))]) (fun _ => ⟨[.live 34 [.int .i64 a, .int .i64 b]], []⟩) (fun i => n - i.1) (fun _ => ⟨rfl, rfl⟩) ⟨0, by omega⟩ (by simp only [ltL, nowS]; (apply sub_of <;> simp only [go_sem, ↓reduceIte, Nat.reduceAdd, Nat.reduceSub, Nat.reduceMul, Nat.reduceEqDiff, Nat.reduceLT, Nat.reduceLeDiff, Int.reduceToNat, Int.reduceLE, Int.reduceLT, Int.reduceEq, Int.reduceNeg, reduceCtorEq] <;> (try simp [catF]) <;> (try exact fun j _ => Bd_nth (by simp [BdL, Bd]) j) <;> (try exact bd_setL (by simp [bdAs, BdL, Bd])) <;> (try exact nestF_bd _ _ _ _ _ _ _ _ _))) ?_
          rintro ⟨i, hi⟩
          simp only [awake_eq, below__eq, enough_eq, budget_eq, pick_eq, p9_21, p9_26, Try.f9, go_sem, ↓reduceIte, Nat.reduceAdd, Nat.reduceSub, Nat.reduceMul, Nat.reduceEqDiff, Nat.reduceLT, Nat.reduceLeDiff, Int.reduceToNat, Int.reduceLE, Int.reduceLT, Int.reduceEq, Int.reduceNeg, reduceCtorEq]
          have hw3 : IntKind.i64.wrap ((i : Int) + 1) = ((i + 1 : Nat) : Int) := by rw [wrap_id (by omega) (by omega)]; omega
          refine ⟨fun e1 => ?_, fun e1 => ?_⟩
          · have ik : i < n := by simp at e1; omega
            have hd := dyBl_iff.1 (hdy i ik)
            obtain ⟨n1, n2⟩ := hnow i hi
            have l1 := hLb i hi
            have l2 := hHb i hi
            rw [hw3, tmod_nat, tmod_nat]
            simp only [Int.toNat_natCast]
            have p1 := pkB_bd (lo := l i 1) (hi := l i 2) (b := y (i % z) 0) hd.2.1.2.1
            have p2 := pkB_bd (lo := l i 3) (hi := l i 4) (b := y ((i + 1) % z) 0) hd.2.2.2.1
            have w1 : IntKind.i64.wrap (nowS (pkB a b (y 0 0)) l z y i + pkB (l i 1) (l i 2) (y (i % z) 0)) = nowS (pkB a b (y 0 0)) l z y i + pkB (l i 1) (l i 2) (y (i % z) 0) := wrap_id (by omega) (by omega)
            have w2 : IntKind.i64.wrap (nowS (pkB a b (y 0 0)) l z y i + pkB (l i 1) (l i 2) (y (i % z) 0) - pkB (l i 3) (l i 4) (y ((i + 1) % z) 0)) = nowS (pkB a b (y 0 0)) l z y (i + 1) := by rw [wrap_id (by omega) (by omega)]; rfl
            simp only [w1, w2]
            have m1 := Nat.mod_lt i hzn
            have m2 := Nat.mod_lt (i + 1) hzn
            refine ⟨⟨by kernel_rfl, by kernel_rfl⟩, ⟨by omega, by omega⟩, by omega, ⟨by omega, by omega⟩, ⟨pre _ m1, by omega, by omega, by omega⟩, ⟨by omega, by omega⟩, by omega, ⟨by omega, by omega⟩, ⟨pre _ m2, by omega, by omega, by omega⟩, fun e2 => ⟨fun e3 => ⟨⟨by omega, by omega⟩, (by
              simp only [decide_eq_true_eq, decide_eq_false_iff_not] at *
              have LN : ltL (nowS (pkB a b (y 0 0)) l z y) l (i + 1) = l i 0 := by simp only [ltL]; repeat' split <;> first | rfl | omega
              refine ⟨⟨i + 1, by omega⟩, by simp only []; omega, ?_⟩
              apply sub_of <;> simp only [hw3, LN, go_sem, ↓reduceIte, Nat.reduceAdd, Nat.reduceSub, Nat.reduceMul, Nat.reduceEqDiff, Nat.reduceLT, Nat.reduceLeDiff, Int.reduceToNat, Int.reduceLE, Int.reduceLT, Int.reduceEq, Int.reduceNeg, reduceCtorEq] <;> (try simp) <;> (try exact fun j _ => Bd_nth (by simp [BdL, Bd]) j) <;> (try exact bd_setL (by simp [bdAs, BdL, Bd])) <;> (try exact nestF_bd _ _ _ _ _ _ _ _ _))⟩, fun e3 => (by
              simp only [decide_eq_true_eq, decide_eq_false_iff_not] at *
              have LN : ltL (nowS (pkB a b (y 0 0)) l z y) l (i + 1) = ltL (nowS (pkB a b (y 0 0)) l z y) l i := by simp only [ltL]; repeat' split <;> first | rfl | omega
              refine ⟨⟨i + 1, by omega⟩, by simp only []; omega, ?_⟩
              apply sub_of <;> simp only [hw3, LN, go_sem, ↓reduceIte, Nat.reduceAdd, Nat.reduceSub, Nat.reduceMul, Nat.reduceEqDiff, Nat.reduceLT, Nat.reduceLeDiff, Int.reduceToNat, Int.reduceLE, Int.reduceLT, Int.reduceEq, Int.reduceNeg, reduceCtorEq] <;> (try simp) <;> (try exact fun j _ => Bd_nth (by simp [BdL, Bd]) j) <;> (try exact bd_setL (by simp [bdAs, BdL, Bd])) <;> (try exact nestF_bd _ _ _ _ _ _ _ _ _))⟩, fun e2 => (by
              simp only [decide_eq_true_eq, decide_eq_false_iff_not] at *
              have LN : ltL (nowS (pkB a b (y 0 0)) l z y) l (i + 1) = ltL (nowS (pkB a b (y 0 0)) l z y) l i := by simp only [ltL]; repeat' split <;> first | rfl | omega
              refine ⟨⟨i + 1, by omega⟩, by simp only []; omega, ?_⟩
              apply sub_of <;> simp only [hw3, LN, go_sem, ↓reduceIte, Nat.reduceAdd, Nat.reduceSub, Nat.reduceMul, Nat.reduceEqDiff, Nat.reduceLT, Nat.reduceLeDiff, Int.reduceToNat, Int.reduceLE, Int.reduceLT, Int.reduceEq, Int.reduceNeg, reduceCtorEq] <;> (try simp) <;> (try exact fun j _ => Bd_nth (by simp [BdL, Bd]) j) <;> (try exact bd_setL (by simp [bdAs, BdL, Bd])) <;> (try exact nestF_bd _ _ _ _ _ _ _ _ _))⟩
          · simp only [decide_eq_false_iff_not] at e1
            obtain rfl : i = n := by omega
            have m1 := ltL_mono (s := loS a l) (s' := nowS (pkB a b (y 0 0)) l z y) hd0 hup (fun j hj => (hnow (j + 1) (by omega)).1)
            have m2 := ltL_mono (s := nowS (pkB a b (y 0 0)) l z y) (s' := hiS b l) hd0 hup (fun j hj => (hnow (j + 1) (by omega)).2)
            have m3 := ltL_mono (s := loS a l) (s' := hiS b l) hd0 hup (fun j hj => Int.le_trans (hnow (j + 1) (by omega)).1 (hnow (j + 1) (by omega)).2)
            generalize ltL (nowS (pkB a b (y 0 0)) l z y) l i = B at m1 m2 m3 ⊢
            generalize ltL (hiS b l) l i = S at m1 m2 m3 ⊢
            generalize ltL (loS a l) l i = P at m1 m2 m3 ⊢
            repeat' (first | exact trivial | (refine And.intro (fun _ => ?_) (fun _ => ?_)))
            all_goals (simp only [decide_eq_true_eq, decide_eq_false_iff_not] at *; omega)
        · have k1 : decide (misS l n ≤ 1099511627776) = false := decide_eq_false (by omega)
          have k2 : decide (0 < misS l n) = true := decide_eq_true (by omega)
          have k3 : decide (misS l n - 1 ≤ 1099511627776) = true := decide_eq_true (by omega)
          have k5 := hless (by omega) (by omega)
          simp only [hn1, hz1, hE, hR, hv, hm0, hw1, k1, k2, k3, k5, hB, hS, hP, ha0, ha1, ha2, hmm, awake_eq, below__eq, enough_eq, budget_eq, pick_eq, p9_21, p9_26, Try.f9, go_sem, ↓reduceIte, Nat.reduceAdd, Nat.reduceSub, Nat.reduceMul, Nat.reduceEqDiff, Nat.reduceLT, Nat.reduceLeDiff, Int.reduceToNat, Int.reduceLE, Int.reduceLT, Int.reduceEq, Int.reduceNeg, reduceCtorEq]
          repeat refine ⟨(by omega : n ≤ 1000000), ?_⟩
          refine spl_f rfl ⟨⟨by kernel_rfl, by kernel_rfl⟩, by omega, ⟨pre 0 hzn, hab⟩, ?_⟩
          refine loop_of { i : Nat // i ≤ n } (fun i => [(20, .int .i64 (i.1 : Int)), (19, .int .i64 (ltL (nowS (pkB a b (y 0 0)) l z y) l i.1)), (18, .int .i64 (nowS (pkB a b (y 0 0)) l z y i.1)), (9, .int .i64 0), (8, .int .i64 (ltL (loS a l) l n)), (7, .int .i64 (ltL (hiS b l) l n)), (2, .row z 1 fun i j => .int .u32 (y i j)), (1, .row n 5 fun i j => .int .i64 (l i j))]) (fun _ => ⟨[.live 34 [.int .i64 a, .int .i64 b]], []⟩) (fun i => n - i.1) (fun _ => ⟨rfl, rfl⟩) ⟨0, by omega⟩ (by simp only [ltL, nowS]; (apply sub_of <;> simp only [go_sem, ↓reduceIte, Nat.reduceAdd, Nat.reduceSub, Nat.reduceMul, Nat.reduceEqDiff, Nat.reduceLT, Nat.reduceLeDiff, Int.reduceToNat, Int.reduceLE, Int.reduceLT, Int.reduceEq, Int.reduceNeg, reduceCtorEq] <;> (try simp [catF]) <;> (try exact fun j _ => Bd_nth (by simp [BdL, Bd]) j) <;> (try exact bd_setL (by simp [bdAs, BdL, Bd])) <;> (try exact nestF_bd _ _ _ _ _ _ _ _ _))) ?_
          rintro ⟨i, hi⟩
          simp only [awake_eq, below__eq, enough_eq, budget_eq, pick_eq, p9_21, p9_26, Try.f9, go_sem, ↓reduceIte, Nat.reduceAdd, Nat.reduceSub, Nat.reduceMul, Nat.reduceEqDiff, Nat.reduceLT, Nat.reduceLeDiff, Int.reduceToNat, Int.reduceLE, Int.reduceLT, Int.reduceEq, Int.reduceNeg, reduceCtorEq]
          have hw3 : IntKind.i64.wrap ((i : Int) + 1) = ((i + 1 : Nat) : Int) := by rw [wrap_id (by omega) (by omega)]; omega
          refine ⟨fun e1 => ?_, fun e1 => ?_⟩
          · have ik : i < n := by simp at e1; omega
            have hd := dyBl_iff.1 (hdy i ik)
            obtain ⟨n1, n2⟩ := hnow i hi
            have l1 := hLb i hi
            have l2 := hHb i hi
            rw [hw3, tmod_nat, tmod_nat]
            simp only [Int.toNat_natCast]
            have p1 := pkB_bd (lo := l i 1) (hi := l i 2) (b := y (i % z) 0) hd.2.1.2.1
            have p2 := pkB_bd (lo := l i 3) (hi := l i 4) (b := y ((i + 1) % z) 0) hd.2.2.2.1
            have w1 : IntKind.i64.wrap (nowS (pkB a b (y 0 0)) l z y i + pkB (l i 1) (l i 2) (y (i % z) 0)) = nowS (pkB a b (y 0 0)) l z y i + pkB (l i 1) (l i 2) (y (i % z) 0) := wrap_id (by omega) (by omega)
            have w2 : IntKind.i64.wrap (nowS (pkB a b (y 0 0)) l z y i + pkB (l i 1) (l i 2) (y (i % z) 0) - pkB (l i 3) (l i 4) (y ((i + 1) % z) 0)) = nowS (pkB a b (y 0 0)) l z y (i + 1) := by rw [wrap_id (by omega) (by omega)]; rfl
            simp only [w1, w2]
            have m1 := Nat.mod_lt i hzn
            have m2 := Nat.mod_lt (i + 1) hzn
            refine ⟨⟨by kernel_rfl, by kernel_rfl⟩, ⟨by omega, by omega⟩, by omega, ⟨by omega, by omega⟩, ⟨pre _ m1, by omega, by omega, by omega⟩, ⟨by omega, by omega⟩, by omega, ⟨by omega, by omega⟩, ⟨pre _ m2, by omega, by omega, by omega⟩, fun e2 => ⟨fun e3 => ⟨⟨by omega, by omega⟩, (by
              simp only [decide_eq_true_eq, decide_eq_false_iff_not] at *
              have LN : ltL (nowS (pkB a b (y 0 0)) l z y) l (i + 1) = l i 0 := by simp only [ltL]; repeat' split <;> first | rfl | omega
              refine ⟨⟨i + 1, by omega⟩, by simp only []; omega, ?_⟩
              apply sub_of <;> simp only [hw3, LN, go_sem, ↓reduceIte, Nat.reduceAdd, Nat.reduceSub, Nat.reduceMul, Nat.reduceEqDiff, Nat.reduceLT, Nat.reduceLeDiff, Int.reduceToNat, Int.reduceLE, Int.reduceLT, Int.reduceEq, Int.reduceNeg, reduceCtorEq] <;> (try simp) <;> (try exact fun j _ => Bd_nth (by simp [BdL, Bd]) j) <;> (try exact bd_setL (by simp [bdAs, BdL, Bd])) <;> (try exact nestF_bd _ _ _ _ _ _ _ _ _))⟩, fun e3 => (by
              simp only [decide_eq_true_eq, decide_eq_false_iff_not] at *
              have LN : ltL (nowS (pkB a b (y 0 0)) l z y) l (i + 1) = ltL (nowS (pkB a b (y 0 0)) l z y) l i := by simp only [ltL]; repeat' split <;> first | rfl | omega
              refine ⟨⟨i + 1, by omega⟩, by simp only []; omega, ?_⟩
              apply sub_of <;> simp only [hw3, LN, go_sem, ↓reduceIte, Nat.reduceAdd, Nat.reduceSub, Nat.reduceMul, Nat.reduceEqDiff, Nat.reduceLT, Nat.reduceLeDiff, Int.reduceToNat, Int.reduceLE, Int.reduceLT, Int.reduceEq, Int.reduceNeg, reduceCtorEq] <;> (try simp) <;> (try exact fun j _ => Bd_nth (by simp [BdL, Bd]) j) <;> (try exact bd_setL (by simp [bdAs, BdL, Bd])) <;> (try exact nestF_bd _ _ _ _ _ _ _ _ _))⟩, fun e2 => (by
              simp only [decide_eq_true_eq, decide_eq_false_iff_not] at *
              have LN : ltL (nowS (pkB a b (y 0 0)) l z y) l (i + 1) = ltL (nowS (pkB a b (y 0 0)) l z y) l i := by simp only [ltL]; repeat' split <;> first | rfl | omega
              refine ⟨⟨i + 1, by omega⟩, by simp only []; omega, ?_⟩
              apply sub_of <;> simp only [hw3, LN, go_sem, ↓reduceIte, Nat.reduceAdd, Nat.reduceSub, Nat.reduceMul, Nat.reduceEqDiff, Nat.reduceLT, Nat.reduceLeDiff, Int.reduceToNat, Int.reduceLE, Int.reduceLT, Int.reduceEq, Int.reduceNeg, reduceCtorEq] <;> (try simp) <;> (try exact fun j _ => Bd_nth (by simp [BdL, Bd]) j) <;> (try exact bd_setL (by simp [bdAs, BdL, Bd])) <;> (try exact nestF_bd _ _ _ _ _ _ _ _ _))⟩
          · simp only [decide_eq_false_iff_not] at e1
            obtain rfl : i = n := by omega
            have m1 := ltL_mono (s := loS a l) (s' := nowS (pkB a b (y 0 0)) l z y) hd0 hup (fun j hj => (hnow (j + 1) (by omega)).1)
            have m2 := ltL_mono (s := nowS (pkB a b (y 0 0)) l z y) (s' := hiS b l) hd0 hup (fun j hj => (hnow (j + 1) (by omega)).2)
            have m3 := ltL_mono (s := loS a l) (s' := hiS b l) hd0 hup (fun j hj => Int.le_trans (hnow (j + 1) (by omega)).1 (hnow (j + 1) (by omega)).2)
            generalize ltL (nowS (pkB a b (y 0 0)) l z y) l i = B at m1 m2 m3 ⊢
            generalize ltL (hiS b l) l i = S at m1 m2 m3 ⊢
            generalize ltL (loS a l) l i = P at m1 m2 m3 ⊢
            repeat' (first | exact trivial | (refine And.intro (fun _ => ?_) (fun _ => ?_)))
            all_goals (simp only [decide_eq_true_eq, decide_eq_false_iff_not] at *; omega)
        · have k1 : decide (misS l n ≤ 1099511627776) = false := decide_eq_false (by omega)
          have k2 : decide (0 < misS l n) = true := decide_eq_true (by omega)
          have k3 : decide (misS l n - 1 ≤ 1099511627776) = false := decide_eq_false (by omega)
          simp only [hn1, hz1, hE, hR, hv, hm0, hw1, k1, k2, k3, hB, hS, hP, ha0, ha1, ha2, hmm, awake_eq, below__eq, enough_eq, budget_eq, pick_eq, p9_21, p9_26, Try.f9, go_sem, ↓reduceIte, Nat.reduceAdd, Nat.reduceSub, Nat.reduceMul, Nat.reduceEqDiff, Nat.reduceLT, Nat.reduceLeDiff, Int.reduceToNat, Int.reduceLE, Int.reduceLT, Int.reduceEq, Int.reduceNeg, reduceCtorEq]
          repeat refine ⟨(by omega : n ≤ 1000000), ?_⟩
          refine spl_f rfl ⟨⟨by kernel_rfl, by kernel_rfl⟩, by omega, ⟨pre 0 hzn, hab⟩, ?_⟩
          refine loop_of { i : Nat // i ≤ n } (fun i => [(20, .int .i64 (i.1 : Int)), (19, .int .i64 (ltL (nowS (pkB a b (y 0 0)) l z y) l i.1)), (18, .int .i64 (nowS (pkB a b (y 0 0)) l z y i.1)), (9, .int .i64 0), (8, .int .i64 (ltL (loS a l) l n)), (7, .int .i64 (ltL (hiS b l) l n)), (2, .row z 1 fun i j => .int .u32 (y i j)), (1, .row n 5 fun i j => .int .i64 (l i j))]) (fun _ => ⟨[.live 34 [.int .i64 a, .int .i64 b]], []⟩) (fun i => n - i.1) (fun _ => ⟨rfl, rfl⟩) ⟨0, by omega⟩ (by simp only [ltL, nowS]; (apply sub_of <;> simp only [go_sem, ↓reduceIte, Nat.reduceAdd, Nat.reduceSub, Nat.reduceMul, Nat.reduceEqDiff, Nat.reduceLT, Nat.reduceLeDiff, Int.reduceToNat, Int.reduceLE, Int.reduceLT, Int.reduceEq, Int.reduceNeg, reduceCtorEq] <;> (try simp [catF]) <;> (try exact fun j _ => Bd_nth (by simp [BdL, Bd]) j) <;> (try exact bd_setL (by simp [bdAs, BdL, Bd])) <;> (try exact nestF_bd _ _ _ _ _ _ _ _ _))) ?_
          rintro ⟨i, hi⟩
          simp only [awake_eq, below__eq, enough_eq, budget_eq, pick_eq, p9_21, p9_26, Try.f9, go_sem, ↓reduceIte, Nat.reduceAdd, Nat.reduceSub, Nat.reduceMul, Nat.reduceEqDiff, Nat.reduceLT, Nat.reduceLeDiff, Int.reduceToNat, Int.reduceLE, Int.reduceLT, Int.reduceEq, Int.reduceNeg, reduceCtorEq]
          have hw3 : IntKind.i64.wrap ((i : Int) + 1) = ((i + 1 : Nat) : Int) := by rw [wrap_id (by omega) (by omega)]; omega
          refine ⟨fun e1 => ?_, fun e1 => ?_⟩
          · have ik : i < n := by simp at e1; omega
            have hd := dyBl_iff.1 (hdy i ik)
            obtain ⟨n1, n2⟩ := hnow i hi
            have l1 := hLb i hi
            have l2 := hHb i hi
            rw [hw3, tmod_nat, tmod_nat]
            simp only [Int.toNat_natCast]
            have p1 := pkB_bd (lo := l i 1) (hi := l i 2) (b := y (i % z) 0) hd.2.1.2.1
            have p2 := pkB_bd (lo := l i 3) (hi := l i 4) (b := y ((i + 1) % z) 0) hd.2.2.2.1
            have w1 : IntKind.i64.wrap (nowS (pkB a b (y 0 0)) l z y i + pkB (l i 1) (l i 2) (y (i % z) 0)) = nowS (pkB a b (y 0 0)) l z y i + pkB (l i 1) (l i 2) (y (i % z) 0) := wrap_id (by omega) (by omega)
            have w2 : IntKind.i64.wrap (nowS (pkB a b (y 0 0)) l z y i + pkB (l i 1) (l i 2) (y (i % z) 0) - pkB (l i 3) (l i 4) (y ((i + 1) % z) 0)) = nowS (pkB a b (y 0 0)) l z y (i + 1) := by rw [wrap_id (by omega) (by omega)]; rfl
            simp only [w1, w2]
            have m1 := Nat.mod_lt i hzn
            have m2 := Nat.mod_lt (i + 1) hzn
            refine ⟨⟨by kernel_rfl, by kernel_rfl⟩, ⟨by omega, by omega⟩, by omega, ⟨by omega, by omega⟩, ⟨pre _ m1, by omega, by omega, by omega⟩, ⟨by omega, by omega⟩, by omega, ⟨by omega, by omega⟩, ⟨pre _ m2, by omega, by omega, by omega⟩, fun e2 => ⟨fun e3 => ⟨⟨by omega, by omega⟩, (by
              simp only [decide_eq_true_eq, decide_eq_false_iff_not] at *
              have LN : ltL (nowS (pkB a b (y 0 0)) l z y) l (i + 1) = l i 0 := by simp only [ltL]; repeat' split <;> first | rfl | omega
              refine ⟨⟨i + 1, by omega⟩, by simp only []; omega, ?_⟩
              apply sub_of <;> simp only [hw3, LN, go_sem, ↓reduceIte, Nat.reduceAdd, Nat.reduceSub, Nat.reduceMul, Nat.reduceEqDiff, Nat.reduceLT, Nat.reduceLeDiff, Int.reduceToNat, Int.reduceLE, Int.reduceLT, Int.reduceEq, Int.reduceNeg, reduceCtorEq] <;> (try simp) <;> (try exact fun j _ => Bd_nth (by simp [BdL, Bd]) j) <;> (try exact bd_setL (by simp [bdAs, BdL, Bd])) <;> (try exact nestF_bd _ _ _ _ _ _ _ _ _))⟩, fun e3 => (by
              simp only [decide_eq_true_eq, decide_eq_false_iff_not] at *
              have LN : ltL (nowS (pkB a b (y 0 0)) l z y) l (i + 1) = ltL (nowS (pkB a b (y 0 0)) l z y) l i := by simp only [ltL]; repeat' split <;> first | rfl | omega
              refine ⟨⟨i + 1, by omega⟩, by simp only []; omega, ?_⟩
              apply sub_of <;> simp only [hw3, LN, go_sem, ↓reduceIte, Nat.reduceAdd, Nat.reduceSub, Nat.reduceMul, Nat.reduceEqDiff, Nat.reduceLT, Nat.reduceLeDiff, Int.reduceToNat, Int.reduceLE, Int.reduceLT, Int.reduceEq, Int.reduceNeg, reduceCtorEq] <;> (try simp) <;> (try exact fun j _ => Bd_nth (by simp [BdL, Bd]) j) <;> (try exact bd_setL (by simp [bdAs, BdL, Bd])) <;> (try exact nestF_bd _ _ _ _ _ _ _ _ _))⟩, fun e2 => (by
              simp only [decide_eq_true_eq, decide_eq_false_iff_not] at *
              have LN : ltL (nowS (pkB a b (y 0 0)) l z y) l (i + 1) = ltL (nowS (pkB a b (y 0 0)) l z y) l i := by simp only [ltL]; repeat' split <;> first | rfl | omega
              refine ⟨⟨i + 1, by omega⟩, by simp only []; omega, ?_⟩
              apply sub_of <;> simp only [hw3, LN, go_sem, ↓reduceIte, Nat.reduceAdd, Nat.reduceSub, Nat.reduceMul, Nat.reduceEqDiff, Nat.reduceLT, Nat.reduceLeDiff, Int.reduceToNat, Int.reduceLE, Int.reduceLT, Int.reduceEq, Int.reduceNeg, reduceCtorEq] <;> (try simp) <;> (try exact fun j _ => Bd_nth (by simp [BdL, Bd]) j) <;> (try exact bd_setL (by simp [bdAs, BdL, Bd])) <;> (try exact nestF_bd _ _ _ _ _ _ _ _ _))⟩
          · simp only [decide_eq_false_iff_not] at e1
            obtain rfl : i = n := by omega
            have m1 := ltL_mono (s := loS a l) (s' := nowS (pkB a b (y 0 0)) l z y) hd0 hup (fun j hj => (hnow (j + 1) (by omega)).1)
            have m2 := ltL_mono (s := nowS (pkB a b (y 0 0)) l z y) (s' := hiS b l) hd0 hup (fun j hj => (hnow (j + 1) (by omega)).2)
            have m3 := ltL_mono (s := loS a l) (s' := hiS b l) hd0 hup (fun j hj => Int.le_trans (hnow (j + 1) (by omega)).1 (hnow (j + 1) (by omega)).2)
            generalize ltL (nowS (pkB a b (y 0 0)) l z y) l i = B at m1 m2 m3 ⊢
            generalize ltL (hiS b l) l i = S at m1 m2 m3 ⊢
            generalize ltL (loS a l) l i = P at m1 m2 m3 ⊢
            repeat' (first | exact trivial | (refine And.intro (fun _ => ?_) (fun _ => ?_)))
            all_goals (simp only [decide_eq_true_eq, decide_eq_false_iff_not] at *; omega)
end Go.Eng
end

/-
  MoneyTrue: for every input the law returns true, and each argument reads afterwards as it read before. No condition.
-/
section
namespace Go.Proofs.Ytiimhkdjechkpaa.moneyTrue
open Go.ChangeShapes Go.WideShapes Go.ChangeAt Go.RowKit Go.Eng
set_option linter.unusedVariables false
theorem own : ownKnob Try.prog.godebug = none := by kernel_rfl
theorem laid : laidOutB Try.prog = true := by kernel_rfl
set_option maxRecDepth 100000 in
theorem lifted (os : Os) (started : os.Started) (H : Type) (enc : TypeId × Value → H) :
    ReturnsInHanded {} Try.checked os 9 .any (Rows.moneyTrueSpec.pre6 enc Try.prog Try.f9 Rows.moneyTrueRow.domain false) (Rows.moneyTrueSpec.post enc Try.prog Try.f9 false true false false) := by
  refine returnsInHanded_of_change (C := Try.checked) own started (by kernel_rfl) Try.func9
    (ChangeSpec.witness6 (enc := enc) (C := Try.checked) false ⟨#[], #[.agg #[.int .i64 0, .int .i64 0], .slice none 0 0, .slice none 0 0], []⟩ 8 (by kernel_rfl) (by kernel_rfl) (by kernel_rfl) (by kernel_rfl)) ?_
  intro W base args ds gs before hval0 hW hcnd _
  have hval : ∀ (j : Nat) t v, Try.f9.params[j]? = some t → args[j]? = some v → Value.okWide Try.prog W .any base t v := hval0
  have hW' := hW
  obtain ⟨p, q, hA0, hV, rfl, hfz, hnd⟩ := hW
  have hA : DataW.TrodAll enc Try.prog W 0 (fun _ => true) true Try.f9.params.toList args.toList ds p := hA0
  rw [Try.params9] at hA hval
  obtain ⟨v0, vs0, d0, ds0, p0, q0, hargs, rfl, rfl, h0, r0⟩ := trodAll_cons hA
  obtain ⟨v1, vs1, d1, ds1, p1, q1, rfl, rfl, rfl, h1, r1⟩ := trodAll_cons r0
  obtain ⟨v2, vs2, d2, ds2, p2, q2, rfl, rfl, rfl, h2, r2⟩ := trodAll_cons r1
  obtain ⟨rfl, rfl, rfl⟩ := trodAll_nil r2
  obtain rfl : args = #[v0, v1, v2] := by cases args; simp_all
  obtain ⟨rfl, rfl⟩ := trodVars_none hV
  obtain ⟨xs0, e0, l0, t0⟩ := arg_agg (shs := [.int .i64, .int .i64]) Try.underlying34 (by kernel_rfl) (hval 0 34 v0 rfl rfl) h0
  obtain ⟨a0_0, a0_1, rfl⟩ : ∃ a0_0 a0_1, xs0 = [a0_0, a0_1] := by
    match xs0, l0 with
    | [a0_0, a0_1], _ => exact ⟨a0_0, a0_1, rfl⟩
  obtain ⟨x0_0, rfl, w0_0⟩ := typ_int (t0 0 _ _ rfl rfl)
  obtain ⟨x0_1, rfl, w0_1⟩ := typ_int (t0 1 _ _ rfl rfl)
  obtain ⟨n1, f1, e1, m1, t1⟩ := arg_row (s := [.int .i64, .int .i64, .int .i64, .int .i64, .int .i64]) Try.underlying35 (by kernel_rfl) (hval 1 35 v1 rfl rfl) h1
  obtain ⟨i1, b1⟩ := intK_of_typ (k := .i64) (c := 5) rfl t1
  obtain ⟨n2, f2, e2, m2, t2⟩ := arg_row (s := [.int .u32]) Try.underlying58 (by kernel_rfl) (hval 2 58 v2 rfl rfl) h2
  obtain ⟨i2, b2⟩ := intK_of_typ (k := .u32) (c := 1) rfl t2
  have hd : DenL Env.emp W [.agg [.int .i64 x0_0, .int .i64 x0_1], .row n1 5 f1, .row n2 1 f2] [v0, v1, v2] := ⟨e0, e1, e2, trivial⟩
  refine (law_calls moneyTrue_base (args := [.agg [.int .i64 x0_0, .int .i64 x0_1], .row n1 5 f1, .row n2 1 f2]) rfl ⟨⟨rfl, fun i j hi hj => i1 i j hi hj⟩, ⟨rfl, fun i j hi hj => i2 i j hi hj⟩, fun i hi => b2 i 0 hi (by omega)⟩ (denA_of hd)).mono fun e W' ⟨he, hb⟩ => ?_
  subst he
  exact ⟨_, rfl, law_end laid rfl Try.underlying4 (by kernel_rfl) rfl hW' rfl hb⟩
theorem over : Rows.moneyTrueRow.holds Try.pinned (OpenSpec.ofChange Rows.moneyTrueSpec) :=
  OpenClaim.holds_of_wide 9 Try.f9 rfl rfl rfl rfl rfl rfl rfl ⟨rfl, rfl, rfl, rfl, rfl⟩ rfl rfl rfl rfl rfl (by kernel_rfl) Try.func9 (by kernel_rfl)
    (of_decide_eq_true (by kernel_rfl)) (by unfold Func.isWrapper; first | (rw [if_pos (by decide +kernel)]; kernel_rfl) | (rw [if_neg (by decide +kernel)]; exact ⟨rfl, rfl⟩))
    (fun os started H enc _ => lifted os started H enc)
end Go.Proofs.Ytiimhkdjechkpaa.moneyTrue
namespace Go.Proofs.Ytiimhkdjechkpaa
/-- The given statement. -/
theorem moneyTrue_holds : Rows.MoneyTrueSaid := moneyTrue.over
#print axioms moneyTrue_holds
end Go.Proofs.Ytiimhkdjechkpaa
end
