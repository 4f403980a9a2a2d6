/-
  MoneyAccounts: for every input the law returns true, and each argument reads afterwards as it read before. No condition.
-/
import Derived.Test.YtiimhkdjechkpaaRows
import Derived.WalkKit
import Derived.Test.YtiimhkdjechkpaaM3
set_option linter.unusedSimpArgs false
set_option linter.unusedVariables false
/- money: accounts keep their sum. -/
section
namespace Go.Eng
open Go Go.RowKit Go.Proofs
set_option maxRecDepth 100000
set_option maxHeartbeats 4000000
attribute [local irreducible] OwnT DefS
theorem entE_B {n : Nat} {lim l : Nat → Nat → Int} {q : Nat} (h : entE n lim l q = 0) : enB n (l q) = true ∧ -(lim (l q 1).toNat 0) ≤ balF l q (l q 1).toNat - l q 3 := by
  unfold entE at h
  split at h
  · rename_i h1
    split at h
    · split at h
      · rename_i h2; exact ⟨h1, h2⟩
      · cases h
    · cases h
  · cases h
/-- One account is as much poorer as another one is richer. -/
theorem sum_one (X : Int) (b : Nat) : ∀ n, sumK (fun a => if (b : Int) = (a : Int) then X else 0) n = if b < n then X else 0
  | 0 => by simp [sumK]
  | n + 1 => by
    simp only [sumK, sum_one X b n]
    by_cases h1 : b < n
    · rw [if_pos h1, if_neg (by omega), if_pos (by omega)]; omega
    · by_cases h2 : b = n
      · subst h2; rw [if_neg (by omega), if_pos rfl, if_pos (by omega)]; omega
      · rw [if_neg h1, if_neg (by omega), if_neg (by omega)]; omega
theorem sumK_lin {f g h : Nat → Int} : ∀ n, sumK (fun a => f a - g a + h a) n = sumK f n - sumK g n + sumK h n
  | 0 => by simp [sumK]
  | n + 1 => by simp only [sumK, sumK_lin n]; omega
theorem bal_sum {n : Nat} {lim l : Nat → Nat → Int} : ∀ q, (∀ i, i < q → entE n lim l i = 0) → sumK (balF l q) n = 0
  | 0, _ => by
    have : ∀ n, sumK (balF l 0) n = 0 := fun n => by
      induction n with
      | zero => rfl
      | succ n ih => rw [sumK, ih]; rfl
    exact this n
  | q + 1, h => by
    have ih := bal_sum q (fun i hi => h i (by omega))
    obtain ⟨_, h1, h2, _, _⟩ := enB_iff.1 (entE_B (h q (by omega))).1
    have e1 : l q 1 = ((l q 1).toNat : Int) := by omega
    have e2 : l q 2 = ((l q 2).toNat : Int) := by omega
    have : balF l (q + 1) = fun a => balF l q a - (if ((l q 1).toNat : Int) = (a : Int) then l q 3 else 0) + (if ((l q 2).toNat : Int) = (a : Int) then l q 3 else 0) := by
      funext a; simp only [balF]; rw [← e1, ← e2]
    rw [this, sumK_lin, sum_one, sum_one, ih, if_pos (by omega), if_pos (by omega)]
    omega
theorem bal_low {n : Nat} {lim l : Nat → Nat → Int} (hl : ∀ i, i < n → 0 ≤ lim i 0) : ∀ q, (∀ i, i < q → entE n lim l i = 0) → ∀ a, a < n → -(lim a 0) ≤ balF l q a
  | 0, _, a, ha => by simp only [balF]; have := hl a ha; omega
  | q + 1, h, a, ha => by
    have ih := bal_low hl q (fun i hi => h i (by omega)) a ha
    obtain ⟨h0, h0'⟩ := entE_B (h q (by omega))
    obtain ⟨_, h1, h2, h3, h4⟩ := enB_iff.1 h0
    simp only [balF]
    by_cases e : l q 1 = (a : Int)
    · rw [if_pos e]
      have : (l q 1).toNat = a := by omega
      rw [this] at h0'
      split <;> omega
    · rw [if_neg e]
      split <;> omega
/-- With higher limits what is accepted stays so. -/
theorem entE_high {n : Nat} {lim hi l : Nat → Nat → Int} (h : ∀ i, i < n → lim i 0 ≤ hi i 0) {q : Nat} (he : entE n lim l q = 0) : entE n hi l q = 0 := by
  obtain ⟨h0, h1⟩ := entE_B he
  obtain ⟨_, h2, _, _, _⟩ := enB_iff.1 h0
  have := h (l q 1).toNat (by omega)
  unfold entE at he ⊢
  rw [if_pos h0] at he ⊢
  split at he
  · rename_i h3
    rw [if_pos h3, if_pos (by omega)]
  · cases he
def hiF (lim : Nat → Nat → Int) (more : Int) (i : Nat) : Int := min 1099511627776 (lim i 0 + more)
def moneyAccountsBase : BaseF := fun args => match args with
  | [.row n sz_lim f_lim, .row m sz_l f_l, .int .u8 cut, .int .u16 more] => some ((sz_lim = 1 ∧ IntR n 1 f_lim) ∧ (sz_l = 4 ∧ IntR m 4 f_l) ∧ ((Lit.int .u8 cut).wf = true) ∧ ((Lit.int .u16 more).wf = true), .bool true)
  | _ => none
theorem moneyAccounts_eq (n : Nat) (sz_lim : Nat) (f_lim : Nat → Nat → SV) (m : Nat) (sz_l : Nat) (f_l : Nat → Nat → SV) (cut : Int) (more : Int) : moneyAccountsBase [.row n sz_lim f_lim, .row m sz_l f_l, .int .u8 cut, .int .u16 more] = some ((sz_lim = 1 ∧ IntR n 1 f_lim) ∧ (sz_l = 4 ∧ IntR m 4 f_l) ∧ ((Lit.int .u8 cut).wf = true) ∧ ((Lit.int .u16 more).wf = true), .bool true) := rfl
theorem moneyAccounts_base : Base Try.prog 8 moneyAccountsBase := by
  intro args p v hq hp
  unfold moneyAccountsBase at hq
  split at hq
  rotate_left
  · cases hq
  rename_i n sz_lim f_lim m sz_l f_l cut more
  cases hq
  obtain ⟨⟨rfl, i_lim⟩, ⟨rfl, i_l⟩, wf_cut, wf_more⟩ := hp
  refine base_of (C := cx [] [] [(11, awakeBase), (18, playBase), (28, limitsBase), (14, intsBase)] [(8, 17, p8_17)] none) (cx_ok trivial ⟨awake_base, play_base, limits_base, ints_base, trivial⟩) rfl (g := 8) (fn := Try.f8)
    (args' := [.row n 1 (rowF .i64 (ivf f_lim)), .row m 4 (rowF .i64 (ivf f_l)), .int .u8 cut, .int .u16 more]) (fn_8) rfl 1000 (by
    simp only [BdL, Bd, and_self, and_true, true_and]
    exact ⟨(fun i j hi hj => by rw [i_lim i j hi hj]; trivial), (fun i j hi hj => by rw [i_l i j hi hj]; trivial)⟩) ⟨SameD.int i_lim, SameD.int i_l, SameD.rfl' _, SameD.rfl' _, trivial⟩ ?_
  generalize ivf f_lim = lim
  generalize ivf f_l = l
  simp only [rowF_eq]
  have hcut := wf_u8 wf_cut
  have hmore := wf_u16 wf_more
  by_cases hn : 20 < n
  · simp only [show decide (20 < (n : Int)) = true from decide_eq_true (by omega), awake_eq, play_eq, limits_eq, ints_eq, p8_17, Try.f8, go_sem, ↓reduceIte, Nat.reduceAdd, Nat.reduceSub, Nat.reduceMul, Nat.reduceEqDiff, Nat.reduceLT, Nat.reduceLeDiff, Int.reduceToNat, Int.reduceLE, Int.reduceLT, Int.reduceEq, Int.reduceNeg, reduceCtorEq]
  have hn1 : decide (20 < (n : Int)) = false := decide_eq_false (by omega)
  by_cases hm : 260 < m
  · simp only [hn1, show decide (260 < (m : Int)) = true from decide_eq_true (by omega), awake_eq, play_eq, limits_eq, ints_eq, p8_17, Try.f8, go_sem, ↓reduceIte, Nat.reduceAdd, Nat.reduceSub, Nat.reduceMul, Nat.reduceEqDiff, Nat.reduceLT, Nat.reduceLeDiff, Int.reduceToNat, Int.reduceLE, Int.reduceLT, Int.reduceEq, Int.reduceNeg, reduceCtorEq]
  have hm1 : decide (260 < (m : Int)) = false := decide_eq_false (by omega)
  by_cases h256 : 256 < m
  · have hE : plyE n lim m l = 3 := by simp [plyE, show ¬ m ≤ 256 by omega]
    have hI : plyI n lim m l = 0 := by simp [plyI, show ¬ m ≤ 256 by omega]
    have hN : plyN n lim m l = 0 := by simp [plyN, hE]
    simp only [hn1, hm1, hE, hI, hN, awake_eq, play_eq, limits_eq, ints_eq, p8_17, Try.f8, go_sem, ↓reduceIte, Nat.reduceAdd, Nat.reduceSub, Nat.reduceMul, Nat.reduceEqDiff, Nat.reduceLT, Nat.reduceLeDiff, Int.reduceToNat, Int.reduceLE, Int.reduceLT, Int.reduceEq, Int.reduceNeg, reduceCtorEq]
    refine ⟨⟨by omega, by omega⟩, spl_t (by decide) (spl_t (by decide) trivial)⟩
  cases hlim : limB n lim with
  | false =>
    have hE : plyE n lim m l = 1 := by simp [plyE, show m ≤ 256 by omega, hlim]
    have hI : plyI n lim m l = 0 := by simp [plyI, hlim]
    have hN : plyN n lim m l = 0 := by simp [plyN, hE]
    have hlim' : (allU (fun i => in3 (lim i 0) 0 1099511627776) n && decide (n ≤ 16)) = false := hlim
    simp only [hn1, hm1, hE, hI, hN, hlim', awake_eq, play_eq, limits_eq, ints_eq, p8_17, Try.f8, go_sem, ↓reduceIte, Nat.reduceAdd, Nat.reduceSub, Nat.reduceMul, Nat.reduceEqDiff, Nat.reduceLT, Nat.reduceLeDiff, Int.reduceToNat, Int.reduceLE, Int.reduceLT, Int.reduceEq, Int.reduceNeg, reduceCtorEq]
    refine ⟨⟨by omega, by omega⟩, by omega, spl_t (by decide) (spl_t (by decide) trivial)⟩
  | true =>
    have hlim' : (allU (fun i => in3 (lim i 0) 0 1099511627776) n && decide (n ≤ 16)) = true := hlim
    obtain ⟨hl, hn16⟩ : (∀ i, i < n → 0 ≤ lim i 0 ∧ lim i 0 ≤ 1099511627776) ∧ n ≤ 16 := by
      simp only [limB, Bool.and_eq_true, allU_iff, in3_iff, decide_eq_true_eq] at hlim; exact hlim
    have hm2 : m ≤ 256 := by omega
    obtain ⟨b1, b2, b3⟩ := bad1_spec (n := n) (lim := lim) (l := l) m
    have hI : plyI n lim m l = bad1 n lim l m := by simp [plyI, hm2, hlim]
    have hE : plyE n lim m l = if bad1 n lim l m < m then entE n lim l (bad1 n lim l m) else 0 := by simp [plyE, hm2, hlim]
    have hE3 : ∀ q, entE n lim l q ≠ 3 := fun q => by unfold entE; (repeat' split) <;> decide
    have hne3 : decide (plyE n lim m l = 3) = false := decide_eq_false (by rw [hE]; split; exact hE3 _; decide)
    have hEI : decide (plyE n lim m l = 0) = decide ((plyI n lim m l : Int) = (m : Int)) := by
      rw [hE, hI]
      by_cases h : bad1 n lim l m < m
      · rw [if_pos h, decide_eq_false (b3 h), decide_eq_false (by omega)]
      · rw [if_neg h, decide_eq_true rfl, decide_eq_true (by omega)]
    rw [← hI] at b1 b2
    have hIm : ¬ (m : Int) < (plyI n lim m l : Int) := by omega
    have hI0 : ¬ (plyI n lim m l : Int) < 0 := by omega
    have wI : IntKind.i64.wrap ((plyI n lim m l : Int) + 1) = ((plyI n lim m l + 1 : Nat) : Int) := by rw [wrap_id (by omega) (by omega)]; omega
    have wc : IntKind.i64.wrap cut = ((cut.toNat : Nat) : Int) := by rw [wrap_id (by omega) (by omega)]; omega
    have hk : cut.toNat % (plyI n lim m l + 1) ≤ plyI n lim m l := by have := Nat.mod_lt cut.toNat (show 0 < plyI n lim m l + 1 by omega); omega
    generalize hkk : cut.toNat % (plyI n lim m l + 1) = k at hk
    have kE : ∀ i, i < k → entE n lim l i = 0 := fun i hi => b2 i (by omega)
    have kb := bad1_all kE
    have k1 : plyI n lim k l = k := by simp [plyI, show k ≤ 256 by omega, hlim, kb]
    have k2 : plyE n lim k l = 0 := by simp [plyE, show k ≤ 256 by omega, hlim, kb]
    have k3 : plyN n lim k l = n := by simp [plyN, k2]
    have ksum := bal_sum k kE
    have klow := bal_low (fun i hi => (hl i hi).1) k kE
    have kbd := balF_bd k kE
    by_cases h1 : plyE n lim m l = 1
    · simp only [hn1, hm1, hne3, h1, hEI, hIm, hI0, hlim', decide_false, awake_eq, play_eq, limits_eq, ints_eq, p8_17, Try.f8, go_sem, ↓reduceIte, Nat.reduceAdd, Nat.reduceSub, Nat.reduceMul, Nat.reduceEqDiff, Nat.reduceLT, Nat.reduceLeDiff, Int.reduceToNat, Int.reduceLE, Int.reduceLT, Int.reduceEq, Int.reduceNeg, reduceCtorEq]
      rw [wI, wc, tmod_nat, hkk]
      simp only [Int.toNat_natCast, k1, k2, k3, go_sem, ↓reduceIte, Nat.reduceAdd, Nat.reduceSub, Nat.reduceMul, Nat.reduceEqDiff, Nat.reduceLT, Nat.reduceLeDiff, Int.reduceToNat, Int.reduceLE, Int.reduceLT, Int.reduceEq, Int.reduceNeg, reduceCtorEq]
      have hIm' : decide ((plyI n lim m l : Int) = (m : Int)) = false := by rw [← hEI, h1]; rfl
      refine ⟨⟨by omega, by omega⟩, by omega, spl_f (by rw [hIm']; rfl) ⟨by omega, by omega, ⟨by omega, by omega⟩, ⟨by omega, by omega⟩, ?_⟩⟩
      refine loop_of { i : Nat // i ≤ n } (fun i => [(17, .int .i64 (i.1 : Int)), (16, .int .i64 (sumK (balF l k) i.1)), (13, .row n 1 fun i _ => .int .i64 (balF l k i)), (11, .int .i64 1), (9, .row (plyN n lim m l) 1 fun i _ => .int .i64 (balF l m i)), (3, .int .u16 more), (1, .row m 4 fun i j => .int .i64 (l i j)), (0, .row n 1 fun i j => .int .i64 (lim i j))]) (fun _ => ⟨[], []⟩) (fun i => n - i.1) (fun _ => ⟨rfl, rfl⟩) ⟨0, by omega⟩ (by simp only [sumK]; (apply sub_of <;> simp only [go_sem, ↓reduceIte, Nat.reduceAdd, Nat.reduceSub, Nat.reduceMul, Nat.reduceEqDiff, Nat.reduceLT, Nat.reduceLeDiff, Int.reduceToNat, Int.reduceLE, Int.reduceLT, Int.reduceEq, Int.reduceNeg, reduceCtorEq] <;> (try simp [catF]) <;> (try exact fun j _ => Bd_nth (by simp [BdL, Bd]) j) <;> (try exact bd_setL (by simp [bdAs, BdL, Bd])) <;> (try exact nestF_bd _ _ _ _ _ _ _ _ _))) ?_
      rintro ⟨i, hi⟩
      simp only [awake_eq, play_eq, limits_eq, ints_eq, p8_17, Try.f8, go_sem, ↓reduceIte, Nat.reduceAdd, Nat.reduceSub, Nat.reduceMul, Nat.reduceEqDiff, Nat.reduceLT, Nat.reduceLeDiff, Int.reduceToNat, Int.reduceLE, Int.reduceLT, Int.reduceEq, Int.reduceNeg, reduceCtorEq]
      have hw3 : IntKind.i64.wrap ((i : Int) + 1) = ((i + 1 : Nat) : Int) := by rw [wrap_id (by omega) (by omega)]; omega
      have hsb : -(281474976710656 * (i : Int)) ≤ sumK (balF l k) i ∧ sumK (balF l k) i ≤ 281474976710656 * (i : Int) := by
        clear hw3
        induction i with
        | zero => simp [sumK]
        | succ i ih => have := ih (by omega); have := kbd i; simp only [sumK]; omega
      refine ⟨fun e1 => ?_, fun e1 => ?_⟩
      · simp only [decide_eq_true_eq] at e1
        have ik : i < n := by omega
        have hli := hl i ik
        have hkb := kbd i
        have hlo := klow i ik
        have w1 : IntKind.i64.wrap (0 - lim i 0) = -(lim i 0) := by rw [wrap_id (by omega) (by omega)]; omega
        have w2 : IntKind.i64.wrap (sumK (balF l k) i + balF l k i) = sumK (balF l k) (i + 1) := by rw [wrap_id (by omega) (by omega)]; rfl
        rw [w1]
        refine ⟨⟨by omega, by omega⟩, ⟨by kernel_rfl, by kernel_rfl⟩, ⟨by omega, by omega⟩, ⟨by omega, by omega⟩, spl_f (decide_eq_false (by omega)) ⟨⟨i + 1, by omega⟩, by simp only []; omega, ?_⟩⟩
        apply sub_of <;> simp only [hw3, w2, go_sem, ↓reduceIte, Nat.reduceAdd, Nat.reduceSub, Nat.reduceMul, Nat.reduceEqDiff, Nat.reduceLT, Nat.reduceLeDiff, Int.reduceToNat, Int.reduceLE, Int.reduceLT, Int.reduceEq, Int.reduceNeg, reduceCtorEq] <;> (try simp) <;> (try exact fun j _ => Bd_nth (by simp [BdL, Bd]) j) <;> (try exact bd_setL (by simp [bdAs, BdL, Bd])) <;> (try exact nestF_bd _ _ _ _ _ _ _ _ _)
      simp only [decide_eq_false_iff_not] at e1
      have hin : i = n := by omega
      rw [hin, ksum]
      refine loop_of { j : Nat // j ≤ n } (fun j => [(19, .int .i64 (j.1 : Int)), (18, .vec 0 j.1), (16, .int .i64 0), (13, .row n 1 fun i _ => .int .i64 (balF l k i)), (11, .int .i64 1), (9, .row (plyN n lim m l) 1 fun i _ => .int .i64 (balF l m i)), (3, .int .u16 more), (1, .row m 4 fun i j => .int .i64 (l i j)), (0, .row n 1 fun i j => .int .i64 (lim i j))]) (fun j => ⟨[], [.live j.1 3 1 j.1 fun a _ => .int .i64 (hiF lim more a)]⟩) (fun j => n - j.1) (fun _ => ⟨rfl, rfl⟩) ⟨0, by omega⟩ (by (apply sub_of <;> simp only [go_sem, ↓reduceIte, Nat.reduceAdd, Nat.reduceSub, Nat.reduceMul, Nat.reduceEqDiff, Nat.reduceLT, Nat.reduceLeDiff, Int.reduceToNat, Int.reduceLE, Int.reduceLT, Int.reduceEq, Int.reduceNeg, reduceCtorEq] <;> (try simp [catF]) <;> (try exact fun j _ => Bd_nth (by simp [BdL, Bd]) j) <;> (try exact bd_setL (by simp [bdAs, BdL, Bd])) <;> (try exact nestF_bd _ _ _ _ _ _ _ _ _))) ?_
      rintro ⟨j, hj⟩
      simp only [awake_eq, play_eq, limits_eq, ints_eq, p8_17, Try.f8, go_sem, ↓reduceIte, Nat.reduceAdd, Nat.reduceSub, Nat.reduceMul, Nat.reduceEqDiff, Nat.reduceLT, Nat.reduceLeDiff, Int.reduceToNat, Int.reduceLE, Int.reduceLT, Int.reduceEq, Int.reduceNeg, reduceCtorEq]
      have hw4 : IntKind.i64.wrap ((j : Int) + 1) = ((j + 1 : Nat) : Int) := by rw [wrap_id (by omega) (by omega)]; omega
      have wm : IntKind.i64.wrap more = more := wrap_id (by omega) (by omega)
      rw [wm]
      refine ⟨fun e2 => ?_, fun e2 => ?_⟩
      · simp only [decide_eq_true_eq] at e2
        have jk : j < n := by omega
        have hlj := hl j jk
        have w3 : IntKind.i64.wrap (lim j 0 + more) = lim j 0 + more := wrap_id (by omega) (by omega)
        rw [w3]
        refine ⟨⟨by omega, by omega⟩, ⟨by omega, by omega⟩, ⟨j + 1, by omega⟩, by simp only []; omega, ?_⟩
        apply sub_of <;> simp only [hw4, go_sem, ↓reduceIte, Nat.reduceAdd, Nat.reduceSub, Nat.reduceMul, Nat.reduceEqDiff, Nat.reduceLT, Nat.reduceLeDiff, Int.reduceToNat, Int.reduceLE, Int.reduceLT, Int.reduceEq, Int.reduceNeg, reduceCtorEq] <;> (try simp) <;> (try exact fun j _ => Bd_nth (by simp [BdL, Bd]) j) <;> (try exact bd_setL (by simp [bdAs, BdL, Bd])) <;> (try exact nestF_bd _ _ _ _ _ _ _ _ _)
        exact fun a ha => cat1 (F := fun a => hiF lim more a) rfl a 0 ha (by omega)
      simp only [decide_eq_false_iff_not] at e2
      have hjn : j = n := by omega
      subst hjn
      exact ⟨by omega, by omega⟩
    · simp only [hn1, hm1, hne3, h1, hEI, hIm, hI0, hlim', decide_false, awake_eq, play_eq, limits_eq, ints_eq, p8_17, Try.f8, go_sem, ↓reduceIte, Nat.reduceAdd, Nat.reduceSub, Nat.reduceMul, Nat.reduceEqDiff, Nat.reduceLT, Nat.reduceLeDiff, Int.reduceToNat, Int.reduceLE, Int.reduceLT, Int.reduceEq, Int.reduceNeg, reduceCtorEq]
      rw [wI, wc, tmod_nat, hkk]
      simp only [Int.toNat_natCast, k1, k2, k3, go_sem, ↓reduceIte, Nat.reduceAdd, Nat.reduceSub, Nat.reduceMul, Nat.reduceEqDiff, Nat.reduceLT, Nat.reduceLeDiff, Int.reduceToNat, Int.reduceLE, Int.reduceLT, Int.reduceEq, Int.reduceNeg, reduceCtorEq]
      refine ⟨⟨by omega, by omega⟩, spl_f (by cases decide ((plyI n lim m l : Int) = (m : Int)) <;> rfl) ⟨by omega, by omega, ⟨by omega, by omega⟩, ⟨by omega, by omega⟩, ?_⟩⟩
      refine loop_of { i : Nat // i ≤ n } (fun i => [(17, .int .i64 (i.1 : Int)), (16, .int .i64 (sumK (balF l k) i.1)), (13, .row n 1 fun i _ => .int .i64 (balF l k i)), (11, .int .i64 (plyE n lim m l)), (9, .row (plyN n lim m l) 1 fun i _ => .int .i64 (balF l m i)), (3, .int .u16 more), (1, .row m 4 fun i j => .int .i64 (l i j)), (0, .row n 1 fun i j => .int .i64 (lim i j))]) (fun _ => ⟨[], []⟩) (fun i => n - i.1) (fun _ => ⟨rfl, rfl⟩) ⟨0, by omega⟩ (by simp only [sumK]; (apply sub_of <;> simp only [go_sem, ↓reduceIte, Nat.reduceAdd, Nat.reduceSub, Nat.reduceMul, Nat.reduceEqDiff, Nat.reduceLT, Nat.reduceLeDiff, Int.reduceToNat, Int.reduceLE, Int.reduceLT, Int.reduceEq, Int.reduceNeg, reduceCtorEq] <;> (try simp [catF]) <;> (try exact fun j _ => Bd_nth (by simp [BdL, Bd]) j) <;> (try exact bd_setL (by simp [bdAs, BdL, Bd])) <;> (try exact nestF_bd _ _ _ _ _ _ _ _ _))) ?_
      rintro ⟨i, hi⟩
      simp only [awake_eq, play_eq, limits_eq, ints_eq, p8_17, Try.f8, go_sem, ↓reduceIte, Nat.reduceAdd, Nat.reduceSub, Nat.reduceMul, Nat.reduceEqDiff, Nat.reduceLT, Nat.reduceLeDiff, Int.reduceToNat, Int.reduceLE, Int.reduceLT, Int.reduceEq, Int.reduceNeg, reduceCtorEq]
      have hw3 : IntKind.i64.wrap ((i : Int) + 1) = ((i + 1 : Nat) : Int) := by rw [wrap_id (by omega) (by omega)]; omega
      have hsb : -(281474976710656 * (i : Int)) ≤ sumK (balF l k) i ∧ sumK (balF l k) i ≤ 281474976710656 * (i : Int) := by
        clear hw3
        induction i with
        | zero => simp [sumK]
        | succ i ih => have := ih (by omega); have := kbd i; simp only [sumK]; omega
      refine ⟨fun e1 => ?_, fun e1 => ?_⟩
      · simp only [decide_eq_true_eq] at e1
        have ik : i < n := by omega
        have hli := hl i ik
        have hkb := kbd i
        have hlo := klow i ik
        have w1 : IntKind.i64.wrap (0 - lim i 0) = -(lim i 0) := by rw [wrap_id (by omega) (by omega)]; omega
        have w2 : IntKind.i64.wrap (sumK (balF l k) i + balF l k i) = sumK (balF l k) (i + 1) := by rw [wrap_id (by omega) (by omega)]; rfl
        rw [w1]
        refine ⟨⟨by omega, by omega⟩, ⟨by kernel_rfl, by kernel_rfl⟩, ⟨by omega, by omega⟩, ⟨by omega, by omega⟩, spl_f (decide_eq_false (by omega)) ⟨⟨i + 1, by omega⟩, by simp only []; omega, ?_⟩⟩
        apply sub_of <;> simp only [hw3, w2, go_sem, ↓reduceIte, Nat.reduceAdd, Nat.reduceSub, Nat.reduceMul, Nat.reduceEqDiff, Nat.reduceLT, Nat.reduceLeDiff, Int.reduceToNat, Int.reduceLE, Int.reduceLT, Int.reduceEq, Int.reduceNeg, reduceCtorEq] <;> (try simp) <;> (try exact fun j _ => Bd_nth (by simp [BdL, Bd]) j) <;> (try exact bd_setL (by simp [bdAs, BdL, Bd])) <;> (try exact nestF_bd _ _ _ _ _ _ _ _ _)
      simp only [decide_eq_false_iff_not] at e1
      have hin : i = n := by omega
      rw [hin, ksum]
      refine loop_of { j : Nat // j ≤ n } (fun j => [(19, .int .i64 (j.1 : Int)), (18, .vec 0 j.1), (16, .int .i64 0), (13, .row n 1 fun i _ => .int .i64 (balF l k i)), (11, .int .i64 (plyE n lim m l)), (9, .row (plyN n lim m l) 1 fun i _ => .int .i64 (balF l m i)), (3, .int .u16 more), (1, .row m 4 fun i j => .int .i64 (l i j)), (0, .row n 1 fun i j => .int .i64 (lim i j))]) (fun j => ⟨[], [.live j.1 3 1 j.1 fun a _ => .int .i64 (hiF lim more a)]⟩) (fun j => n - j.1) (fun _ => ⟨rfl, rfl⟩) ⟨0, by omega⟩ (by (apply sub_of <;> simp only [go_sem, ↓reduceIte, Nat.reduceAdd, Nat.reduceSub, Nat.reduceMul, Nat.reduceEqDiff, Nat.reduceLT, Nat.reduceLeDiff, Int.reduceToNat, Int.reduceLE, Int.reduceLT, Int.reduceEq, Int.reduceNeg, reduceCtorEq] <;> (try simp [catF]) <;> (try exact fun j _ => Bd_nth (by simp [BdL, Bd]) j) <;> (try exact bd_setL (by simp [bdAs, BdL, Bd])) <;> (try exact nestF_bd _ _ _ _ _ _ _ _ _))) ?_
      rintro ⟨j, hj⟩
      simp only [awake_eq, play_eq, limits_eq, ints_eq, p8_17, Try.f8, go_sem, ↓reduceIte, Nat.reduceAdd, Nat.reduceSub, Nat.reduceMul, Nat.reduceEqDiff, Nat.reduceLT, Nat.reduceLeDiff, Int.reduceToNat, Int.reduceLE, Int.reduceLT, Int.reduceEq, Int.reduceNeg, reduceCtorEq]
      have hw4 : IntKind.i64.wrap ((j : Int) + 1) = ((j + 1 : Nat) : Int) := by rw [wrap_id (by omega) (by omega)]; omega
      have wm : IntKind.i64.wrap more = more := wrap_id (by omega) (by omega)
      rw [wm]
      refine ⟨fun e2 => ?_, fun e2 => ?_⟩
      · simp only [decide_eq_true_eq] at e2
        have jk : j < n := by omega
        have hlj := hl j jk
        have w3 : IntKind.i64.wrap (lim j 0 + more) = lim j 0 + more := wrap_id (by omega) (by omega)
        rw [w3]
        refine ⟨⟨by omega, by omega⟩, ⟨by omega, by omega⟩, ⟨j + 1, by omega⟩, by simp only []; omega, ?_⟩
        apply sub_of <;> simp only [hw4, go_sem, ↓reduceIte, Nat.reduceAdd, Nat.reduceSub, Nat.reduceMul, Nat.reduceEqDiff, Nat.reduceLT, Nat.reduceLeDiff, Int.reduceToNat, Int.reduceLE, Int.reduceLT, Int.reduceEq, Int.reduceNeg, reduceCtorEq] <;> (try simp) <;> (try exact fun j _ => Bd_nth (by simp [BdL, Bd]) j) <;> (try exact bd_setL (by simp [bdAs, BdL, Bd])) <;> (try exact nestF_bd _ _ _ _ _ _ _ _ _)
        exact fun a ha => cat1 (F := fun a => hiF lim more a) rfl a 0 ha (by omega)
      simp only [decide_eq_false_iff_not] at e2
      have hjn : j = n := by omega
      subst hjn
      refine ⟨⟨by omega, by omega⟩, fun e3 => ?_, fun _ => trivial⟩
      have hE0 : plyE j lim m l = 0 := by simpa using e3
      have hIm2 : bad1 j lim l m = m := by
        rw [hE] at hE0
        by_cases h : bad1 j lim l m < m
        · rw [if_pos h] at hE0; exact absurd hE0 (b3 h)
        · have := (bad1_spec (n := j) (lim := lim) (l := l) m).1
          omega
      have hall : ∀ q, q < m → entE j lim l q = 0 := fun q hq => b2 q (by rw [hI, hIm2]; exact hq)
      have hhi : ∀ q, q < m → entE j (fun i _ => hiF lim more i) l q = 0 := fun q hq => entE_high (fun a ha => by have := hl a ha; simp only [hiF]; omega) (hall q hq)
      have hhl : limB j (fun i _ => hiF lim more i) = true := by
        simp only [limB, Bool.and_eq_true, allU_iff, in3_iff, decide_eq_true_eq]
        exact ⟨fun a ha => by have := hl a ha; simp only [hiF]; omega, hn16⟩
      have hbh := bad1_all hhi
      have hEh : plyE j (fun i _ => hiF lim more i) m l = 0 := by simp [plyE, hm2, hhl, hbh]
      have hNh : plyN j (fun i _ => hiF lim more i) m l = j := by simp [plyN, hEh]
      have hN : plyN j lim m l = j := by simp [plyN, hE0]
      rw [hEh, hNh, hN]
      exact spl_f (by decide) ⟨by omega, spl_f (by rw [allU_true (fun _ _ => rfl)]; simp) trivial⟩
end Go.Eng
end

/-
  MoneyAccounts: for every input the law returns true, and each argument reads afterwards as it read before. No condition.
-/
section
namespace Go.Proofs.Ytiimhkdjechkpaa.moneyAccounts
open Go.ChangeShapes Go.WideShapes Go.ChangeAt Go.RowKit Go.Eng
set_option linter.unusedVariables false
theorem own : ownKnob Try.prog.godebug = none := by kernel_rfl
theorem laid : laidOutB Try.prog = true := by kernel_rfl
set_option maxRecDepth 100000 in
theorem lifted (os : Os) (started : os.Started) (H : Type) (enc : TypeId × Value → H) :
    ReturnsInHanded {} Try.checked os 8 .any (Rows.moneyAccountsSpec.pre6 enc Try.prog Try.f8 Rows.moneyAccountsRow.domain false) (Rows.moneyAccountsSpec.post enc Try.prog Try.f8 false true false false) := by
  refine returnsInHanded_of_change (C := Try.checked) own started (by kernel_rfl) Try.func8
    (ChangeSpec.witness6 (enc := enc) (C := Try.checked) false ⟨#[], #[.slice none 0 0, .slice none 0 0, .int .u8 0, .int .u16 0], []⟩ 8 (by kernel_rfl) (by kernel_rfl) (by kernel_rfl) (by kernel_rfl)) ?_
  intro W base args ds gs before hval0 hW hcnd _
  have hval : ∀ (j : Nat) t v, Try.f8.params[j]? = some t → args[j]? = some v → Value.okWide Try.prog W .any base t v := hval0
  have hW' := hW
  obtain ⟨p, q, hA0, hV, rfl, hfz, hnd⟩ := hW
  have hA : DataW.TrodAll enc Try.prog W 0 (fun _ => true) true Try.f8.params.toList args.toList ds p := hA0
  rw [Try.params8] at hA hval
  obtain ⟨v0, vs0, d0, ds0, p0, q0, hargs, rfl, rfl, h0, r0⟩ := trodAll_cons hA
  obtain ⟨v1, vs1, d1, ds1, p1, q1, rfl, rfl, rfl, h1, r1⟩ := trodAll_cons r0
  obtain ⟨v2, vs2, d2, ds2, p2, q2, rfl, rfl, rfl, h2, r2⟩ := trodAll_cons r1
  obtain ⟨v3, vs3, d3, ds3, p3, q3, rfl, rfl, rfl, h3, r3⟩ := trodAll_cons r2
  obtain ⟨rfl, rfl, rfl⟩ := trodAll_nil r3
  obtain rfl : args = #[v0, v1, v2, v3] := by cases args; simp_all
  obtain ⟨rfl, rfl⟩ := trodVars_none hV
  obtain ⟨n0, f0, e0, m0, t0⟩ := arg_row (s := [.int .i64]) Try.underlying25 (by kernel_rfl) (hval 0 25 v0 rfl rfl) h0
  obtain ⟨i0, b0⟩ := intK_of_typ (k := .i64) (c := 1) rfl t0
  obtain ⟨n1, f1, e1, m1, t1⟩ := arg_row (s := [.int .i64, .int .i64, .int .i64, .int .i64]) Try.underlying32 (by kernel_rfl) (hval 1 32 v1 rfl rfl) h1
  obtain ⟨i1, b1⟩ := intK_of_typ (k := .i64) (c := 4) rfl t1
  obtain ⟨x2, rfl, rfl, rfl, w2⟩ := open_int Try.underlying5 (hval 2 5 v2 rfl rfl) h2
  obtain ⟨x3, rfl, rfl, rfl, w3⟩ := open_int Try.underlying55 (hval 3 55 v3 rfl rfl) h3
  have hd : DenL Env.emp W [.row n0 1 f0, .row n1 4 f1, .int .u8 x2, .int .u16 x3] [v0, v1, .int .u8 x2, .int .u16 x3] := ⟨e0, e1, .int _ _, .int _ _, trivial⟩
  refine (law_calls moneyAccounts_base (args := [.row n0 1 f0, .row n1 4 f1, .int .u8 x2, .int .u16 x3]) rfl ⟨⟨rfl, fun i j hi hj => i0 i j hi hj⟩, ⟨rfl, fun i j hi hj => i1 i j hi hj⟩, w2, w3⟩ (denA_of hd)).mono fun e W' ⟨he, hb⟩ => ?_
  subst he
  exact ⟨_, rfl, law_end laid rfl Try.underlying4 (by kernel_rfl) rfl hW' rfl hb⟩
theorem over : Rows.moneyAccountsRow.holds Try.pinned (OpenSpec.ofChange Rows.moneyAccountsSpec) :=
  OpenClaim.holds_of_wide 8 Try.f8 rfl rfl rfl rfl rfl rfl rfl ⟨rfl, rfl, rfl, rfl, rfl⟩ rfl rfl rfl rfl rfl (by kernel_rfl) Try.func8 (by kernel_rfl)
    (of_decide_eq_true (by kernel_rfl)) (by unfold Func.isWrapper; first | (rw [if_pos (by decide +kernel)]; kernel_rfl) | (rw [if_neg (by decide +kernel)]; exact ⟨rfl, rfl⟩))
    (fun os started H enc _ => lifted os started H enc)
end Go.Proofs.Ytiimhkdjechkpaa.moneyAccounts
namespace Go.Proofs.Ytiimhkdjechkpaa
/-- The given statement. -/
theorem moneyAccounts_holds : Rows.MoneyAccountsSaid := moneyAccounts.over
#print axioms moneyAccounts_holds
end Go.Proofs.Ytiimhkdjechkpaa
end
