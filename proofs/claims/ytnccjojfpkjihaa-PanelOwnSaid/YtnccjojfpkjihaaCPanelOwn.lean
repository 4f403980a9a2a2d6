/-
  PanelOwn: for every input the law returns true, and each argument reads afterwards as it read before. No condition.
-/
import Derived.Test.YtnccjojfpkjihaaRows
import Derived.WalkKit
import Derived.Test.YtnccjojfpkjihaaX7
set_option linter.unusedSimpArgs false
set_option linter.unusedVariables false
/- panel: good seatings, by the law. -/
section
namespace Go.Eng
open Go Go.RowKit Go.Proofs
set_option maxRecDepth 100000
set_option maxHeartbeats 4000000
attribute [local irreducible] OwnT DefS
def gK (D : MT) (q : Nat) (K : Nat → Nat) (W : Nat → Nat → Nat → Int) (i k : Nat) : Bool :=
  (decide (D.A i 1 ≤ D.jd (W i k 0).toNat 1) && ((decide (k = 0) || decide (W i (k - 1) 0 < W i k 0)) && decide (tmS K W (W i k 0) q ≤ D.jd (W i k 0).toNat 2))) &&
    (allU (fun a => !decide (D.V i a 0 = D.jd (W i k 0).toNat 0)) (D.M i) && allU (fun e => !decide (D.jd (W i e 0).toNat 0 = D.jd (W i k 0).toNat 0)) k)
def gC (D : MT) (q : Nat) (K : Nat → Nat) (W : Nat → Nat → Nat → Int) (i : Nat) : Bool := decide ((K i : Int) = D.A i 2) && allU (gK D q K W i) (K i)
def gdB (D : MT) (q : Nat) (K : Nat → Nat) (W : Nat → Nat → Nat → Int) : Bool := foB D.n D.m q K W && allU (gC D q K W) q
def goodBase : BaseF := fun args => match args with
  | [.agg [.row n sz_jd f_jd, .row m sz_A f_A], .row q sz_B f_B] => some ((sz_jd = 3 ∧ IntR n 3 f_jd) ∧ (sz_A = 3 ∧ NestR m 3 0 1 f_A) ∧ (sz_B = 1 ∧ NestR q 1 0 1 f_B) ∧ (n ≤ 1000000 ∧ q ≤ 1000 ∧ (∀ i, i < q → (nsM 0 f_B) i ≤ 1000) ∧ ∀ i, i < m → (nsM 0 f_A) i ≤ 1000000), .bool (gdB ⟨n, (ivf f_jd), m, (nsA f_A), (nsM 0 f_A), (nsV 0 f_A)⟩ q (nsM 0 f_B) (nsV 0 f_B)))
  | _ => none
theorem good_eq (n : Nat) (sz_jd : Nat) (f_jd : Nat → Nat → SV) (m : Nat) (sz_A : Nat) (f_A : Nat → Nat → SV) (q : Nat) (sz_B : Nat) (f_B : Nat → Nat → SV) : goodBase [.agg [.row n sz_jd f_jd, .row m sz_A f_A], .row q sz_B f_B] = some ((sz_jd = 3 ∧ IntR n 3 f_jd) ∧ (sz_A = 3 ∧ NestR m 3 0 1 f_A) ∧ (sz_B = 1 ∧ NestR q 1 0 1 f_B) ∧ (n ≤ 1000000 ∧ q ≤ 1000 ∧ (∀ i, i < q → (nsM 0 f_B) i ≤ 1000) ∧ ∀ i, i < m → (nsM 0 f_A) i ≤ 1000000), .bool (gdB ⟨n, (ivf f_jd), m, (nsA f_A), (nsM 0 f_A), (nsV 0 f_A)⟩ q (nsM 0 f_B) (nsV 0 f_B))) := rfl
theorem good_base : Base Try.prog 26 goodBase := by
  intro args p v hq hp
  unfold goodBase at hq
  split at hq
  rotate_left
  · cases hq
  rename_i n sz_jd f_jd m sz_A f_A q sz_B f_B
  cases hq
  obtain ⟨⟨rfl, i_jd⟩, ⟨rfl, i_A⟩, ⟨rfl, i_B⟩, pre⟩ := hp
  refine base_of (C := cx [] [] [(46, formRBase), (58, timesBase)] [(26, 12, p26_12), (26, 13, p26_13), (26, 18, p26_18), (26, 23, p26_23)] none) (cx_ok trivial ⟨formR_base, times_base, trivial⟩) rfl (g := 26) (fn := Try.f26)
    (args' := [.agg [.row n 3 (rowF .i64 (ivf f_jd)), .row m 3 (nestF 0 1 (nsA f_A) (nsM 0 f_A) (nsV 0 f_A))], .row q 1 (nestF 0 1 (nsA f_B) (nsM 0 f_B) (nsV 0 f_B))]) (fn_26) rfl 1000 (by
    simp only [BdL, Bd, and_self, and_true, true_and]
    exact ⟨⟨(fun i j hi hj => by rw [i_jd i j hi hj]; trivial), (fun i j hi hj => nest_bd i_A i j hi hj)⟩, (fun i j hi hj => nest_bd i_B i j hi hj)⟩) ⟨SameD.agg ⟨SameD.int i_jd, SameD.nest i_A, trivial⟩, SameD.nest i_B, trivial⟩ ?_
  generalize ivf f_jd = jd at *
  generalize nsA f_A = A at *
  generalize nsM 0 f_A = M at *
  generalize nsV 0 f_A = V at *
  generalize nsA f_B = B at *
  generalize nsM 0 f_B = K at *
  generalize nsV 0 f_B = W at *
  simp only [rowF_eq]
  obtain ⟨p1, p2, p3, p4⟩ := pre
  have p3' : ∀ i, i < q → K i ≤ 1000000 := fun i hi => by have := p3 i hi; omega
  cases c1 : foB n m q K W with
  | false =>
    simp only [c1, formR_eq, times_eq, p26_12, p26_13, p26_18, p26_23, nestF_eq, nestR_lit, nsM_lit, nsV_lit, Try.f26, go_sem, ↓reduceIte, Nat.reduceAdd, Nat.reduceSub, Nat.reduceMul, Nat.reduceEqDiff, Nat.reduceLT, Nat.reduceLeDiff, Int.reduceToNat, Int.reduceLE, Int.reduceLT, Int.reduceEq, Int.reduceNeg, reduceCtorEq]
    have : gdB ⟨n, jd, m, A, M, V⟩ q K W = false := by rw [gdB]; simp only [c1]; rfl
    rw [this]
    exact ⟨⟨p1, by omega, p3'⟩, rfl⟩
  | true =>
  obtain ⟨hq, hW⟩ := foB_iff c1
  simp only [c1, formR_eq, times_eq, p26_12, p26_13, p26_18, p26_23, nestF_eq, nestR_lit, nsM_lit, nsV_lit, Try.f26, go_sem, ↓reduceIte, Nat.reduceAdd, Nat.reduceSub, Nat.reduceMul, Nat.reduceEqDiff, Nat.reduceLT, Nat.reduceLeDiff, Int.reduceToNat, Int.reduceLE, Int.reduceLT, Int.reduceEq, Int.reduceNeg, reduceCtorEq]
  refine ⟨⟨p1, by omega, p3'⟩, ?_⟩
  have hno : ∀ i, i < q → gC ⟨n, jd, m, A, M, V⟩ q K W i = false → gdB ⟨n, jd, m, A, M, V⟩ q K W = false := fun i hi h => by rw [gdB, allU_false hi h, Bool.and_false]
  refine loop_ofH { i : Nat // i ≤ q ∧ ∀ j, j < i → gC ⟨n, jd, m, A, M, V⟩ q K W j = true } (fun i => [(5, .int .i64 (i.1 : Int)), (2, .ptr 0 0), (1, .row q 1 (nestF 0 1 B K W))]) (fun h _ => h) (fun i => q - i.1) (fun _ => ⟨rfl, rfl⟩) ⟨0, by omega, by omega⟩ (by (apply sub_of <;> simp only [go_sem, ↓reduceIte, Nat.reduceAdd, Nat.reduceSub, Nat.reduceMul, Nat.reduceEqDiff, Nat.reduceLT, Nat.reduceLeDiff, Int.reduceToNat, Int.reduceLE, Int.reduceLT, Int.reduceEq, Int.reduceNeg, reduceCtorEq] <;> (try simp [catF])); all_goals first | exact fun i _ => nestF_bd1 _ _ _ _ _ _ _ _ _ | exact fun i j _ _ => nestF_bd1 _ _ _ _ _ _ _ i j | exact ⟨fun i j _ _ => nestF_bd1 _ _ _ _ _ _ _ i j, fun i _ => nestF_bd1 _ _ _ _ _ _ _ _ _⟩ | exact ⟨fun i _ => nestF_bd1 _ _ _ _ _ _ _ _ _, fun i _ => nestF_bd1 _ _ _ _ _ _ _ _ _⟩ | trace_state) ?_
  rintro ⟨i, hi, h3⟩
  by_cases ik : i < q
  · have e1 : decide ((i : Int) < (q : Int)) = true := decide_eq_true (by omega)
    have hKi := p3 i ik
    cases c2 : decide ((K i : Int) = A i 2) with
    | false =>
      simp only [e1, c2, formR_eq, times_eq, p26_12, p26_13, p26_18, p26_23, nestF_eq, nestR_lit, nsM_lit, nsV_lit, Try.f26, go_sem, ↓reduceIte, Nat.reduceAdd, Nat.reduceSub, Nat.reduceMul, Nat.reduceEqDiff, Nat.reduceLT, Nat.reduceLeDiff, Int.reduceToNat, Int.reduceLE, Int.reduceLT, Int.reduceEq, Int.reduceNeg, reduceCtorEq]
      rw [hno i ik (by rw [gC]; simp only [c2]; rfl)]
      exact ⟨⟨by omega, by omega⟩, ⟨by omega, by omega⟩, rfl⟩
    | true =>
    simp only [e1, c2, formR_eq, times_eq, p26_12, p26_13, p26_18, p26_23, nestF_eq, nestR_lit, nsM_lit, nsV_lit, Try.f26, go_sem, ↓reduceIte, Nat.reduceAdd, Nat.reduceSub, Nat.reduceMul, Nat.reduceEqDiff, Nat.reduceLT, Nat.reduceLeDiff, Int.reduceToNat, Int.reduceLE, Int.reduceLT, Int.reduceEq, Int.reduceNeg, reduceCtorEq]
    have hnk : ∀ k, k < K i → gK ⟨n, jd, m, A, M, V⟩ q K W i k = false → gdB ⟨n, jd, m, A, M, V⟩ q K W = false := fun k hk h => hno i ik (by rw [gC, allU_false hk h, Bool.and_false])
    refine ⟨⟨by omega, by omega⟩, ⟨by omega, by omega⟩, ?_⟩
    refine loop_ofH { k : Nat // k ≤ K i ∧ ∀ j, j < k → gK ⟨n, jd, m, A, M, V⟩ q K W i j = true } (fun k => [(7, .int .i64 (k.1 : Int)), (6, .row (K i) 1 (fun a b => .int .i64 (W i a b))), (5, .int .i64 (i : Int)), (2, .ptr 0 0), (1, .row q 1 (nestF 0 1 B K W))]) (fun h _ => h) (fun k => K i - k.1) (fun _ => ⟨rfl, rfl⟩) ⟨0, by omega, by omega⟩ (by (apply sub_of <;> simp only [go_sem, ↓reduceIte, Nat.reduceAdd, Nat.reduceSub, Nat.reduceMul, Nat.reduceEqDiff, Nat.reduceLT, Nat.reduceLeDiff, Int.reduceToNat, Int.reduceLE, Int.reduceLT, Int.reduceEq, Int.reduceNeg, reduceCtorEq] <;> (try simp [catF])); all_goals first | exact fun i _ => nestF_bd1 _ _ _ _ _ _ _ _ _ | exact fun i j _ _ => nestF_bd1 _ _ _ _ _ _ _ i j | exact ⟨fun i j _ _ => nestF_bd1 _ _ _ _ _ _ _ i j, fun i _ => nestF_bd1 _ _ _ _ _ _ _ _ _⟩ | exact ⟨fun i _ => nestF_bd1 _ _ _ _ _ _ _ _ _, fun i _ => nestF_bd1 _ _ _ _ _ _ _ _ _⟩ | trace_state) ?_
    rintro ⟨k, hk, h4⟩
    by_cases kk : k < K i
    · have e2 : decide ((k : Int) < (K i : Int)) = true := decide_eq_true (by omega)
      obtain ⟨hl0, hlN⟩ := hW i k ik kk
      have hMi := p4 i (by omega)
      cases cA : decide (jd (W i k 0).toNat 1 < A i 1) with
      | true =>
        simp only [e2, hl0, hlN, cA, formR_eq, times_eq, p26_12, p26_13, p26_18, p26_23, nestF_eq, nestR_lit, nsM_lit, nsV_lit, Try.f26, go_sem, ↓reduceIte, Nat.reduceAdd, Nat.reduceSub, Nat.reduceMul, Nat.reduceEqDiff, Nat.reduceLT, Nat.reduceLeDiff, Int.reduceToNat, Int.reduceLE, Int.reduceLT, Int.reduceEq, Int.reduceNeg, reduceCtorEq]
        rw [hnk k kk (by rw [gK]; simp only []; rw [decide_eq_false (p := A i 1 ≤ jd (W i k 0).toNat 1) (by have := of_decide_eq_true cA; omega)]; rfl)]
        exact ⟨⟨by kernel_rfl, by kernel_rfl⟩, ⟨by omega, by omega⟩, ⟨by omega, by omega⟩, ⟨by kernel_rfl, by kernel_rfl⟩, ⟨by omega, by omega⟩, rfl⟩
      | false =>
      have dA : decide (A i 1 ≤ jd (W i k 0).toNat 1) = true := decide_eq_true (by have := of_decide_eq_false cA; omega)
      cases cT : decide (jd (W i k 0).toNat 2 < tmS K W (W i k 0) q) with
      | true =>
        have hg : gK ⟨n, jd, m, A, M, V⟩ q K W i k = false := by
          rw [gK]; simp only []; rw [decide_eq_false (p := tmS K W (W i k 0) q ≤ jd (W i k 0).toNat 2) (by have := of_decide_eq_true cT; omega)]; simp only [Bool.and_false, Bool.false_and]
        rcases Nat.eq_zero_or_pos k with k0 | k0
        · have ez : decide ((0 : Int) < (k : Int)) = false := decide_eq_false (by omega)
          simp only [e2, hl0, hlN, cA, cT, ez, formR_eq, times_eq, p26_12, p26_13, p26_18, p26_23, nestF_eq, nestR_lit, nsM_lit, nsV_lit, Try.f26, go_sem, ↓reduceIte, Nat.reduceAdd, Nat.reduceSub, Nat.reduceMul, Nat.reduceEqDiff, Nat.reduceLT, Nat.reduceLeDiff, Int.reduceToNat, Int.reduceLE, Int.reduceLT, Int.reduceEq, Int.reduceNeg, reduceCtorEq]
          rw [hnk k kk hg]
          exact ⟨⟨by kernel_rfl, by kernel_rfl⟩, ⟨by omega, by omega⟩, ⟨by omega, by omega⟩, ⟨by kernel_rfl, by kernel_rfl⟩, ⟨by omega, by omega⟩, ⟨by omega, by omega⟩, ⟨by omega, by omega, p2, p3⟩, rfl⟩
        · have ez : decide ((0 : Int) < (k : Int)) = true := decide_eq_true (by omega)
          have wk : IntKind.i64.wrap ((k : Int) - 1) = (k : Int) - 1 := wrap_id (by omega) (by omega)
          simp only [wk, e2, hl0, hlN, cA, cT, ez, formR_eq, times_eq, p26_12, p26_13, p26_18, p26_23, nestF_eq, nestR_lit, nsM_lit, nsV_lit, Try.f26, go_sem, ↓reduceIte, Nat.reduceAdd, Nat.reduceSub, Nat.reduceMul, Nat.reduceEqDiff, Nat.reduceLT, Nat.reduceLeDiff, Int.reduceToNat, Int.reduceLE, Int.reduceLT, Int.reduceEq, Int.reduceNeg, reduceCtorEq]
          rw [hnk k kk hg]
          exact ⟨⟨by kernel_rfl, by kernel_rfl⟩, ⟨by omega, by omega⟩, ⟨by omega, by omega⟩, ⟨by kernel_rfl, by kernel_rfl⟩, ⟨by omega, by omega⟩, ⟨by omega, by omega⟩, ⟨by omega, by omega⟩, ⟨fun _ => rfl, fun _ => ⟨⟨by omega, by omega⟩, ⟨by omega, by omega, p2, p3⟩, rfl⟩⟩⟩
      | false =>
      have dT : decide (tmS K W (W i k 0) q ≤ jd (W i k 0).toNat 2) = true := decide_eq_true (by have := of_decide_eq_false cT; omega)
      cases k with
      | zero =>
        have ez : decide ((0 : Int) < ((0 : Nat) : Int)) = false := rfl
        simp only [e2, hl0, hlN, cA, cT, ez, formR_eq, times_eq, p26_12, p26_13, p26_18, p26_23, nestF_eq, nestR_lit, nsM_lit, nsV_lit, Try.f26, go_sem, ↓reduceIte, Nat.reduceAdd, Nat.reduceSub, Nat.reduceMul, Nat.reduceEqDiff, Nat.reduceLT, Nat.reduceLeDiff, Int.reduceToNat, Int.reduceLE, Int.reduceLT, Int.reduceEq, Int.reduceNeg, reduceCtorEq]
        refine ⟨⟨by kernel_rfl, by kernel_rfl⟩, ⟨by omega, by omega⟩, ⟨by omega, by omega⟩, ⟨by kernel_rfl, by kernel_rfl⟩, ⟨by omega, by omega⟩, ⟨by omega, by omega⟩, ⟨by omega, by omega, p2, p3⟩, ?_⟩
        refine loop_ofH { a : Nat // a ≤ M i ∧ ∀ j, j < a → (fun a => !decide (V i a 0 = jd (W i (0) 0).toNat 0)) j = true } (fun a => [(9, .int .i64 (a.1 : Int)), (8, .ptr 1 0), (7, .int .i64 ((0 : Nat) : Int)), (6, .row (K i) 1 (fun a b => .int .i64 (W i a b))), (5, .int .i64 (i : Int)), (2, .ptr 0 0), (1, .row q 1 (nestF 0 1 B K W))]) (fun h _ => h) (fun a => M i - a.1) (fun _ => ⟨rfl, rfl⟩) ⟨0, by omega, by omega⟩ (by (apply sub_of <;> simp only [go_sem, ↓reduceIte, Nat.reduceAdd, Nat.reduceSub, Nat.reduceMul, Nat.reduceEqDiff, Nat.reduceLT, Nat.reduceLeDiff, Int.reduceToNat, Int.reduceLE, Int.reduceLT, Int.reduceEq, Int.reduceNeg, reduceCtorEq] <;> (try simp [catF])); all_goals first | exact fun i _ => nestF_bd1 _ _ _ _ _ _ _ _ _ | exact fun i j _ _ => nestF_bd1 _ _ _ _ _ _ _ i j | exact ⟨fun i j _ _ => nestF_bd1 _ _ _ _ _ _ _ i j, fun i _ => nestF_bd1 _ _ _ _ _ _ _ _ _⟩ | exact ⟨fun i _ => nestF_bd1 _ _ _ _ _ _ _ _ _, fun i _ => nestF_bd1 _ _ _ _ _ _ _ _ _⟩ | trace_state) ?_
        rintro ⟨a, ha, h5⟩
        by_cases ak : a < M i
        · have e3 : decide ((a : Int) < (M i : Int)) = true := decide_eq_true (by omega)
          cases c5 : decide (V i a 0 = jd (W i (0) 0).toNat 0) with
          | true =>
            simp only [e3, c5, formR_eq, times_eq, p26_12, p26_13, p26_18, p26_23, nestF_eq, nestR_lit, nsM_lit, nsV_lit, Try.f26, go_sem, ↓reduceIte, Nat.reduceAdd, Nat.reduceSub, Nat.reduceMul, Nat.reduceEqDiff, Nat.reduceLT, Nat.reduceLeDiff, Int.reduceToNat, Int.reduceLE, Int.reduceLT, Int.reduceEq, Int.reduceNeg, reduceCtorEq]
            rw [hnk _ kk (by rw [gK]; simp only [allU_false (p := fun a => !decide (V i a 0 = jd (W i (0) 0).toNat 0)) ak (by simp only [c5]; rfl), Bool.false_and, Bool.and_false])]
            exact ⟨⟨by omega, by omega⟩, ⟨by kernel_rfl, by kernel_rfl⟩, ⟨by omega, by omega⟩, ⟨by omega, by omega⟩, rfl⟩
          | false =>
            simp only [e3, c5, formR_eq, times_eq, p26_12, p26_13, p26_18, p26_23, nestF_eq, nestR_lit, nsM_lit, nsV_lit, Try.f26, go_sem, ↓reduceIte, Nat.reduceAdd, Nat.reduceSub, Nat.reduceMul, Nat.reduceEqDiff, Nat.reduceLT, Nat.reduceLeDiff, Int.reduceToNat, Int.reduceLE, Int.reduceLT, Int.reduceEq, Int.reduceNeg, reduceCtorEq]
            refine ⟨⟨by omega, by omega⟩, ⟨by kernel_rfl, by kernel_rfl⟩, ⟨by omega, by omega⟩, ⟨by omega, by omega⟩, ⟨a + 1, by omega, below h5 (by simp only [c5]; rfl)⟩, by simp only []; omega, ?_⟩
            apply sub_of <;> simp only [wrap_s ak hMi, go_sem, ↓reduceIte, Nat.reduceAdd, Nat.reduceSub, Nat.reduceMul, Nat.reduceEqDiff, Nat.reduceLT, Nat.reduceLeDiff, Int.reduceToNat, Int.reduceLE, Int.reduceLT, Int.reduceEq, Int.reduceNeg, reduceCtorEq] <;> (try simp)
            all_goals first | exact fun i _ => nestF_bd1 _ _ _ _ _ _ _ _ _ | exact fun i j _ _ => nestF_bd1 _ _ _ _ _ _ _ i j | exact ⟨fun i j _ _ => nestF_bd1 _ _ _ _ _ _ _ i j, fun i _ => nestF_bd1 _ _ _ _ _ _ _ _ _⟩ | exact ⟨fun i _ => nestF_bd1 _ _ _ _ _ _ _ _ _, fun i _ => nestF_bd1 _ _ _ _ _ _ _ _ _⟩ | trace_state
        obtain rfl : a = M i := by omega
        have e3 : decide ((M i : Int) < (M i : Int)) = false := decide_eq_false (by omega)
        have hcl : allU (fun a => !decide (V i a 0 = jd (W i (0) 0).toNat 0)) (M i) = true := allU_true h5
        simp only [e3, formR_eq, times_eq, p26_12, p26_13, p26_18, p26_23, nestF_eq, nestR_lit, nsM_lit, nsV_lit, Try.f26, go_sem, ↓reduceIte, Nat.reduceAdd, Nat.reduceSub, Nat.reduceMul, Nat.reduceEqDiff, Nat.reduceLT, Nat.reduceLeDiff, Int.reduceToNat, Int.reduceLE, Int.reduceLT, Int.reduceEq, Int.reduceNeg, reduceCtorEq]
        refine ⟨⟨by omega, by omega⟩, ?_⟩
        refine loop_ofH { e : Nat // e ≤ 0 ∧ ∀ j, j < e → (fun e => !decide (jd (W i e 0).toNat 0 = jd (W i (0) 0).toNat 0)) j = true } (fun e => [(10, .int .i64 (e.1 : Int)), (8, .ptr 1 0), (7, .int .i64 ((0 : Nat) : Int)), (6, .row (K i) 1 (fun a b => .int .i64 (W i a b))), (5, .int .i64 (i : Int)), (2, .ptr 0 0), (1, .row q 1 (nestF 0 1 B K W))]) (fun h _ => h) (fun e => 0 - e.1) (fun _ => ⟨rfl, rfl⟩) ⟨0, by omega, by omega⟩ (by (apply sub_of <;> simp only [go_sem, ↓reduceIte, Nat.reduceAdd, Nat.reduceSub, Nat.reduceMul, Nat.reduceEqDiff, Nat.reduceLT, Nat.reduceLeDiff, Int.reduceToNat, Int.reduceLE, Int.reduceLT, Int.reduceEq, Int.reduceNeg, reduceCtorEq] <;> (try simp [catF])); all_goals first | exact fun i _ => nestF_bd1 _ _ _ _ _ _ _ _ _ | exact fun i j _ _ => nestF_bd1 _ _ _ _ _ _ _ i j | exact ⟨fun i j _ _ => nestF_bd1 _ _ _ _ _ _ _ i j, fun i _ => nestF_bd1 _ _ _ _ _ _ _ _ _⟩ | exact ⟨fun i _ => nestF_bd1 _ _ _ _ _ _ _ _ _, fun i _ => nestF_bd1 _ _ _ _ _ _ _ _ _⟩ | trace_state) ?_
        rintro ⟨e, he, h6⟩
        by_cases ek : e < 0
        · have e4 : decide ((e : Int) < ((0 : Nat) : Int)) = true := decide_eq_true (by omega)
          obtain ⟨hm0, hmN⟩ := hW i e ik (by omega)
          cases c6 : decide (jd (W i e 0).toNat 0 = jd (W i (0) 0).toNat 0) with
          | true =>
            simp only [e4, c6, hm0, hmN, formR_eq, times_eq, p26_12, p26_13, p26_18, p26_23, nestF_eq, nestR_lit, nsM_lit, nsV_lit, Try.f26, go_sem, ↓reduceIte, Nat.reduceAdd, Nat.reduceSub, Nat.reduceMul, Nat.reduceEqDiff, Nat.reduceLT, Nat.reduceLeDiff, Int.reduceToNat, Int.reduceLE, Int.reduceLT, Int.reduceEq, Int.reduceNeg, reduceCtorEq]
            rw [hnk _ kk (by rw [gK]; simp only [allU_false (p := fun e => !decide (jd (W i e 0).toNat 0 = jd (W i (0) 0).toNat 0)) ek (by simp only [c6]; rfl), Bool.and_false])]
            exact ⟨⟨by kernel_rfl, by kernel_rfl⟩, ⟨by omega, by omega⟩, rfl⟩
          | false =>
            simp only [e4, c6, hm0, hmN, formR_eq, times_eq, p26_12, p26_13, p26_18, p26_23, nestF_eq, nestR_lit, nsM_lit, nsV_lit, Try.f26, go_sem, ↓reduceIte, Nat.reduceAdd, Nat.reduceSub, Nat.reduceMul, Nat.reduceEqDiff, Nat.reduceLT, Nat.reduceLeDiff, Int.reduceToNat, Int.reduceLE, Int.reduceLT, Int.reduceEq, Int.reduceNeg, reduceCtorEq]
            refine ⟨⟨by kernel_rfl, by kernel_rfl⟩, ⟨by omega, by omega⟩, ⟨e + 1, by omega, below h6 (by simp only [c6]; rfl)⟩, by simp only []; omega, ?_⟩
            apply sub_of <;> simp only [wrap_s ek (show 0 ≤ 1000000 by omega), go_sem, ↓reduceIte, Nat.reduceAdd, Nat.reduceSub, Nat.reduceMul, Nat.reduceEqDiff, Nat.reduceLT, Nat.reduceLeDiff, Int.reduceToNat, Int.reduceLE, Int.reduceLT, Int.reduceEq, Int.reduceNeg, reduceCtorEq] <;> (try simp)
            all_goals first | exact fun i _ => nestF_bd1 _ _ _ _ _ _ _ _ _ | exact fun i j _ _ => nestF_bd1 _ _ _ _ _ _ _ i j | exact ⟨fun i j _ _ => nestF_bd1 _ _ _ _ _ _ _ i j, fun i _ => nestF_bd1 _ _ _ _ _ _ _ _ _⟩ | exact ⟨fun i _ => nestF_bd1 _ _ _ _ _ _ _ _ _, fun i _ => nestF_bd1 _ _ _ _ _ _ _ _ _⟩ | trace_state
        obtain rfl : e = 0 := by omega
        have e4 : decide (((0 : Nat) : Int) < ((0 : Nat) : Int)) = false := decide_eq_false (by omega)
        have hdu : allU (fun e => !decide (jd (W i e 0).toNat 0 = jd (W i (0) 0).toNat 0)) (0) = true := allU_true h6
        have hgk : gK ⟨n, jd, m, A, M, V⟩ q K W i (0) = true := by
          rw [gK]; simp only [hcl, hdu, dA, dT, decide_true, Bool.and_self, Bool.or_true, Bool.true_or] <;> rfl
        simp only [e4, formR_eq, times_eq, p26_12, p26_13, p26_18, p26_23, nestF_eq, nestR_lit, nsM_lit, nsV_lit, Try.f26, go_sem, ↓reduceIte, Nat.reduceAdd, Nat.reduceSub, Nat.reduceMul, Nat.reduceEqDiff, Nat.reduceLT, Nat.reduceLeDiff, Int.reduceToNat, Int.reduceLE, Int.reduceLT, Int.reduceEq, Int.reduceNeg, reduceCtorEq]
        refine ⟨⟨0 + 1, by omega, below h4 hgk⟩, by simp only []; omega, ?_⟩
        apply sub_of <;> simp only [wrap_s kk (show K i ≤ 1000000 by omega), go_sem, ↓reduceIte, Nat.reduceAdd, Nat.reduceSub, Nat.reduceMul, Nat.reduceEqDiff, Nat.reduceLT, Nat.reduceLeDiff, Int.reduceToNat, Int.reduceLE, Int.reduceLT, Int.reduceEq, Int.reduceNeg, reduceCtorEq] <;> (try simp)
        all_goals first | exact fun i _ => nestF_bd1 _ _ _ _ _ _ _ _ _ | exact fun i j _ _ => nestF_bd1 _ _ _ _ _ _ _ i j | exact ⟨fun i j _ _ => nestF_bd1 _ _ _ _ _ _ _ i j, fun i _ => nestF_bd1 _ _ _ _ _ _ _ _ _⟩ | exact ⟨fun i _ => nestF_bd1 _ _ _ _ _ _ _ _ _, fun i _ => nestF_bd1 _ _ _ _ _ _ _ _ _⟩ | trace_state
      | succ k =>
        have ez : decide ((0 : Int) < ((k + 1 : Nat) : Int)) = true := decide_eq_true (by omega)
        have wk : IntKind.i64.wrap (((k + 1 : Nat) : Int) - 1) = (k : Int) := by rw [wrap_id (by omega) (by omega)]; omega
        cases cR : decide (W i (k + 1) 0 ≤ W i k 0) with
        | true =>
          simp only [e2, hl0, hlN, cA, cT, cR, ez, wk, Int.toNat_natCast, formR_eq, times_eq, p26_12, p26_13, p26_18, p26_23, nestF_eq, nestR_lit, nsM_lit, nsV_lit, Try.f26, go_sem, ↓reduceIte, Nat.reduceAdd, Nat.reduceSub, Nat.reduceMul, Nat.reduceEqDiff, Nat.reduceLT, Nat.reduceLeDiff, Int.reduceToNat, Int.reduceLE, Int.reduceLT, Int.reduceEq, Int.reduceNeg, reduceCtorEq]
          rw [hnk (k + 1) kk (by rw [gK]; simp only [Nat.add_sub_cancel]; rw [decide_eq_false (p := W i k 0 < W i (k + 1) 0) (by have := of_decide_eq_true cR; omega), decide_eq_false (p := k + 1 = 0) (by omega)]; simp only [Bool.or_false, Bool.and_false, Bool.false_and])]
          exact ⟨⟨by kernel_rfl, by kernel_rfl⟩, ⟨by omega, by omega⟩, ⟨by omega, by omega⟩, ⟨by kernel_rfl, by kernel_rfl⟩, ⟨by omega, by omega⟩, ⟨by omega, by omega⟩, ⟨by omega, by omega⟩, rfl⟩
        | false =>
          have dR : decide (W i k 0 < W i (k + 1) 0) = true := decide_eq_true (by have := of_decide_eq_false cR; omega)
          simp only [e2, hl0, hlN, cA, cT, cR, ez, wk, Int.toNat_natCast, formR_eq, times_eq, p26_12, p26_13, p26_18, p26_23, nestF_eq, nestR_lit, nsM_lit, nsV_lit, Try.f26, go_sem, ↓reduceIte, Nat.reduceAdd, Nat.reduceSub, Nat.reduceMul, Nat.reduceEqDiff, Nat.reduceLT, Nat.reduceLeDiff, Int.reduceToNat, Int.reduceLE, Int.reduceLT, Int.reduceEq, Int.reduceNeg, reduceCtorEq]
          refine ⟨⟨by kernel_rfl, by kernel_rfl⟩, ⟨by omega, by omega⟩, ⟨by omega, by omega⟩, ⟨by kernel_rfl, by kernel_rfl⟩, ⟨by omega, by omega⟩, ⟨by omega, by omega⟩, ⟨by omega, by omega⟩, ⟨by omega, by omega⟩, ⟨by omega, by omega, p2, p3⟩, ?_⟩
          refine loop_ofH { a : Nat // a ≤ M i ∧ ∀ j, j < a → (fun a => !decide (V i a 0 = jd (W i (k + 1) 0).toNat 0)) j = true } (fun a => [(9, .int .i64 (a.1 : Int)), (8, .ptr 1 0), (7, .int .i64 ((k + 1 : Nat) : Int)), (6, .row (K i) 1 (fun a b => .int .i64 (W i a b))), (5, .int .i64 (i : Int)), (2, .ptr 0 0), (1, .row q 1 (nestF 0 1 B K W))]) (fun h _ => h) (fun a => M i - a.1) (fun _ => ⟨rfl, rfl⟩) ⟨0, by omega, by omega⟩ (by (apply sub_of <;> simp only [go_sem, ↓reduceIte, Nat.reduceAdd, Nat.reduceSub, Nat.reduceMul, Nat.reduceEqDiff, Nat.reduceLT, Nat.reduceLeDiff, Int.reduceToNat, Int.reduceLE, Int.reduceLT, Int.reduceEq, Int.reduceNeg, reduceCtorEq] <;> (try simp [catF])); all_goals first | exact fun i _ => nestF_bd1 _ _ _ _ _ _ _ _ _ | exact fun i j _ _ => nestF_bd1 _ _ _ _ _ _ _ i j | exact ⟨fun i j _ _ => nestF_bd1 _ _ _ _ _ _ _ i j, fun i _ => nestF_bd1 _ _ _ _ _ _ _ _ _⟩ | exact ⟨fun i _ => nestF_bd1 _ _ _ _ _ _ _ _ _, fun i _ => nestF_bd1 _ _ _ _ _ _ _ _ _⟩ | trace_state) ?_
          rintro ⟨a, ha, h5⟩
          by_cases ak : a < M i
          · have e3 : decide ((a : Int) < (M i : Int)) = true := decide_eq_true (by omega)
            cases c5 : decide (V i a 0 = jd (W i (k + 1) 0).toNat 0) with
            | true =>
              simp only [e3, c5, formR_eq, times_eq, p26_12, p26_13, p26_18, p26_23, nestF_eq, nestR_lit, nsM_lit, nsV_lit, Try.f26, go_sem, ↓reduceIte, Nat.reduceAdd, Nat.reduceSub, Nat.reduceMul, Nat.reduceEqDiff, Nat.reduceLT, Nat.reduceLeDiff, Int.reduceToNat, Int.reduceLE, Int.reduceLT, Int.reduceEq, Int.reduceNeg, reduceCtorEq]
              rw [hnk _ kk (by rw [gK]; simp only [allU_false (p := fun a => !decide (V i a 0 = jd (W i (k + 1) 0).toNat 0)) ak (by simp only [c5]; rfl), Bool.false_and, Bool.and_false])]
              exact ⟨⟨by omega, by omega⟩, ⟨by kernel_rfl, by kernel_rfl⟩, ⟨by omega, by omega⟩, ⟨by omega, by omega⟩, rfl⟩
            | false =>
              simp only [e3, c5, formR_eq, times_eq, p26_12, p26_13, p26_18, p26_23, nestF_eq, nestR_lit, nsM_lit, nsV_lit, Try.f26, go_sem, ↓reduceIte, Nat.reduceAdd, Nat.reduceSub, Nat.reduceMul, Nat.reduceEqDiff, Nat.reduceLT, Nat.reduceLeDiff, Int.reduceToNat, Int.reduceLE, Int.reduceLT, Int.reduceEq, Int.reduceNeg, reduceCtorEq]
              refine ⟨⟨by omega, by omega⟩, ⟨by kernel_rfl, by kernel_rfl⟩, ⟨by omega, by omega⟩, ⟨by omega, by omega⟩, ⟨a + 1, by omega, below h5 (by simp only [c5]; rfl)⟩, by simp only []; omega, ?_⟩
              apply sub_of <;> simp only [wrap_s ak hMi, go_sem, ↓reduceIte, Nat.reduceAdd, Nat.reduceSub, Nat.reduceMul, Nat.reduceEqDiff, Nat.reduceLT, Nat.reduceLeDiff, Int.reduceToNat, Int.reduceLE, Int.reduceLT, Int.reduceEq, Int.reduceNeg, reduceCtorEq] <;> (try simp)
              all_goals first | exact fun i _ => nestF_bd1 _ _ _ _ _ _ _ _ _ | exact fun i j _ _ => nestF_bd1 _ _ _ _ _ _ _ i j | exact ⟨fun i j _ _ => nestF_bd1 _ _ _ _ _ _ _ i j, fun i _ => nestF_bd1 _ _ _ _ _ _ _ _ _⟩ | exact ⟨fun i _ => nestF_bd1 _ _ _ _ _ _ _ _ _, fun i _ => nestF_bd1 _ _ _ _ _ _ _ _ _⟩ | trace_state
          obtain rfl : a = M i := by omega
          have e3 : decide ((M i : Int) < (M i : Int)) = false := decide_eq_false (by omega)
          have hcl : allU (fun a => !decide (V i a 0 = jd (W i (k + 1) 0).toNat 0)) (M i) = true := allU_true h5
          simp only [e3, formR_eq, times_eq, p26_12, p26_13, p26_18, p26_23, nestF_eq, nestR_lit, nsM_lit, nsV_lit, Try.f26, go_sem, ↓reduceIte, Nat.reduceAdd, Nat.reduceSub, Nat.reduceMul, Nat.reduceEqDiff, Nat.reduceLT, Nat.reduceLeDiff, Int.reduceToNat, Int.reduceLE, Int.reduceLT, Int.reduceEq, Int.reduceNeg, reduceCtorEq]
          refine ⟨⟨by omega, by omega⟩, ?_⟩
          refine loop_ofH { e : Nat // e ≤ k + 1 ∧ ∀ j, j < e → (fun e => !decide (jd (W i e 0).toNat 0 = jd (W i (k + 1) 0).toNat 0)) j = true } (fun e => [(10, .int .i64 (e.1 : Int)), (8, .ptr 1 0), (7, .int .i64 ((k + 1 : Nat) : Int)), (6, .row (K i) 1 (fun a b => .int .i64 (W i a b))), (5, .int .i64 (i : Int)), (2, .ptr 0 0), (1, .row q 1 (nestF 0 1 B K W))]) (fun h _ => h) (fun e => k + 1 - e.1) (fun _ => ⟨rfl, rfl⟩) ⟨0, by omega, by omega⟩ (by (apply sub_of <;> simp only [go_sem, ↓reduceIte, Nat.reduceAdd, Nat.reduceSub, Nat.reduceMul, Nat.reduceEqDiff, Nat.reduceLT, Nat.reduceLeDiff, Int.reduceToNat, Int.reduceLE, Int.reduceLT, Int.reduceEq, Int.reduceNeg, reduceCtorEq] <;> (try simp [catF])); all_goals first | exact fun i _ => nestF_bd1 _ _ _ _ _ _ _ _ _ | exact fun i j _ _ => nestF_bd1 _ _ _ _ _ _ _ i j | exact ⟨fun i j _ _ => nestF_bd1 _ _ _ _ _ _ _ i j, fun i _ => nestF_bd1 _ _ _ _ _ _ _ _ _⟩ | exact ⟨fun i _ => nestF_bd1 _ _ _ _ _ _ _ _ _, fun i _ => nestF_bd1 _ _ _ _ _ _ _ _ _⟩ | trace_state) ?_
          rintro ⟨e, he, h6⟩
          by_cases ek : e < k + 1
          · have e4 : decide ((e : Int) < ((k + 1 : Nat) : Int)) = true := decide_eq_true (by omega)
            obtain ⟨hm0, hmN⟩ := hW i e ik (by omega)
            cases c6 : decide (jd (W i e 0).toNat 0 = jd (W i (k + 1) 0).toNat 0) with
            | true =>
              simp only [e4, c6, hm0, hmN, formR_eq, times_eq, p26_12, p26_13, p26_18, p26_23, nestF_eq, nestR_lit, nsM_lit, nsV_lit, Try.f26, go_sem, ↓reduceIte, Nat.reduceAdd, Nat.reduceSub, Nat.reduceMul, Nat.reduceEqDiff, Nat.reduceLT, Nat.reduceLeDiff, Int.reduceToNat, Int.reduceLE, Int.reduceLT, Int.reduceEq, Int.reduceNeg, reduceCtorEq]
              rw [hnk _ kk (by rw [gK]; simp only [allU_false (p := fun e => !decide (jd (W i e 0).toNat 0 = jd (W i (k + 1) 0).toNat 0)) ek (by simp only [c6]; rfl), Bool.and_false])]
              exact ⟨⟨by kernel_rfl, by kernel_rfl⟩, ⟨by omega, by omega⟩, rfl⟩
            | false =>
              simp only [e4, c6, hm0, hmN, formR_eq, times_eq, p26_12, p26_13, p26_18, p26_23, nestF_eq, nestR_lit, nsM_lit, nsV_lit, Try.f26, go_sem, ↓reduceIte, Nat.reduceAdd, Nat.reduceSub, Nat.reduceMul, Nat.reduceEqDiff, Nat.reduceLT, Nat.reduceLeDiff, Int.reduceToNat, Int.reduceLE, Int.reduceLT, Int.reduceEq, Int.reduceNeg, reduceCtorEq]
              refine ⟨⟨by kernel_rfl, by kernel_rfl⟩, ⟨by omega, by omega⟩, ⟨e + 1, by omega, below h6 (by simp only [c6]; rfl)⟩, by simp only []; omega, ?_⟩
              apply sub_of <;> simp only [wrap_s ek (show k + 1 ≤ 1000000 by omega), go_sem, ↓reduceIte, Nat.reduceAdd, Nat.reduceSub, Nat.reduceMul, Nat.reduceEqDiff, Nat.reduceLT, Nat.reduceLeDiff, Int.reduceToNat, Int.reduceLE, Int.reduceLT, Int.reduceEq, Int.reduceNeg, reduceCtorEq] <;> (try simp)
              all_goals first | exact fun i _ => nestF_bd1 _ _ _ _ _ _ _ _ _ | exact fun i j _ _ => nestF_bd1 _ _ _ _ _ _ _ i j | exact ⟨fun i j _ _ => nestF_bd1 _ _ _ _ _ _ _ i j, fun i _ => nestF_bd1 _ _ _ _ _ _ _ _ _⟩ | exact ⟨fun i _ => nestF_bd1 _ _ _ _ _ _ _ _ _, fun i _ => nestF_bd1 _ _ _ _ _ _ _ _ _⟩ | trace_state
          obtain rfl : e = k + 1 := by omega
          have e4 : decide (((k + 1 : Nat) : Int) < ((k + 1 : Nat) : Int)) = false := decide_eq_false (by omega)
          have hdu : allU (fun e => !decide (jd (W i e 0).toNat 0 = jd (W i (k + 1) 0).toNat 0)) (k + 1) = true := allU_true h6
          have hgk : gK ⟨n, jd, m, A, M, V⟩ q K W i (k + 1) = true := by
            rw [gK]; simp only [hcl, hdu, dA, dT, Nat.add_sub_cancel, dR, Bool.and_self, Bool.or_true, Bool.true_or] <;> rfl
          simp only [e4, formR_eq, times_eq, p26_12, p26_13, p26_18, p26_23, nestF_eq, nestR_lit, nsM_lit, nsV_lit, Try.f26, go_sem, ↓reduceIte, Nat.reduceAdd, Nat.reduceSub, Nat.reduceMul, Nat.reduceEqDiff, Nat.reduceLT, Nat.reduceLeDiff, Int.reduceToNat, Int.reduceLE, Int.reduceLT, Int.reduceEq, Int.reduceNeg, reduceCtorEq]
          refine ⟨⟨k + 1 + 1, by omega, below h4 hgk⟩, by simp only []; omega, ?_⟩
          apply sub_of <;> simp only [wrap_s kk (show K i ≤ 1000000 by omega), go_sem, ↓reduceIte, Nat.reduceAdd, Nat.reduceSub, Nat.reduceMul, Nat.reduceEqDiff, Nat.reduceLT, Nat.reduceLeDiff, Int.reduceToNat, Int.reduceLE, Int.reduceLT, Int.reduceEq, Int.reduceNeg, reduceCtorEq] <;> (try simp)
          all_goals first | exact fun i _ => nestF_bd1 _ _ _ _ _ _ _ _ _ | exact fun i j _ _ => nestF_bd1 _ _ _ _ _ _ _ i j | exact ⟨fun i j _ _ => nestF_bd1 _ _ _ _ _ _ _ i j, fun i _ => nestF_bd1 _ _ _ _ _ _ _ _ _⟩ | exact ⟨fun i _ => nestF_bd1 _ _ _ _ _ _ _ _ _, fun i _ => nestF_bd1 _ _ _ _ _ _ _ _ _⟩ | trace_state
    obtain rfl : k = K i := by omega
    have e2 : decide ((K i : Int) < (K i : Int)) = false := decide_eq_false (by omega)
    simp only [e2, formR_eq, times_eq, p26_12, p26_13, p26_18, p26_23, nestF_eq, nestR_lit, nsM_lit, nsV_lit, Try.f26, go_sem, ↓reduceIte, Nat.reduceAdd, Nat.reduceSub, Nat.reduceMul, Nat.reduceEqDiff, Nat.reduceLT, Nat.reduceLeDiff, Int.reduceToNat, Int.reduceLE, Int.reduceLT, Int.reduceEq, Int.reduceNeg, reduceCtorEq]
    refine ⟨⟨i + 1, by omega, below h3 (by rw [gC, allU_true h4, Bool.and_true]; exact c2)⟩, by simp only []; omega, ?_⟩
    apply sub_of <;> simp only [wrap_s ik (show q ≤ 1000000 by omega), go_sem, ↓reduceIte, Nat.reduceAdd, Nat.reduceSub, Nat.reduceMul, Nat.reduceEqDiff, Nat.reduceLT, Nat.reduceLeDiff, Int.reduceToNat, Int.reduceLE, Int.reduceLT, Int.reduceEq, Int.reduceNeg, reduceCtorEq] <;> (try simp)
    all_goals first | exact fun i _ => nestF_bd1 _ _ _ _ _ _ _ _ _ | exact fun i j _ _ => nestF_bd1 _ _ _ _ _ _ _ i j | exact ⟨fun i j _ _ => nestF_bd1 _ _ _ _ _ _ _ i j, fun i _ => nestF_bd1 _ _ _ _ _ _ _ _ _⟩ | exact ⟨fun i _ => nestF_bd1 _ _ _ _ _ _ _ _ _, fun i _ => nestF_bd1 _ _ _ _ _ _ _ _ _⟩ | trace_state
  obtain rfl : i = q := by omega
  have e1 : decide ((i : Int) < (i : Int)) = false := decide_eq_false (by omega)
  simp only [e1, formR_eq, times_eq, p26_12, p26_13, p26_18, p26_23, nestF_eq, nestR_lit, nsM_lit, nsV_lit, Try.f26, go_sem, ↓reduceIte, Nat.reduceAdd, Nat.reduceSub, Nat.reduceMul, Nat.reduceEqDiff, Nat.reduceLT, Nat.reduceLeDiff, Int.reduceToNat, Int.reduceLE, Int.reduceLT, Int.reduceEq, Int.reduceNeg, reduceCtorEq]
  rw [gdB, allU_true h3]
  simp only [c1]
  rfl
end Go.Eng
end

/- panel: what is asked of a seating, in two ways; the search finds the first one. -/
section
namespace Go.Eng
theorem tmS_mono {K : Nat → Nat} {W : Nat → Nat → Nat → Int} {j : Int} {a : Nat} : ∀ {b : Nat}, a ≤ b → tmS K W j a ≤ tmS K W j b
  | 0, h => by obtain rfl : a = 0 := by omega
               exact Int.le_refl _
  | b + 1, h => by
    rcases Nat.lt_or_ge b a with g | g
    · obtain rfl : a = b + 1 := by omega
      exact Int.le_refl _
    · have h1 := tmS_mono (K := K) (W := W) (j := j) g
      have h2 := (cnL_bd (fun a => W b a 0) j (K b)).1
      simp only [tmS]; omega
theorem erR_z {D : MT} {c : Nat} {K : Nat → Nat} {W : Nat → Nat → Nat → Int} : erR D c K W = 0 ↔ risB (fun a => W c a 0) (K c) = true ∧ (K c : Int) = D.A c 2 ∧ mayB D c (fun a => W c a 0) (K c) = true ∧ dstB D (fun a => W c a 0) (K c) = true ∧ limR D c K W = true := by
  rw [← decide_eq_true_iff (p := (K c : Int) = D.A c 2)]
  cases h1 : risB (fun a => W c a 0) (K c) with
  | false => rw [erR_7 h1]; simp
  | true =>
  cases h2 : decide ((K c : Int) = D.A c 2) with
  | false => rw [erR_10 h1 h2]; simp
  | true =>
  cases h3 : mayB D c (fun a => W c a 0) (K c) with
  | false => rw [erR_11 h1 h2 h3]; simp
  | true =>
  cases h4 : dstB D (fun a => W c a 0) (K c) with
  | false => rw [erR_5 h1 h2 h3 h4]; simp
  | true =>
  cases h5 : limR D c K W with
  | false => rw [erR_12 h1 h2 h3 h4 h5]; simp
  | true => rw [erR_0 h1 h2 h3 h4 h5]; simp
theorem fs0_z {e : Nat → Int} : ∀ {r i : Nat}, (fs0 e r i).2 = 0 ↔ ∀ j, i ≤ j → j < i + r → e j = 0
  | 0, i => by
    simp only [fs0, true_iff]
    exact fun j h1 h2 => absurd h2 (by omega)
  | r + 1, i => by
    rw [fs0]
    split
    · rename_i h
      rw [fs0_z]
      constructor
      · intro g j h1 h2
        rcases Nat.lt_or_ge i j with h3 | h3
        · exact g j h3 (by omega)
        · obtain rfl : j = i := by omega
          exact h
      · exact fun g j h1 h2 => g j (by omega) (by omega)
    · rename_i h
      constructor
      · exact fun g => absurd g h
      · exact fun g => absurd (g i (Nat.le_refl _) (by omega)) h
theorem fs0_bd {e : Nat → Int} : ∀ {r i : Nat}, i ≤ (fs0 e r i).1 ∧ (fs0 e r i).1 ≤ i + r
  | 0, i => ⟨Nat.le_refl _, by simp [fs0]⟩
  | r + 1, i => by
    rw [fs0]
    split
    · have := fs0_bd (e := e) (r := r) (i := i + 1)
      omega
    · simp only []; omega
theorem fs0_n {e : Nat → Int} : ∀ {r i : Nat}, (fs0 e r i).2 = 0 → (fs0 e r i).1 = i + r
  | 0, i, _ => rfl
  | r + 1, i, h => by
    rw [fs0] at h ⊢
    split
    · rename_i g
      rw [if_pos g] at h
      rw [fs0_n h]; omega
    · rename_i g
      rw [if_neg g] at h
      exact absurd h g
theorem chM_bd {D : MT} {q : Nat} {K : Nat → Nat} {W : Nat → Nat → Nat → Int} : (chM D q K W).1 ≤ D.m := by
  unfold chM
  split
  · split
    · rename_i h
      have := (fs0_bd (e := fun i => erR D i K W) (r := q) (i := 0)).2
      have := (foB_iff h).1
      omega
    · exact Nat.zero_le _
  · exact Nat.zero_le _
theorem mt_ok {D : MT} (h : mtB D.n D.jd D.m D.A D.M D.V = true) : D.Ok := by
  obtain ⟨n, jd, m, A, M, V⟩ := D
  exact mtB_ok h
/-- Nobody too often. -/
theorem tm_all {D : MT} (hD : D.Ok) {q : Nat} {K : Nat → Nat} {W : Nat → Nat → Nat → Int} (hW : ∀ i a, i < q → a < K i → 0 ≤ W i a 0 ∧ W i a 0 < (D.n : Int)) (h : ∀ i, i < q → erR D i K W = 0) : ∀ c, c ≤ q → ∀ j, j < D.n → tmS K W (j : Int) c ≤ D.jd j 2
  | 0, _, j, hj => (hD.q j hj).1
  | c + 1, hc, j, hj => by
    have ih := tm_all hD hW h c (by omega)
    have h1 := h c (by omega)
    rw [er_eqF ih (fun a ha => hW c a (by omega) ha)] at h1
    exact erM_limF h1 ih j hj
theorem er_gd {D : MT} (hD : D.Ok) {q : Nat} {K : Nat → Nat} {W : Nat → Nat → Nat → Int} (hW : ∀ i a, i < q → a < K i → 0 ≤ W i a 0 ∧ W i a 0 < (D.n : Int)) : (∀ i, i < q → erR D i K W = 0) ↔ ∀ i, i < q → gC D q K W i = true := by
  have hJ : ∀ i a, i < q → a < K i → ∃ y : Nat, W i a 0 = (y : Int) ∧ y < D.n := fun i a hi ha => by
    have := hW i a hi ha
    exact ⟨(W i a 0).toNat, by omega, by omega⟩
  constructor
  · intro h i hi
    obtain ⟨h1, h2, h3, h4, h5⟩ := erR_z.1 (h i hi)
    rw [gC, decide_eq_true h2, Bool.true_and]
    refine allU_true fun k hk => ?_
    obtain ⟨y, hy, hyn⟩ := hJ i k hi hk
    have m1 := allU_iff.1 h3 k hk
    have m2 := allU_iff.1 h1 k hk
    have m3 := allU_iff.1 h4 k hk
    have m4 := tm_all hD hW h q (Nat.le_refl _) y hyn
    simp only [mayJ, memC, Bool.not_not, Bool.and_eq_true] at m1
    simp only [gK, Bool.and_eq_true]
    refine ⟨⟨m1.1, m2, decide_eq_true ?_⟩, m1.2, m3⟩
    rw [hy, Int.toNat_natCast]; exact m4
  · intro h i hi
    have g := h i hi
    simp only [gC, Bool.and_eq_true, decide_eq_true_eq] at g
    have g2 := allU_iff.1 g.2
    simp only [gK, Bool.and_eq_true] at g2
    refine erR_z.2 ⟨allU_true fun k hk => (g2 k hk).1.2.1, g.1, allU_true fun k hk => ?_, allU_true fun k hk => (g2 k hk).2.2, allU_true fun k hk => ?_⟩
    · simp only [mayJ, memC, Bool.not_not, Bool.and_eq_true]
      exact ⟨(g2 k hk).1.1, (g2 k hk).2.1⟩
    · have m4 := of_decide_eq_true (g2 k hk).1.2.2
      have m5 := tmS_mono (K := K) (W := W) (j := W i k 0) (show i + 1 ≤ q by omega)
      simp only [Bool.not_eq_true', decide_eq_false_iff_not]
      omega
/-- Check says whether a seating is good. -/
theorem ch_gd {D : MT} (hB : mtB D.n D.jd D.m D.A D.M D.V = true) {q : Nat} {K : Nat → Nat} {W : Nat → Nat → Nat → Int} : (chM D q K W).2 = 0 ↔ gdB D q K W = true := by
  have hD := mt_ok hB
  cases hf : foB D.n D.m q K W with
  | false => rw [chM_2 hB hf, gdB, hf]; simp
  | true =>
    obtain ⟨hq, hW⟩ := foB_iff hf
    rw [chM_3 hB hf, gdB, hf, Bool.true_and, allU_iff, ← er_gd hD hW, fs0_z]
    exact ⟨fun h i hi => h i (Nat.zero_le _) (by omega), fun h i _ hi => h i (by omega)⟩
theorem ch_n {D : MT} {q : Nat} {K : Nat → Nat} {W : Nat → Nat → Nat → Int} (h : (chM D q K W).2 = 0) : (chM D q K W).1 = D.m := by
  unfold chM at h ⊢
  split
  · rename_i h1
    rw [if_pos h1] at h
    split
    · rename_i h2
      rw [if_pos h2] at h
      rw [fs0_n h, (foB_iff h2).1]; omega
    · rename_i h2
      rw [if_neg h2] at h
      exact absurd h (by decide)
  · rename_i h1
    rw [if_neg h1] at h
    exact absurd h (by decide)
end Go.Eng
end

/- panel: PanelSeats. -/
section
namespace Go.Eng
open Go Go.RowKit Go.Proofs
set_option maxRecDepth 100000
set_option maxHeartbeats 4000000
attribute [local irreducible] OwnT DefS
theorem stMR_eq (D : MT) : stMR D = stM D := stM_eq fun h j hj => by
  obtain ⟨n, jd, m, A, M, V⟩ := D
  exact ((mtB_ok h).q j hj).1
theorem seatM_len {D : MT} (hD : D.Ok) : ∀ (k : Nat) (T : Nat → Int) (r : (Nat → Int) × List (List Int)), k ≤ D.m → seatM D k T = some r → r.2.length = k ∧ ∀ l ∈ r.2, l.length ≤ 3
  | 0, T, r, _, h => by
    simp only [seatM, Option.some.injEq] at h
    subst h
    exact ⟨rfl, fun l hl => by simp at hl⟩
  | k + 1, T, r, hk, h => by
    simp only [seatM] at h
    split at h
    · rename_i l hl
      split at h
      · rename_i r' hr
        simp only [Option.some.injEq] at h
        subst h
        obtain ⟨h1, h2⟩ := seatM_len hD k _ _ (by omega) hr
        have h3 := rz_length (List.mem_of_find?_eq_some hl)
        have h4 := hD.s (D.m - (k + 1)) (by omega)
        refine ⟨by simp [h1], fun x hx => ?_⟩
        rcases List.mem_cons.1 hx with rfl | hx
        · omega
        · exact h2 x hx
      · cases h
    · cases h
theorem stM_len (D : MT) : (stM D).1.length ≤ 4 ∧ ∀ i, lnF (stM D).1 i ≤ 3 := by
  obtain ⟨n, jd, m, A, M, V⟩ := D
  have h0 : ([] : List (List Int)).length ≤ 4 ∧ ∀ i, lnF [] i ≤ 3 := ⟨by simp, fun i => by simp [lnF]⟩
  unfold stM
  split
  · rename_i h
    have hD := mtB_ok h
    split
    · rename_i r hr
      obtain ⟨h1, h2⟩ := seatM_len hD _ _ _ (Nat.le_refl _) hr
      refine ⟨by rw [h1]; exact hD.m, fun i => ?_⟩
      simp only [lnF]
      by_cases hi : i < r.2.length
      · have e : r.2.getD i [] = r.2[i] := by simp [List.getD, hi]
        rw [e]
        exact h2 _ (List.getElem_mem hi)
      · have e : r.2.getD i [] = [] := by simp [List.getD, hi]
        rw [e]; simp
    · exact h0
  · exact h0
theorem laB_false {n m : Nat} {M : Nat → Nat} (h : laB n m M = false) : n ≤ 10 ∧ m ≤ 6 := by
  simp only [laB, Bool.or_eq_false_iff, decide_eq_false_iff_not] at h
  omega
theorem lgB_false {m : Nat} {M : Nat → Nat} {a b : Int} (h : lgB m M a b = false) : (m : Int) ≤ a ∧ ∀ i, i < m → (M i : Int) ≤ b := by
  simp only [lgB, Bool.not_eq_false', Bool.and_eq_true, decide_eq_true_eq] at h
  exact ⟨h.1, fun i hi => of_decide_eq_true (allU_iff.1 h.2 i hi)⟩
end Go.Eng
end

/- panel: the search finds the first good seating. -/
section
namespace Go.Eng
theorem erM_cg {D : MT} {c : Nat} {T : Nat → Int} {l l' : Nat → Int} {k : Nat} (h : ∀ i, i < k → l i = l' i) : erM D c T l k = erM D c T l' k := by
  have h1 : risB l k = risB l' k := allU_congr fun i hi => by rw [h i hi, h (i - 1) (by omega)]
  have h2 : mayB D c l k = mayB D c l' k := allU_congr fun i hi => by rw [h i hi]
  have h3 : dstB D l k = dstB D l' k := allU_congr fun i hi => allU_congr fun e he => by rw [h i hi, h e (by omega)]
  have h4 : limB D T l k = limB D T l' k := allU_congr fun i hi => by rw [h i hi]
  simp only [erM, h1, h2, h3, h4]
theorem erR_cg {D : MT} {c : Nat} {K K' : Nat → Nat} {W W' : Nat → Nat → Nat → Int} (h : ∀ e, e ≤ c → K e = K' e ∧ ∀ a, W e a 0 = W' e a 0) : erR D c K W = erR D c K' W' := by
  have e1 : (fun a => W c a 0) = fun a => W' c a 0 := funext (h c (Nat.le_refl _)).2
  have e2 : K c = K' c := (h c (Nat.le_refl _)).1
  have h4 : limR D c K W = limR D c K' W' := by
    simp only [limR, e2]
    exact allU_congr fun i hi => by rw [(h c (Nat.le_refl _)).2 i, tmS_congr (fun e he => h e (by omega))]
  simp only [erR, e1, e2, h4]
/-- A list is ahead of another one. -/
def Lx : List Int → List Int → Prop
  | a :: s, b :: t => a < b ∨ a = b ∧ Lx s t
  | _, _ => False
theorem rz_pw {n : Nat} : ∀ (r k : Nat), (rz n r k).Pairwise Lx
  | 0, k => by simp [rz]
  | r + 1, k => by
    rw [rz, List.pairwise_flatMap]
    refine ⟨fun i _ => ?_, ?_⟩
    · rw [List.pairwise_map]
      exact (rz_pw r (i + 1)).imp fun h => .inr ⟨rfl, h⟩
    · refine (List.pairwise_lt_range' (s := k) (n := n - k)).imp fun {a b} hab => ?_
      intro x hx y hy
      simp only [List.mem_map] at hx hy
      obtain ⟨s, _, rfl⟩ := hx
      obtain ⟨t, _, rfl⟩ := hy
      exact .inl (by omega)
theorem rz_mem {n : Nat} : ∀ {l : List Int} {k : Nat}, l.Pairwise (· < ·) → (∀ x ∈ l, (k : Int) ≤ x ∧ x < (n : Int)) → l ∈ rz n l.length k
  | [], k, _, _ => by simp [rz]
  | x :: l, k, h1, h2 => by
    obtain ⟨ha, hb⟩ := List.pairwise_cons.1 h1
    have hx := h2 x (List.mem_cons_self ..)
    have ih := rz_mem (n := n) (l := l) (k := x.toNat + 1) hb fun y hy => by
      have := ha y hy
      have := h2 y (List.mem_cons_of_mem _ hy)
      omega
    rw [List.length_cons, rz, List.mem_flatMap]
    refine ⟨x.toNat, by rw [List.mem_range'_1]; omega, List.mem_map.2 ⟨l, ih, ?_⟩⟩
    rw [Int.toNat_of_nonneg (by omega)]
theorem find_pw {R : List Int → List Int → Prop} {ok : List Int → Bool} {a b : List Int} : ∀ {l : List (List Int)}, l.Pairwise R → l.find? ok = some a → b ∈ l → ok b = true → a = b ∨ R a b
  | x :: l, hp, hf, hb, ho => by
    obtain ⟨h1, h2⟩ := List.pairwise_cons.1 hp
    rw [List.find?_cons] at hf
    split at hf
    · simp only [Option.some.injEq] at hf
      subst hf
      rcases List.mem_cons.1 hb with h | h
      · exact .inl h.symm
      · exact .inr (h1 b h)
    · rename_i hx
      rcases List.mem_cons.1 hb with h | h
      · subst h; rw [ho] at hx; cases hx
      · exact find_pw h2 hf h ho
theorem ahL_lx : ∀ (a b : List Int) {f g : Nat → Int} {k : Nat}, a.length = b.length → (∀ i, i < a.length → f (k + i) = b.getD i 0 ∧ g (k + i) = a.getD i 0) → Lx a b → ahL f g a.length k = some false
  | [], b, f, g, k, _, _, h => by cases b <;> exact h.elim
  | x :: s, [], f, g, k, hl, _, _ => by simp at hl
  | x :: s, y :: t, f, g, k, hl, hfg, h => by
    have h0 := hfg 0 (by simp)
    simp only [Nat.add_zero, List.getD_cons_zero] at h0
    rw [List.length_cons, ahL, h0.1, h0.2]
    rcases h with h | ⟨h, h2⟩
    · rw [if_neg (by omega), decide_eq_false (by omega)]
    · rw [if_pos h.symm]
      refine ahL_lx s t (by simpa using hl) (fun i hi => ?_) h2
      have := hfg (i + 1) (by simp; omega)
      simp only [List.getD_cons_succ] at this
      rw [show k + 1 + i = k + (i + 1) by omega]
      exact this
theorem ahL_eq {f g : Nat → Int} : ∀ {r k : Nat}, (∀ i, k ≤ i → i < k + r → f i = g i) → ahL f g r k = none
  | 0, k, _ => rfl
  | r + 1, k, h => by
    rw [ahL, if_pos (h k (Nat.le_refl _) (by omega))]
    exact ahL_eq fun i h1 h2 => h i (by omega) (by omega)
theorem ris_pw {l : Nat → Int} {k : Nat} (h : risB l k = true) : (rwL l k).Pairwise (· < ·) := by
  rw [rwL, List.pairwise_map]
  refine List.Pairwise.imp_of_mem ?_ (List.pairwise_lt_range (n := k))
  intro a b _ hb hab
  exact ris_lt h b a hab (by simpa using hb)
/-- A seating, all of whose contests are good: the search finds one, and that one is not behind it. -/
theorem seat_good {D : MT} (hD : D.Ok) {K : Nat → Nat} {W : Nat → Nat → Nat → Int} (hW : ∀ i a, i < D.m → a < K i → 0 ≤ W i a 0 ∧ W i a 0 < (D.n : Int)) (hE : ∀ i, i < D.m → erR D i K W = 0) :
    ∀ (k c : Nat), c + k = D.m → ∃ r, seatM D k (fun j => tmS K W (j : Int) c) = some r ∧ ∀ S : List (List Int), S.length = c → ahS K W (lnF (S ++ r.2)) (vlF (S ++ r.2)) k c = false
  | 0, c, _ => ⟨_, rfl, fun _ _ => rfl⟩
  | k + 1, c, hc => by
    have hcm : c < D.m := by omega
    have hc2 : D.m - (k + 1) = c := by omega
    obtain ⟨r1, hr1, ho1⟩ := seat_good hD hW hE k (c + 1) (by omega)
    have e0 := hE c hcm
    have hz := erR_z.1 e0
    have hT := tm_all hD hW hE c (by omega)
    rw [er_eqF hT (fun a ha => hW c a hcm ha)] at e0
    obtain ⟨P, hP⟩ : ∃ P, rwL (fun a => W c a 0) (K c) = P := ⟨_, rfl⟩
    have hPl : P.length = K c := by rw [← hP, rwL_len]
    have hPg : ∀ i, i < K c → P.getD i 0 = W c i 0 := fun i hi => by rw [← hP, rwL_get hi]
    have hs : (D.A c 2).toNat = P.length := by rw [hPl]; omega
    have hPm : P ∈ rz D.n (D.A c 2).toNat 0 := by
      rw [hs]
      refine rz_mem (by rw [← hP]; exact ris_pw hz.1) fun x hx => ?_
      rw [← hP] at hx
      simp only [rwL, List.mem_map, List.mem_range] at hx
      obtain ⟨a, ha, rfl⟩ := hx
      have := hW c a hcm ha
      omega
    have hPE : erM D c (fun j => tmS K W (j : Int) c) (fun i => P.getD i 0) P.length = 0 := by rw [hPl, erM_cg hPg]; exact e0
    have hPT : addT (fun j => tmS K W (j : Int) c) P = fun (j : Nat) => tmS K W (j : Int) (c + 1) := by
      funext j
      rw [← hP, rwL_addT, tmS]
    have hPok : (decide (erM D c (fun j => tmS K W (j : Int) c) (fun i => P.getD i 0) P.length = 0) && (seatM D k (addT (fun j => tmS K W (j : Int) c) P)).isSome) = true := by
      rw [hPE, hPT, hr1]; rfl
    simp only [seatM, hc2]
    obtain ⟨l, hl⟩ : ∃ l, ((rz D.n (D.A c 2).toNat 0).find? fun l => decide (erM D c (fun j => tmS K W (j : Int) c) (fun i => l.getD i 0) l.length = 0) && (seatM D k (addT (fun j => tmS K W (j : Int) c) l)).isSome) = some l := by
      cases hf : ((rz D.n (D.A c 2).toNat 0).find? fun l => decide (erM D c (fun j => tmS K W (j : Int) c) (fun i => l.getD i 0) l.length = 0) && (seatM D k (addT (fun j => tmS K W (j : Int) c) l)).isSome) with
      | some l => exact ⟨l, rfl⟩
      | none =>
        have := List.find?_eq_none.1 hf P hPm
        exact absurd hPok this
    rw [hl]
    have hok := List.find?_some hl
    simp only [Bool.and_eq_true] at hok
    obtain ⟨r, hr⟩ := Option.isSome_iff_exists.1 hok.2
    simp only [hr]
    have hll := rz_length (List.mem_of_find?_eq_some hl)
    refine ⟨_, rfl, fun S hS => ?_⟩
    have hn : lnF (S ++ l :: r.2) c = K c := by
      have : (S ++ l :: r.2).getD c [] = l := by simp [List.getD, ← hS]
      rw [lnF, this, hll, hs, hPl]
    have hv : ∀ a, vlF (S ++ l :: r.2) c a 0 = l.getD a 0 := fun a => by
      have : (S ++ l :: r.2).getD c [] = l := by simp [List.getD, ← hS]
      rw [vlF, this]
    simp only [ahS, hn, Nat.min_self]
    rcases find_pw (rz_pw _ _) hl hPm hPok with h | h
    · subst h
      rw [ahL_eq (fun i _ hi => by rw [hv, hPg i (by omega)])]
      rw [hPT, hr1] at hr
      simp only [Option.some.injEq] at hr
      subst hr
      have := ho1 (S ++ [l]) (by simp [hS])
      simpa using this
    · have hlk : l.length = K c := by rw [hll, hs, hPl]
      have := ahL_lx l P (f := fun a => W c a 0) (g := fun a => vlF (S ++ l :: r.2) c a 0) (k := 0) (by rw [hlk, hPl]) (fun i hi => by rw [Nat.zero_add]; exact ⟨(hPg i (by omega)).symm, hv i⟩) h
      rw [hlk] at this
      rw [this]
theorem st_good {D : MT} (hB : mtB D.n D.jd D.m D.A D.M D.V = true) {q : Nat} {K : Nat → Nat} {W : Nat → Nat → Nat → Int} (h : gdB D q K W = true) : (stM D).2 = 0 ∧ (stM D).1.length = D.m ∧ ahS K W (lnF (stM D).1) (vlF (stM D).1) D.m 0 = false := by
  have hD := mt_ok hB
  simp only [gdB, Bool.and_eq_true] at h
  obtain ⟨hq, hW⟩ := foB_iff h.1
  subst hq
  have hE := (er_gd hD hW).2 (allU_iff.1 h.2)
  obtain ⟨r, hr, ho⟩ := seat_good hD hW hE D.m 0 (by omega)
  have hz : (fun j : Nat => tmS K W (j : Int) 0) = fun _ => (0 : Int) := rfl
  rw [hz] at hr
  have hs : stM D = (r.2, 0) := by rw [stM, if_pos hB, hr]
  rw [hs]
  exact ⟨rfl, (seatM_len hD _ _ _ (Nat.le_refl _) hr).1, ho [] rfl⟩
end Go.Eng
end

/- panel: what the search finds is good; more judges, fewer contests. -/
section
namespace Go.Eng
theorem seatR_ok {D : MT} : ∀ (k : Nat) (S R : List (List Int)), seatR D k S = some R → ∃ X, R = S ++ X ∧ X.length = k ∧ (∀ l ∈ X, numOk D.n l) ∧ ∀ c, S.length ≤ c → c < S.length + k → erR D c (lnF R) (vlF R) = 0
  | 0, S, R, h => by
    simp only [seatR, Option.some.injEq] at h
    subst h
    exact ⟨[], by simp, rfl, fun l hl => by simp at hl, fun c h1 h2 => absurd h2 (by omega)⟩
  | k + 1, S, R, h => by
    simp only [seatR] at h
    obtain ⟨l, hl, h2⟩ := List.exists_of_findSome?_eq_some h
    split at h2
    · rename_i hE
      obtain ⟨X, rfl, hX, hn, hc⟩ := seatR_ok k (S ++ [l]) R h2
      refine ⟨l :: X, by simp, by simp [hX], fun x hx => ?_, fun c h3 h4 => ?_⟩
      · rcases List.mem_cons.1 hx with rfl | hx
        · exact rz_num hl
        · exact hn x hx
      · rcases Nat.lt_or_ge S.length c with h5 | h5
        · exact hc c (by simp; omega) (by simp; omega)
        · obtain rfl : c = S.length := by omega
          rw [← hE]
          refine erR_cg fun e he => ?_
          have : (S ++ [l] ++ X).getD e [] = (S ++ [l]).getD e [] := by
            simp only [List.getD]
            rw [List.getElem?_append_left (by simp; omega)]
          simp only [lnF, vlF, this, and_self, implies_true]
    · cases h2
/-- What Seat returns is good. -/
theorem st_sound {D : MT} (h : (stM D).2 = 0) : mtB D.n D.jd D.m D.A D.M D.V = true ∧ (stM D).1.length = D.m ∧ gdB D D.m (lnF (stM D).1) (vlF (stM D).1) = true := by
  rw [← stMR_eq] at h ⊢
  unfold stMR at h ⊢
  cases hB : mtB D.n D.jd D.m D.A D.M D.V with
  | false => simp [hB] at h
  | true =>
    rw [hB] at h
    simp only [if_true] at h ⊢
    cases hr : seatR D D.m [] with
    | none => simp [hr] at h
    | some R =>
      simp only []
      obtain ⟨X, hX, hl, hn, hc⟩ := seatR_ok D.m [] R hr
      rw [List.nil_append] at hX
      subst hX
      have hW : ∀ i a, i < D.m → a < lnF R i → 0 ≤ vlF R i a 0 ∧ vlF R i a 0 < (D.n : Int) := fun i a hi ha => by
        have e : R.getD i [] = R[i] := by simp [List.getD, hl, hi]
        simp only [lnF, vlF, e] at ha ⊢
        have e2 : R[i].getD a 0 = R[i][a] := by simp [List.getD, ha]
        rw [e2]
        exact hn _ (List.getElem_mem _) _ (List.getElem_mem ha)
      refine ⟨by first | rfl | trivial | exact hB, hl, ?_⟩
      rw [gdB, allU_iff.2 ((er_gd (mt_ok hB) hW).1 fun i hi => hc i (Nat.zero_le _) (by simpa using hi)), Bool.and_true, foB, decide_eq_true rfl, Bool.and_true]
      refine allU_true fun i hi => allU_true fun a ha => in3_iff.2 ?_
      have := hW i a hi ha
      omega
theorem st_err (D : MT) : (stM D).2 = 0 ∨ (stM D).2 = 4 ∧ (stM D).1 = [] ∨ (stM D).2 = 1 ∧ (stM D).1 = [] := by
  unfold stM
  split
  · split
    · exact .inl rfl
    · exact .inr (.inl ⟨rfl, rfl⟩)
  · exact .inr (.inr ⟨rfl, rfl⟩)
theorem st_mt {D : MT} : (stM D).2 = 1 ↔ mtB D.n D.jd D.m D.A D.M D.V = false := by
  unfold stM
  split
  · rename_i h
    rw [h]
    split <;> simp
  · rename_i h
    simp [h]
/-- Too few seated: not good. -/
theorem gd_nil {D : MT} {q : Nat} {K : Nat → Nat} {W : Nat → Nat → Nat → Int} (h : gdB D q K W = true) : q = D.m := by
  simp only [gdB, Bool.and_eq_true] at h
  exact (foB_iff h.1).1
end Go.Eng
end

/- panel: PanelOwn. -/
section
namespace Go.Eng
open Go Go.RowKit Go.Proofs
set_option maxRecDepth 100000
set_option maxHeartbeats 4000000
attribute [local irreducible] OwnT DefS
theorem nest_snoc {L : List (List Int)} {l : List Int} {v : Nat} : ∀ i j, i < L.length + 1 → j < 1 → nestF 0 1 (fun _ _ => 0) (lnF (L ++ [l])) (vlF (L ++ [l])) i j = catF L.length (nestF 0 1 (fun _ _ => 0) (lnF L) (vlF L)) (oneF [.vec 1 v]) i j ∨ (catF L.length (nestF 0 1 (fun _ _ => 0) (lnF L) (vlF L)) (oneF [.vec 1 v]) i j = .vec 1 v ∧ nestF 0 1 (fun _ _ => 0) (lnF (L ++ [l])) (vlF (L ++ [l])) i j = .row l.length 1 (fun i _ => .int .i64 (l.getD i 0))) := fun i j hi hj => by
  obtain rfl : j = 0 := by omega
  rcases Nat.lt_or_ge i L.length with h | h
  · refine .inl ?_
    simp only [catF, if_pos h, nestF, if_true, (lnF_lt h).1]
    congr 1
    funext a b
    simp only [vlF]
    have := (lnF_lt (l := l) h).2 a
    simp only [vlF] at this
    rw [this]
  · obtain rfl : i = L.length := by omega
    refine .inr ⟨by simp [catF, oneF, nth], ?_⟩
    have : (L ++ [l]).getD L.length [] = l := by simp [List.getD]
    simp only [nestF, if_true, lnF, vlF, this]
theorem li_snoc {l : List Int} {x : Int} : ∀ i, i < l.length + 1 → catF l.length (fun i _ => SV.int .i64 (l[i]?.getD 0)) (oneF [.int .i64 x]) i 0 = .int .i64 ((l ++ [x])[i]?.getD 0) := fun i hi => by
  simp only [catF]
  split
  · rename_i h; simp [List.getElem?_append_left h]
  · obtain rfl : i = l.length := by omega
    simp [oneF, nth]
theorem lnF_le {S : List (List Int)} {l : List Int} {k : Nat} (h : ∀ i, lnF S i ≤ k) (hl : l.length ≤ k) (i : Nat) : lnF (S ++ [l]) i ≤ k := by
  rcases Nat.lt_trichotomy i S.length with g | g | g
  · rw [(lnF_lt g).1]; exact h i
  · rw [g, lnF_at.1]; exact hl
  · have : (S ++ [l]).getD i [] = [] := by
      rw [List.getD, List.getElem?_eq_none (by simp; omega)]; rfl
    rw [lnF, this]; exact Nat.zero_le _
def panelOwnBase : BaseF := fun args => match args with
  | [.agg [.row n sz_jd f_jd, .row m sz_A f_A], .row b sz_bb f_bb, .row q sz_B f_B] => some ((sz_jd = 3 ∧ IntR n 3 f_jd) ∧ (sz_A = 3 ∧ NestR m 3 0 1 f_A) ∧ (sz_bb = 1 ∧ IntK .u8 b 1 f_bb) ∧ (sz_B = 1 ∧ NestR q 1 0 1 f_B), .bool true)
  | _ => none
theorem panelOwn_base : Base Try.prog 5 panelOwnBase := by
  intro args p v hq hp
  unfold panelOwnBase at hq
  split at hq
  rotate_left
  · cases hq
  rename_i n sz_jd f_jd m sz_A f_A b sz_bb f_bb q sz_B f_B
  cases hq
  obtain ⟨⟨rfl, i_jd⟩, ⟨rfl, i_A⟩, ⟨rfl, i_bb⟩, ⟨rfl, i_B⟩⟩ := hp
  refine base_of (C := cxn [] [(14, SeatBase)] [] [(11, largeBase), (12, longerBase), (13, awakeBase), (16, checkBase), (25, meetingRBase), (26, goodBase), (27, aheadBase)] [] none) (cxn_ok ⟨Seat_base, trivial⟩ trivial ⟨large_base, longer_base, awake_base, check_base, meetingR_base, good_base, ahead_base, trivial⟩) rfl (g := 5) (fn := Try.f5)
    (args' := [.agg [.row n 3 (rowF .i64 (ivf f_jd)), .row m 3 (nestF 0 1 (nsA f_A) (nsM 0 f_A) (nsV 0 f_A))], .row b 1 (rowF .u8 (ivf f_bb)), .row q 1 (nestF 0 1 (nsA f_B) (nsM 0 f_B) (nsV 0 f_B))]) (fn_5) rfl 1000 (by
    simp only [BdL, Bd, and_self, and_true, true_and]
    exact ⟨⟨(fun i j hi hj => by rw [i_jd i j hi hj]; trivial), (fun i j hi hj => nest_bd i_A i j hi hj)⟩, (fun i j hi hj => by rw [i_bb i j hi hj]; trivial), (fun i j hi hj => nest_bd i_B i j hi hj)⟩) ⟨SameD.agg ⟨SameD.int i_jd, SameD.nest i_A, trivial⟩, SameD.intK i_bb, SameD.nest i_B, trivial⟩ ?_
  generalize ivf f_jd = jd
  generalize nsA f_A = A
  generalize nsM 0 f_A = M
  generalize nsV 0 f_A = V
  generalize ivf f_bb = bb
  generalize nsA f_B = B
  generalize nsM 0 f_B = K
  generalize nsV 0 f_B = W
  simp only [rowF_eq]
  cases c1 : laB n m M with
  | true =>
    simp only [c1, large_eq, longer_eq, awake_eq, check_eq, meetingR_eq, good_eq, ahead_eq, Seat_eq, nestF_eq, nestR_lit, nsM_lit, nsV_lit, stR, stF_eq, Try.f5, go_sem, ↓reduceIte, Nat.reduceAdd, Nat.reduceSub, Nat.reduceMul, Nat.reduceEqDiff, Nat.reduceLT, Nat.reduceLeDiff, Int.reduceToNat, Int.reduceLE, Int.reduceLT, Int.reduceEq, Int.reduceNeg, reduceCtorEq]
  | false =>
  by_cases c0 : b = 0
  · have d0 : decide ((b : Int) = 0) = true := decide_eq_true (by omega)
    simp only [c1, d0, large_eq, longer_eq, awake_eq, check_eq, meetingR_eq, good_eq, ahead_eq, Seat_eq, nestF_eq, nestR_lit, nsM_lit, nsV_lit, stR, stF_eq, Try.f5, go_sem, ↓reduceIte, Nat.reduceAdd, Nat.reduceSub, Nat.reduceMul, Nat.reduceEqDiff, Nat.reduceLT, Nat.reduceLeDiff, Int.reduceToNat, Int.reduceLE, Int.reduceLT, Int.reduceEq, Int.reduceNeg, reduceCtorEq]
  have d0 : decide ((b : Int) = 0) = false := decide_eq_false (by omega)
  cases c2 : lgB q K 8 8 with
  | true =>
    simp only [c1, d0, c2, large_eq, longer_eq, awake_eq, check_eq, meetingR_eq, good_eq, ahead_eq, Seat_eq, nestF_eq, nestR_lit, nsM_lit, nsV_lit, stR, stF_eq, Try.f5, go_sem, ↓reduceIte, Nat.reduceAdd, Nat.reduceSub, Nat.reduceMul, Nat.reduceEqDiff, Nat.reduceLT, Nat.reduceLeDiff, Int.reduceToNat, Int.reduceLE, Int.reduceLT, Int.reduceEq, Int.reduceNeg, reduceCtorEq]
  | false =>
  obtain ⟨b1, b2⟩ := laB_false c1
  obtain ⟨b3, b4⟩ := lgB_false c2
  have b5 := stM_len ⟨n, jd, m, nsA (nestF 0 1 A M V), M, V⟩
  have b6 : ∀ i, i < q → K i ≤ 1000 := fun i hi => by have := b4 i hi; omega
  obtain ⟨D, hD⟩ : ∃ D : MT, D = ⟨n, jd, m, nsA (nestF 0 1 A M V), M, V⟩ := ⟨_, rfl⟩
  have hDn : D.n = n := by rw [hD]
  have hDm : D.m = m := by rw [hD]
  have hmt : mtB n jd m (nsA (nestF 0 1 A M V)) M V = mtB D.n D.jd D.m D.A D.M D.V := by rw [hD]
  obtain ⟨S, e, hS⟩ : ∃ S e, stM D = (S, e) := ⟨_, _, rfl⟩
  have g1 := st_err D
  have g2 := st_mt (D := D)
  have g3 := st_sound (D := D)
  have g4 := fun hB q K W => st_good (D := D) hB (q := q) (K := K) (W := W)
  simp only [← hD, hS] at b5 g1 g2 g3 g4
  cases c3 : mtB D.n D.jd D.m D.A D.M D.V with
  | false =>
    have he := g2.2 c3
    subst he
    obtain rfl : S = [] := by simpa using g1
    simp only [c1, d0, c2, ← hD, hS, large_eq, longer_eq, awake_eq, check_eq, meetingR_eq, good_eq, ahead_eq, Seat_eq, nestF_eq, nestR_lit, nsM_lit, nsV_lit, stR, stF_eq, Try.f5, go_sem, ↓reduceIte, Nat.reduceAdd, Nat.reduceSub, Nat.reduceMul, Nat.reduceEqDiff, Nat.reduceLT, Nat.reduceLeDiff, Int.reduceToNat, Int.reduceLE, Int.reduceLT, Int.reduceEq, Int.reduceNeg, reduceCtorEq]
    refine ⟨⟨by omega, by omega⟩, ?_⟩
    simp [spl]
  | true =>
  have hOk := mt_ok c3
  have hM16 := hOk.M
  have hn8 := hOk.n
  have hm4 := hOk.m
  rw [hDn] at hn8
  rw [hDm] at hM16 hm4
  have hDM : D.M = M := by rw [hD]
  rw [hDM] at hM16
  have hMb : ∀ i, i < m → M i ≤ 1000000 := fun i hi => by have := hM16 i hi; omega
  have e1 : decide (e = 1) = false := decide_eq_false fun h => by rw [g2.1 h] at c3; cases c3
  have key : (decide (e = 0) = true ∧ decide (e = 4) = false ∧ gdB D S.length (lnF S) (vlF S) = true) ∨ (decide (e = 0) = false ∧ decide (e = 4) = true ∧ decide ((S.length : Int) = 0) = true ∧ (gdB D S.length (lnF S) (vlF S) = false ∨ decide (0 < (m : Int)) = false ∧ gdB D S.length (lnF S) (vlF S) = true)) := by
    rcases g1 with h | ⟨h, h2⟩ | ⟨h, h2⟩
    · obtain ⟨_, h3, h4⟩ := g3 h
      rw [h3]
      exact .inl ⟨decide_eq_true h, decide_eq_false (by omega), h4⟩
    · refine .inr ⟨decide_eq_false (by omega), decide_eq_true h, by rw [h2]; rfl, ?_⟩
      cases hg : gdB D S.length (lnF S) (vlF S) with
      | false => exact .inl rfl
      | true =>
        have := gd_nil hg
        refine .inr ⟨decide_eq_false ?_, rfl⟩
        have h9 : S.length = 0 := by rw [h2]; rfl
        omega
    · rw [h] at e1; simp at e1
  have t1 : (!true == true) = false := rfl
  have t2 : (!false == false) = false := rfl
  have t3 : (!false == true) = true := rfl
  have hend : ∀ (q : Nat) K W, gdB D q K W = true → decide (e = 0) = true ∧ ahB q K W S.length (lnF S) (vlF S) = false := fun q K W hg => by
    obtain ⟨h1, h2, h3⟩ := g4 c3 q K W hg
    refine ⟨decide_eq_true h1, ?_⟩
    rw [ahB, h2, gd_nil hg, Nat.min_self]; exact h3
  clear g1 g2 g3 g4
  have key2 : ∀ P : Prop, (∀ z1 z2 z3 z4 z5 : Bool, decide (e = 0) = z1 → decide (e = 4) = z2 → gdB D S.length (lnF S) (vlF S) = z3 → decide ((S.length : Int) = 0) = z4 → decide (0 < (m : Int)) = z5 → (z1 = true ∧ z2 = false ∧ z3 = true ∨ z1 = false ∧ z2 = true ∧ z3 = false ∧ z4 = true ∨ z1 = false ∧ z2 = true ∧ z3 = true ∧ z4 = true ∧ z5 = false) → P) → P := fun P a => by
    refine a _ _ _ _ _ rfl rfl rfl rfl rfl ?_
    rcases key with ⟨h1, h2, h3⟩ | ⟨h1, h2, h3, h4 | ⟨h4, h5⟩⟩
    · exact .inl ⟨h1, h2, h3⟩
    · exact .inr (.inl ⟨h1, h2, h4, h3⟩)
    · exact .inr (.inr ⟨h1, h2, h5, h3, h4⟩)
  apply key2
  intro z1 z2 z3 z4 z5 f1 f2 f3 f4 f5 hz
  rcases hz with ⟨rfl, rfl, rfl⟩ | ⟨rfl, rfl, rfl, rfl⟩ | ⟨rfl, rfl, rfl, rfl, rfl⟩
  all_goals simp only [c1, d0, c2, c3, f1, f2, f3, f4, f5, t1, t2, t3, ← hD, hS, hmt, e1, large_eq, longer_eq, awake_eq, check_eq, meetingR_eq, good_eq, ahead_eq, Seat_eq, nestF_eq, nestR_lit, nsM_lit, nsV_lit, stR, stF_eq, Try.f5, go_sem, ↓reduceIte, Nat.reduceAdd, Nat.reduceSub, Nat.reduceMul, Nat.reduceEqDiff, Nat.reduceLT, Nat.reduceLeDiff, Int.reduceToNat, Int.reduceLE, Int.reduceLT, Int.reduceEq, Int.reduceNeg, reduceCtorEq]
  all_goals refine ⟨⟨by omega, by omega⟩, ⟨by omega, by omega⟩, ⟨by omega, by omega, fun i _ => by have := b5.2 i; omega, hMb⟩, ?_⟩
  all_goals
    refine loop_ofH { x : Nat × Nat × Nat × List (List Int) // x.1 ≤ m ∧ x.2.1 ≤ 10 * x.1 ∧ x.2.2.2.length = x.1 ∧ ∀ i, lnF x.2.2.2 i ≤ 10 } (fun x => [(11, .int .i64 (x.1.1 : Int)), (10, .vec 0 x.1.2.2.1), (9, .int .i64 (x.1.2.1 : Int)), (8, .int .i64 e), (7, .row S.length 1 (nestF 0 1 (fun _ _ => 0) (lnF S) (vlF S))), (3, .ptr 0 0), (2, .row q 1 (nestF 0 1 B K W)), (1, .row b 1 fun i j => .int .u8 (bb i j))]) (fun h x => ⟨h.blks, [.live x.1.2.2.1 37 1 x.1.2.2.2.length (nestF 0 1 (fun _ _ => 0) (lnF x.1.2.2.2) (vlF x.1.2.2.2))]⟩) (fun x => m - x.1.1) (fun _ => ⟨rfl, rfl⟩) ⟨(0, 0, 0, []), by simp only []; omega, by simp only []; omega, rfl, fun i => by simp [lnF]⟩ (by (apply sub_of <;> simp only [go_sem, ↓reduceIte, Nat.reduceAdd, Nat.reduceSub, Nat.reduceMul, Nat.reduceEqDiff, Nat.reduceLT, Nat.reduceLeDiff, Int.reduceToNat, Int.reduceLE, Int.reduceLT, Int.reduceEq, Int.reduceNeg, reduceCtorEq] <;> (try simp [catF])); all_goals (repeat' first | assumption | exact nestF_bd _ _ _ _ _ _ _ _ _ | exact nestF_bd1 _ _ _ _ _ _ _ _ _ | exact fun _ _ => nestF_bd1 _ _ _ _ _ _ _ _ _ | exact fun _ _ _ _ => nestF_bd1 _ _ _ _ _ _ _ _ _ | exact fun x hx => catF_one _ hx | refine And.intro ?_ ?_)) ?_
    rintro ⟨⟨i, z, v, L⟩, hi, hz, hL, hLk⟩
    simp only at hi hz hL hLk ⊢
    by_cases ik : i < m
    · have w1 : decide ((i : Int) < (m : Int)) = true := decide_eq_true (by omega)
      simp only [w1, large_eq, longer_eq, awake_eq, check_eq, meetingR_eq, good_eq, ahead_eq, Seat_eq, nestF_eq, nestR_lit, nsM_lit, nsV_lit, stR, stF_eq, Try.f5, go_sem, ↓reduceIte, Nat.reduceAdd, Nat.reduceSub, Nat.reduceMul, Nat.reduceEqDiff, Nat.reduceLT, Nat.reduceLeDiff, Int.reduceToNat, Int.reduceLE, Int.reduceLT, Int.reduceEq, Int.reduceNeg, reduceCtorEq]
      refine loop_ofH { x : Nat × Nat × Nat × List Int // x.1 ≤ n ∧ x.2.1 ≤ 10 * i + x.1 ∧ x.2.2.2.length ≤ x.1 } (fun x => [(13, .int .i64 (x.1.1 : Int)), (12, .vec 1 x.1.2.2.1), (11, .int .i64 (i : Int)), (10, .vec 0 v), (9, .int .i64 (x.1.2.1 : Int)), (8, .int .i64 e), (7, .row S.length 1 (nestF 0 1 (fun _ _ => 0) (lnF S) (vlF S))), (3, .ptr 0 0), (2, .row q 1 (nestF 0 1 B K W)), (1, .row b 1 fun i j => .int .u8 (bb i j))]) (fun h x => ⟨h.blks, [.live v 37 1 L.length (nestF 0 1 (fun _ _ => 0) (lnF L) (vlF L)), liV x.1.2.2.1 x.1.2.2.2]⟩) (fun x => n - x.1.1) (fun _ => ⟨rfl, rfl⟩) ⟨(0, z, 0, []), by simp only []; omega, by simp only []; omega, Nat.le_refl _⟩ (by simp only [liV]; (apply sub_of <;> simp only [go_sem, ↓reduceIte, Nat.reduceAdd, Nat.reduceSub, Nat.reduceMul, Nat.reduceEqDiff, Nat.reduceLT, Nat.reduceLeDiff, Int.reduceToNat, Int.reduceLE, Int.reduceLT, Int.reduceEq, Int.reduceNeg, reduceCtorEq] <;> (try simp [catF])); all_goals (repeat' first | assumption | exact nestF_bd _ _ _ _ _ _ _ _ _ | exact nestF_bd1 _ _ _ _ _ _ _ _ _ | exact fun _ _ => nestF_bd1 _ _ _ _ _ _ _ _ _ | exact fun _ _ _ _ => nestF_bd1 _ _ _ _ _ _ _ _ _ | exact fun x hx => catF_one _ hx | refine And.intro ?_ ?_)) ?_
      rintro ⟨⟨j, z2, v2, l⟩, hj, hz2, hl⟩
      simp only [liV] at hj hz2 hl ⊢
      cases w2 : decide ((j : Int) < (n : Int)) with
      | false =>
        simp only [w2, large_eq, longer_eq, awake_eq, check_eq, meetingR_eq, good_eq, ahead_eq, Seat_eq, nestF_eq, nestR_lit, nsM_lit, nsV_lit, stR, stF_eq, Try.f5, go_sem, ↓reduceIte, Nat.reduceAdd, Nat.reduceSub, Nat.reduceMul, Nat.reduceEqDiff, Nat.reduceLT, Nat.reduceLeDiff, Int.reduceToNat, Int.reduceLE, Int.reduceLT, Int.reduceEq, Int.reduceNeg, reduceCtorEq]
        refine ⟨⟨by omega, by omega⟩, ⟨(i + 1, z2, v + 1, L ++ [l]), by simp only []; omega, by simp only []; omega, by simp [hL], lnF_le hLk (by omega)⟩, by simp only []; omega, ?_⟩
        refine sub_fz 1 0 (nestF 0 1 (fun _ _ => 0) (lnF (L ++ [l])) (vlF (L ++ [l]))) rfl rfl (by decide) nest_snoc ?_
        apply sub_of <;> simp only [wrap_s ik (show m ≤ 1000000 by omega), go_sem, ↓reduceIte, Nat.reduceAdd, Nat.reduceSub, Nat.reduceMul, Nat.reduceEqDiff, Nat.reduceLT, Nat.reduceLeDiff, Int.reduceToNat, Int.reduceLE, Int.reduceLT, Int.reduceEq, Int.reduceNeg, reduceCtorEq] <;> (try simp)
        all_goals (repeat' first | assumption | exact nestF_bd _ _ _ _ _ _ _ _ _ | exact nestF_bd1 _ _ _ _ _ _ _ _ _ | exact fun _ _ => nestF_bd1 _ _ _ _ _ _ _ _ _ | exact fun _ _ _ _ => nestF_bd1 _ _ _ _ _ _ _ _ _ | exact fun x hx => catF_one _ hx | refine And.intro ?_ ?_)
      | true =>
      cases w3 : decide ((l.length : Int) < A i 2) with
      | false =>
        simp only [w2, w3, large_eq, longer_eq, awake_eq, check_eq, meetingR_eq, good_eq, ahead_eq, Seat_eq, nestF_eq, nestR_lit, nsM_lit, nsV_lit, stR, stF_eq, Try.f5, go_sem, ↓reduceIte, Nat.reduceAdd, Nat.reduceSub, Nat.reduceMul, Nat.reduceEqDiff, Nat.reduceLT, Nat.reduceLeDiff, Int.reduceToNat, Int.reduceLE, Int.reduceLT, Int.reduceEq, Int.reduceNeg, reduceCtorEq]
        refine ⟨⟨by omega, by omega⟩, ⟨by omega, by omega⟩, ⟨(i + 1, z2, v + 1, L ++ [l]), by simp only []; omega, by simp only []; omega, by simp [hL], lnF_le hLk (by omega)⟩, by simp only []; omega, ?_⟩
        refine sub_fz 1 0 (nestF 0 1 (fun _ _ => 0) (lnF (L ++ [l])) (vlF (L ++ [l]))) rfl rfl (by decide) nest_snoc ?_
        apply sub_of <;> simp only [wrap_s ik (show m ≤ 1000000 by omega), go_sem, ↓reduceIte, Nat.reduceAdd, Nat.reduceSub, Nat.reduceMul, Nat.reduceEqDiff, Nat.reduceLT, Nat.reduceLeDiff, Int.reduceToNat, Int.reduceLE, Int.reduceLT, Int.reduceEq, Int.reduceNeg, reduceCtorEq] <;> (try simp)
        all_goals (repeat' first | assumption | exact nestF_bd _ _ _ _ _ _ _ _ _ | exact nestF_bd1 _ _ _ _ _ _ _ _ _ | exact fun _ _ => nestF_bd1 _ _ _ _ _ _ _ _ _ | exact fun _ _ _ _ => nestF_bd1 _ _ _ _ _ _ _ _ _ | exact fun x hx => catF_one _ hx | refine And.intro ?_ ?_)
      | true =>
      have jn : j < n := by have := of_decide_eq_true w2; omega
      have hr : (z2 : Int).tmod (b : Int) = ((z2 % b : Nat) : Int) := rfl
      have hrb : z2 % b < b := Nat.mod_lt _ (by omega)
      simp only [w2, w3, hr, large_eq, longer_eq, awake_eq, check_eq, meetingR_eq, good_eq, ahead_eq, Seat_eq, nestF_eq, nestR_lit, nsM_lit, nsV_lit, stR, stF_eq, Try.f5, go_sem, ↓reduceIte, Nat.reduceAdd, Nat.reduceSub, Nat.reduceMul, Nat.reduceEqDiff, Nat.reduceLT, Nat.reduceLeDiff, Int.reduceToNat, Int.reduceLE, Int.reduceLT, Int.reduceEq, Int.reduceNeg, reduceCtorEq]
      refine ⟨⟨by omega, by omega⟩, by omega, ⟨by omega, by omega⟩, by decide, spl_mk (fun _ => ?_) (fun _ => ?_)⟩
      · refine ⟨⟨by omega, by omega⟩, ⟨(j + 1, z2 + 1, v2 + 1, l ++ [(j : Int)]), by simp only []; omega, by simp only []; omega, by simp; omega⟩, by simp only []; omega, ?_⟩
        apply sub_of <;> simp only [wrap_s jn (show n ≤ 1000000 by omega), wrap_s (show z2 < 1000 by omega) (show 1000 ≤ 1000000 by omega), liV, go_sem, ↓reduceIte, Nat.reduceAdd, Nat.reduceSub, Nat.reduceMul, Nat.reduceEqDiff, Nat.reduceLT, Nat.reduceLeDiff, Int.reduceToNat, Int.reduceLE, Int.reduceLT, Int.reduceEq, Int.reduceNeg, reduceCtorEq] <;> (try simp)
        all_goals first | exact li_snoc | skip
        all_goals (repeat' first | assumption | exact nestF_bd _ _ _ _ _ _ _ _ _ | exact nestF_bd1 _ _ _ _ _ _ _ _ _ | exact fun _ _ => nestF_bd1 _ _ _ _ _ _ _ _ _ | exact fun _ _ _ _ => nestF_bd1 _ _ _ _ _ _ _ _ _ | exact fun x hx => catF_one _ hx | refine And.intro ?_ ?_)
      · refine ⟨⟨(j + 1, z2 + 1, v2, l), by simp only []; omega, by simp only []; omega, by simp; omega⟩, by simp only []; omega, ?_⟩
        apply sub_of <;> simp only [wrap_s jn (show n ≤ 1000000 by omega), wrap_s (show z2 < 1000 by omega) (show 1000 ≤ 1000000 by omega), liV, go_sem, ↓reduceIte, Nat.reduceAdd, Nat.reduceSub, Nat.reduceMul, Nat.reduceEqDiff, Nat.reduceLT, Nat.reduceLeDiff, Int.reduceToNat, Int.reduceLE, Int.reduceLT, Int.reduceEq, Int.reduceNeg, reduceCtorEq] <;> (try simp)
        all_goals first | exact li_snoc | skip
        all_goals (repeat' first | assumption | exact nestF_bd _ _ _ _ _ _ _ _ _ | exact nestF_bd1 _ _ _ _ _ _ _ _ _ | exact fun _ _ => nestF_bd1 _ _ _ _ _ _ _ _ _ | exact fun _ _ _ _ => nestF_bd1 _ _ _ _ _ _ _ _ _ | exact fun x hx => catF_one _ hx | refine And.intro ?_ ?_)
    obtain rfl : i = m := by omega
    have w1 : decide ((i : Int) < (i : Int)) = false := decide_eq_false (by omega)
    simp only [w1, large_eq, longer_eq, awake_eq, check_eq, meetingR_eq, good_eq, ahead_eq, Seat_eq, nestF_eq, nestR_lit, nsM_lit, nsV_lit, stR, stF_eq, Try.f5, go_sem, ↓reduceIte, Nat.reduceAdd, Nat.reduceSub, Nat.reduceMul, Nat.reduceEqDiff, Nat.reduceLT, Nat.reduceLeDiff, Int.reduceToNat, Int.reduceLE, Int.reduceLT, Int.reduceEq, Int.reduceNeg, reduceCtorEq]
    refine loop_ofH { k : Nat // k ≤ 2 } (fun k => [(14, .int .i64 (k.1 : Int)), (10, .vec 0 v), (8, .int .i64 e), (7, .row S.length 1 (nestF 0 1 (fun _ _ => 0) (lnF S) (vlF S))), (3, .ptr 0 0), (2, .row q 1 (nestF 0 1 B K W))]) (fun h _ => h) (fun k => 2 - k.1) (fun _ => ⟨rfl, rfl⟩) ⟨0, by omega⟩ (by (apply sub_of <;> simp only [go_sem, ↓reduceIte, Nat.reduceAdd, Nat.reduceSub, Nat.reduceMul, Nat.reduceEqDiff, Nat.reduceLT, Nat.reduceLeDiff, Int.reduceToNat, Int.reduceLE, Int.reduceLT, Int.reduceEq, Int.reduceNeg, reduceCtorEq] <;> (try simp [catF])); all_goals (repeat' first | assumption | exact nestF_bd _ _ _ _ _ _ _ _ _ | exact nestF_bd1 _ _ _ _ _ _ _ _ _ | exact fun _ _ => nestF_bd1 _ _ _ _ _ _ _ _ _ | exact fun _ _ _ _ => nestF_bd1 _ _ _ _ _ _ _ _ _ | exact fun x hx => catF_one _ hx | refine And.intro ?_ ?_)) ?_
    rintro ⟨k, hk⟩
    have hb : ∀ q' K' W', gdB D q' K' W' = decide ((chM D q' K' W').2 = 0) := fun q' K' W' => by
      rw [Bool.eq_iff_iff, decide_eq_true_eq]
      exact (ch_gd c3).symm
    rcases (by omega : k = 0 ∨ k = 1 ∨ k = 2) with rfl | rfl | rfl
    · have w2 : decide (((0 : Nat) : Int) < 2) = true := rfl
      have w3 : decide (((0 : Nat) : Int) = 1) = false := rfl
      have hf : (fun i j => if j = 0 then SV.row (lnF L i) 1 (fun a b => .int .i64 (vlF L i a b)) else .int .i64 0) = nestF 0 1 (fun _ _ => 0) (lnF L) (vlF L) := rfl
      obtain ⟨C, hC⟩ : ∃ C, chM D L.length (lnF L) (vlF L) = C := ⟨_, rfl⟩
      have hC1 := chM_bd (D := D) (q := L.length) (K := lnF L) (W := vlF L)
      have hC2 := ch_n (D := D) (q := L.length) (K := lnF L) (W := vlF L)
      have hC3 := hend L.length (lnF L) (vlF L)
      rw [hC, hDm] at hC1 hC2
      rw [hb, hC] at hC3
      simp only [w2, w3, ← hD, hb, large_eq, longer_eq, awake_eq, check_eq, meetingR_eq, good_eq, ahead_eq, Seat_eq, nestF_eq, nestR_lit, nsM_lit, nsV_lit, stR, stF_eq, Try.f5, go_sem, ↓reduceIte, Nat.reduceAdd, Nat.reduceSub, Nat.reduceMul, Nat.reduceEqDiff, Nat.reduceLT, Nat.reduceLeDiff, Int.reduceToNat, Int.reduceLE, Int.reduceLT, Int.reduceEq, Int.reduceNeg, reduceCtorEq]
      rw [hf]
      simp only [nestR_lit, nsM_lit, nsV_lit, hC]
      refine ⟨⟨trivial, by omega, by omega, by omega, fun a _ => by have := hLk a; omega⟩, ⟨trivial, by omega, by omega, fun a _ => by have := hLk a; omega, hMb⟩, ?_⟩
      cases cz : decide (C.2 = 0) with
      | false =>
        have l1 : decide ((C.1 : Int) < 0) = false := decide_eq_false (by omega)
        have l2 : decide ((i : Int) < (C.1 : Int)) = false := decide_eq_false (by omega)
        simp only [l1, l2, t2, go_sem, ↓reduceIte, Nat.reduceAdd, Nat.reduceSub, Nat.reduceMul, Nat.reduceEqDiff, Nat.reduceLT, Nat.reduceLeDiff, Int.reduceToNat, Int.reduceLE, Int.reduceLT, Int.reduceEq, Int.reduceNeg, reduceCtorEq]
        refine ⟨⟨1, by omega⟩, by simp only []; omega, ?_⟩
        apply sub_of <;> simp only [go_sem, ↓reduceIte, Nat.reduceAdd, Nat.reduceSub, Nat.reduceMul, Nat.reduceEqDiff, Nat.reduceLT, Nat.reduceLeDiff, Int.reduceToNat, Int.reduceLE, Int.reduceLT, Int.reduceEq, Int.reduceNeg, reduceCtorEq] <;> (try simp) <;> (try exact wrap_id (by omega) (by omega))
        all_goals (repeat' first | assumption | exact nestF_bd _ _ _ _ _ _ _ _ _ | exact nestF_bd1 _ _ _ _ _ _ _ _ _ | exact fun _ _ => nestF_bd1 _ _ _ _ _ _ _ _ _ | exact fun _ _ _ _ => nestF_bd1 _ _ _ _ _ _ _ _ _ | exact fun x hx => catF_one _ hx | refine And.intro ?_ ?_)
      | true =>
        have l1 : decide ((C.1 : Int) < 0) = false := decide_eq_false (by omega)
        have l2 : decide ((i : Int) < (C.1 : Int)) = false := decide_eq_false (by omega)
        have l3 : decide ((C.1 : Int) = (i : Int)) = true := decide_eq_true (by rw [hC2 (of_decide_eq_true cz)])
        obtain ⟨l4, l5⟩ := hC3 cz
        simp only [l1, l2, l3, l4, l5, t1, go_sem, ↓reduceIte, Nat.reduceAdd, Nat.reduceSub, Nat.reduceMul, Nat.reduceEqDiff, Nat.reduceLT, Nat.reduceLeDiff, Int.reduceToNat, Int.reduceLE, Int.reduceLT, Int.reduceEq, Int.reduceNeg, reduceCtorEq]
        refine ⟨⟨by omega, fun a _ => by have := hLk a; omega, by omega⟩, ⟨1, by omega⟩, by simp only []; omega, ?_⟩
        apply sub_of <;> simp only [go_sem, ↓reduceIte, Nat.reduceAdd, Nat.reduceSub, Nat.reduceMul, Nat.reduceEqDiff, Nat.reduceLT, Nat.reduceLeDiff, Int.reduceToNat, Int.reduceLE, Int.reduceLT, Int.reduceEq, Int.reduceNeg, reduceCtorEq] <;> (try simp) <;> (try exact wrap_id (by omega) (by omega))
        all_goals (repeat' first | assumption | exact nestF_bd _ _ _ _ _ _ _ _ _ | exact nestF_bd1 _ _ _ _ _ _ _ _ _ | exact fun _ _ => nestF_bd1 _ _ _ _ _ _ _ _ _ | exact fun _ _ _ _ => nestF_bd1 _ _ _ _ _ _ _ _ _ | exact fun x hx => catF_one _ hx | refine And.intro ?_ ?_)
    · have w2 : decide (((1 : Nat) : Int) < 2) = true := rfl
      have w3 : decide (((1 : Nat) : Int) = 1) = true := rfl
      obtain ⟨C, hC⟩ : ∃ C, chM D q K W = C := ⟨_, rfl⟩
      have hC1 := chM_bd (D := D) (q := q) (K := K) (W := W)
      have hC2 := ch_n (D := D) (q := q) (K := K) (W := W)
      have hC3 := hend q K W
      rw [hC, hDm] at hC1 hC2
      rw [hb, hC] at hC3
      simp only [w2, w3, ← hD, hb, hC, large_eq, longer_eq, awake_eq, check_eq, meetingR_eq, good_eq, ahead_eq, Seat_eq, nestF_eq, nestR_lit, nsM_lit, nsV_lit, stR, stF_eq, Try.f5, go_sem, ↓reduceIte, Nat.reduceAdd, Nat.reduceSub, Nat.reduceMul, Nat.reduceEqDiff, Nat.reduceLT, Nat.reduceLeDiff, Int.reduceToNat, Int.reduceLE, Int.reduceLT, Int.reduceEq, Int.reduceNeg, reduceCtorEq]
      refine ⟨⟨by omega, by omega, by omega, b6⟩, ⟨by omega, by omega, b6, hMb⟩, ?_⟩
      have l1 : decide ((C.1 : Int) < 0) = false := decide_eq_false (by omega)
      have l2 : decide ((i : Int) < (C.1 : Int)) = false := decide_eq_false (by omega)
      cases cz : decide (C.2 = 0) with
      | false =>
        simp only [l1, l2, t2, go_sem, ↓reduceIte, Nat.reduceAdd, Nat.reduceSub, Nat.reduceMul, Nat.reduceEqDiff, Nat.reduceLT, Nat.reduceLeDiff, Int.reduceToNat, Int.reduceLE, Int.reduceLT, Int.reduceEq, Int.reduceNeg, reduceCtorEq]
        refine ⟨⟨2, by omega⟩, by simp only []; omega, ?_⟩
        apply sub_of <;> simp only [go_sem, ↓reduceIte, Nat.reduceAdd, Nat.reduceSub, Nat.reduceMul, Nat.reduceEqDiff, Nat.reduceLT, Nat.reduceLeDiff, Int.reduceToNat, Int.reduceLE, Int.reduceLT, Int.reduceEq, Int.reduceNeg, reduceCtorEq] <;> (try simp) <;> (try exact wrap_id (by omega) (by omega))
        all_goals (repeat' first | assumption | exact nestF_bd _ _ _ _ _ _ _ _ _ | exact nestF_bd1 _ _ _ _ _ _ _ _ _ | exact fun _ _ => nestF_bd1 _ _ _ _ _ _ _ _ _ | exact fun _ _ _ _ => nestF_bd1 _ _ _ _ _ _ _ _ _ | exact fun x hx => catF_one _ hx | refine And.intro ?_ ?_)
      | true =>
        have l3 : decide ((C.1 : Int) = (i : Int)) = true := decide_eq_true (by rw [hC2 (of_decide_eq_true cz)])
        obtain ⟨l4, l5⟩ := hC3 cz
        simp only [l1, l2, l3, l4, l5, t1, go_sem, ↓reduceIte, Nat.reduceAdd, Nat.reduceSub, Nat.reduceMul, Nat.reduceEqDiff, Nat.reduceLT, Nat.reduceLeDiff, Int.reduceToNat, Int.reduceLE, Int.reduceLT, Int.reduceEq, Int.reduceNeg, reduceCtorEq]
        refine ⟨⟨by omega, fun a ha => by have := b6 a ha; omega, by omega⟩, ⟨2, by omega⟩, by simp only []; omega, ?_⟩
        apply sub_of <;> simp only [go_sem, ↓reduceIte, Nat.reduceAdd, Nat.reduceSub, Nat.reduceMul, Nat.reduceEqDiff, Nat.reduceLT, Nat.reduceLeDiff, Int.reduceToNat, Int.reduceLE, Int.reduceLT, Int.reduceEq, Int.reduceNeg, reduceCtorEq] <;> (try simp) <;> (try exact wrap_id (by omega) (by omega))
        all_goals (repeat' first | assumption | exact nestF_bd _ _ _ _ _ _ _ _ _ | exact nestF_bd1 _ _ _ _ _ _ _ _ _ | exact fun _ _ => nestF_bd1 _ _ _ _ _ _ _ _ _ | exact fun _ _ _ _ => nestF_bd1 _ _ _ _ _ _ _ _ _ | exact fun x hx => catF_one _ hx | refine And.intro ?_ ?_)
    · have w2 : decide (((2 : Nat) : Int) < 2) = false := rfl
      simp only [w2, large_eq, longer_eq, awake_eq, check_eq, meetingR_eq, good_eq, ahead_eq, Seat_eq, nestF_eq, nestR_lit, nsM_lit, nsV_lit, stR, stF_eq, Try.f5, go_sem, ↓reduceIte, Nat.reduceAdd, Nat.reduceSub, Nat.reduceMul, Nat.reduceEqDiff, Nat.reduceLT, Nat.reduceLeDiff, Int.reduceToNat, Int.reduceLE, Int.reduceLT, Int.reduceEq, Int.reduceNeg, reduceCtorEq]
end Go.Eng
end

/-
  PanelOwn: for every input the law returns true, and each argument reads afterwards as it read before. No condition.
-/
section
namespace Go.Proofs.Ytnccjojfpkjihaa.panelOwn
open Go.ChangeShapes Go.WideShapes Go.ChangeAt Go.RowKit Go.Eng
set_option linter.unusedVariables false
theorem own : ownKnob Try.prog.godebug = none := by kernel_rfl
theorem laid : laidOutB Try.prog = true := by kernel_rfl
set_option maxRecDepth 100000 in
theorem lifted (os : Os) (started : os.Started) (H : Type) (enc : TypeId × Value → H) :
    ReturnsInHanded {} Try.checked os 5 .any (Rows.panelOwnSpec.pre6 enc Try.prog Try.f5 Rows.panelOwnRow.domain false) (Rows.panelOwnSpec.post enc Try.prog Try.f5 false true false false) := by
  refine returnsInHanded_of_change (C := Try.checked) own started (by kernel_rfl) Try.func5
    (ChangeSpec.witness6 (enc := enc) (C := Try.checked) false ⟨#[], #[.agg #[.slice none 0 0, .slice none 0 0], .slice none 0 0, .slice none 0 0], []⟩ 8 (by kernel_rfl) (by kernel_rfl) (by kernel_rfl) (by kernel_rfl)) ?_
  intro W base args ds gs before hval0 hW hcnd _
  have hval : ∀ (j : Nat) t v, Try.f5.params[j]? = some t → args[j]? = some v → Value.okWide Try.prog W .any base t v := hval0
  have hW' := hW
  obtain ⟨p, q, hA0, hV, rfl, hfz, hnd⟩ := hW
  have hA : DataW.TrodAll enc Try.prog W 0 (fun _ => true) true Try.f5.params.toList args.toList ds p := hA0
  rw [Try.params5] at hA hval
  obtain ⟨v0, vs0, d0, ds0, p0, q0, hargs, rfl, rfl, h0, r0⟩ := trodAll_cons hA
  obtain ⟨v1, vs1, d1, ds1, p1, q1, rfl, rfl, rfl, h1, r1⟩ := trodAll_cons r0
  obtain ⟨v2, vs2, d2, ds2, p2, q2, rfl, rfl, rfl, h2, r2⟩ := trodAll_cons r1
  obtain ⟨rfl, rfl, rfl⟩ := trodAll_nil r2
  obtain rfl : args = #[v0, v1, v2] := by cases args; simp_all
  obtain ⟨rfl, rfl⟩ := trodVars_none hV
  obtain ⟨xs0, e0, l0, t0⟩ := arg_agg (shs := [.sl [.int .i64, .int .i64, .int .i64], .sl [.sl [.int .i64], .int .i64, .int .i64]]) Try.underlying25 (by kernel_rfl) (hval 0 25 v0 rfl rfl) h0
  obtain ⟨a0_0, a0_1, rfl⟩ : ∃ a0_0 a0_1, xs0 = [a0_0, a0_1] := by
    match xs0, l0 with
    | [a0_0, a0_1], _ => exact ⟨a0_0, a0_1, rfl⟩
  obtain ⟨n0_0, f0_0, rfl, m0_0, s0_0⟩ := typ_sl (t0 0 _ _ rfl rfl)
  obtain ⟨i0_0, b0_0⟩ := intK_of_typ (k := .i64) (c := 3) rfl s0_0
  obtain ⟨n0_1, f0_1, rfl, m0_1, s0_1⟩ := typ_sl (t0 1 _ _ rfl rfl)
  obtain ⟨i0_1, b0_1, c0_1, g0_1⟩ := nestR_typ (sz := 3) (k := 0) (s := 1) (by intro j hj hk; rcases (show j = 0 ∨ j = 1 ∨ j = 2 by omega) with rfl | rfl | rfl <;> first | rfl | exact absurd rfl hk) rfl s0_1
  obtain ⟨n1, f1, e1, m1, t1⟩ := arg_row (s := [.int .u8]) Try.underlying46 (by kernel_rfl) (hval 1 46 v1 rfl rfl) h1
  obtain ⟨i1, b1⟩ := intK_of_typ (k := .u8) (c := 1) rfl t1
  obtain ⟨n2, f2, e2, m2, t2⟩ := arg_row (s := [.sl [.int .i64]]) Try.underlying26 (by kernel_rfl) (hval 2 26 v2 rfl rfl) h2
  obtain ⟨i2, b2, c2, g2⟩ := nestR_typ (sz := 1) (k := 0) (s := 1) (by intro j hj hk; rcases (show j = 0 by omega) with rfl <;> first | rfl | exact absurd rfl hk) rfl t2
  have hd : DenL Env.emp W [.agg [.row n0_0 3 f0_0, .row n0_1 3 f0_1], .row n1 1 f1, .row n2 1 f2] [v0, v1, v2] := ⟨e0, e1, e2, trivial⟩
  refine (law_calls panelOwn_base (args := [.agg [.row n0_0 3 f0_0, .row n0_1 3 f0_1], .row n1 1 f1, .row n2 1 f2]) rfl ⟨⟨rfl, fun i j hi hj => i0_0 i j hi hj⟩, ⟨rfl, i0_1⟩, ⟨rfl, fun i j hi hj => i1 i j hi hj⟩, ⟨rfl, i2⟩⟩ (denA_of hd)).mono fun e W' ⟨he, hb⟩ => ?_
  subst he
  exact ⟨_, rfl, law_end laid rfl Try.underlying4 (by kernel_rfl) rfl hW' rfl hb⟩
theorem over : Rows.panelOwnRow.holds Try.pinned (OpenSpec.ofChange Rows.panelOwnSpec) :=
  OpenClaim.holds_of_wide 5 Try.f5 rfl rfl rfl rfl rfl rfl rfl ⟨rfl, rfl, rfl, rfl, rfl⟩ rfl rfl rfl rfl rfl (by kernel_rfl) Try.func5 (by kernel_rfl)
    (of_decide_eq_true (by kernel_rfl)) (by unfold Func.isWrapper; first | (rw [if_pos (by decide +kernel)]; kernel_rfl) | (rw [if_neg (by decide +kernel)]; exact ⟨rfl, rfl⟩))
    (fun os started H enc _ => lifted os started H enc)
end Go.Proofs.Ytnccjojfpkjihaa.panelOwn
namespace Go.Proofs.Ytnccjojfpkjihaa
/-- The given statement. -/
theorem panelOwn_holds : Rows.PanelOwnSaid := panelOwn.over
#print axioms panelOwn_holds
end Go.Proofs.Ytnccjojfpkjihaa
end
