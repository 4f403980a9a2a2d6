/-
  A part of the symbolic machine, of its soundness, and of what functions compute. No condition.
-/
import Derived.Test.YthidhbamcmgloaaX4
set_option linter.unusedSimpArgs false
set_option linter.unusedVariables false
/- press: the reference's validity. -/
section
namespace Go.Eng
open Go Go.RowKit Go.Proofs
set_option maxRecDepth 100000
set_option maxHeartbeats 4000000
attribute [local irreducible] OwnT DefS
def pressRBase : BaseF := fun args => match args with
  | [.agg [.row m sz_v f_v, .int .i64 st, .int .i64 le, .int .i64 oi, .int .i64 on]] => some ((sz_v = 2 ∧ IntR m 2 f_v) ∧ (m ≤ 1000000), .bool (in3 oi 1 12 && (in3 le 1 oi && (in3 on 0 oi && (in3 st 0 10000 && (in3 (m : Int) 1 2 && allU (fun i => lvB ((ivf f_v) i)) m))))))
  | _ => none
theorem pressR_eq (m : Nat) (sz_v : Nat) (f_v : Nat → Nat → SV) (st : Int) (le : Int) (oi : Int) (on : Int) : pressRBase [.agg [.row m sz_v f_v, .int .i64 st, .int .i64 le, .int .i64 oi, .int .i64 on]] = some ((sz_v = 2 ∧ IntR m 2 f_v) ∧ (m ≤ 1000000), .bool (in3 oi 1 12 && (in3 le 1 oi && (in3 on 0 oi && (in3 st 0 10000 && (in3 (m : Int) 1 2 && allU (fun i => lvB ((ivf f_v) i)) m)))))) := rfl
theorem pressR_base : Base Try.prog 48 pressRBase := by
  intro args p v hq hp
  unfold pressRBase at hq
  split at hq
  rotate_left
  · cases hq
  rename_i m sz_v f_v st le oi on
  cases hq
  obtain ⟨⟨rfl, i_v⟩, pre⟩ := hp
  refine base_of (C := cx [] [] [(47, inBase)] [] none) (cx_ok trivial ⟨in_base, trivial⟩) rfl (g := 48) (fn := Try.f48)
    (args' := [.agg [.row m 2 (rowF .i64 (ivf f_v)), .int .i64 st, .int .i64 le, .int .i64 oi, .int .i64 on]]) (fn_48) rfl 1000 (by
    simp only [BdL, Bd, and_self, and_true, true_and]
    exact (fun i j hi hj => by rw [i_v i j hi hj]; trivial)) ⟨SameD.agg ⟨SameD.int i_v, SameD.rfl' _, SameD.rfl' _, SameD.rfl' _, SameD.rfl' _, trivial⟩, trivial⟩ ?_
  generalize ivf f_v = v at *
  simp only [rowF_eq]
  simp only [in_eq, Try.f48, go_sem, ↓reduceIte, Nat.reduceAdd, Nat.reduceSub, Nat.reduceMul, Nat.reduceEqDiff, Nat.reduceLT, Nat.reduceLeDiff, Int.reduceToNat, Int.reduceLE, Int.reduceLT, Int.reduceEq, Int.reduceNeg, reduceCtorEq]
  refine loop_ofH { i : Nat // i ≤ m ∧ i ≤ 3 ∧ ∀ j, j < i → (fun i => lvB (v i)) j = true } (fun i => [(3, .int .i64 (i.1 : Int)), (1, .ptr 0 0)]) (fun h _ => h) (fun i => m - i.1) (fun _ => ⟨rfl, rfl⟩) ⟨0, by omega, by omega, by omega⟩ (by (apply sub_of <;> simp only [go_sem, ↓reduceIte, Nat.reduceAdd, Nat.reduceSub, Nat.reduceMul, Nat.reduceEqDiff, Nat.reduceLT, Nat.reduceLeDiff, Int.reduceToNat, Int.reduceLE, Int.reduceLT, Int.reduceEq, Int.reduceNeg, reduceCtorEq] <;> (try simp [catF]) <;> (try exact fun j _ => Bd_nth (by simp [BdL, Bd]) j) <;> (try exact bd_setL (by simp [bdAs, BdL, Bd])) <;> (try exact nestF_bd _ _ _ _ _ _ _ _ _))) ?_
  rintro ⟨i, hi, hi3, h3⟩
  simp only [in_eq, Try.f48, go_sem, ↓reduceIte, Nat.reduceAdd, Nat.reduceSub, Nat.reduceMul, Nat.reduceEqDiff, Nat.reduceLT, Nat.reduceLeDiff, Int.reduceToNat, Int.reduceLE, Int.reduceLT, Int.reduceEq, Int.reduceNeg, reduceCtorEq]
  have hw3 : IntKind.i64.wrap ((i : Int) + 1) = ((i + 1 : Nat) : Int) := by rw [wrap_id (by omega) (by omega)]; omega
  have bad : i < m → lvB (v i) = false → SV.bool false = .bool (in3 oi 1 12 && (in3 le 1 oi && (in3 on 0 oi && (in3 st 0 10000 && (in3 (m : Int) 1 2 && allU (fun i => lvB (v i)) m))))) := fun h1 h2 => by
    rw [allU_false (p := fun i => lvB (v i)) h1 h2]; simp
  refine ⟨fun e1 => ⟨fun e2 => ?_, fun e2 => ?_⟩, fun e1 => ?_⟩
  · simp only [decide_eq_true_eq] at e1 e2
    refine ⟨⟨by omega, by omega⟩, fun e3 => bad (by omega) (by simp only [Bool.not_eq_true'] at e3; simp [lvB, e3]), fun e3 => ⟨⟨by omega, by omega⟩, fun e4 => bad (by omega) (by simp only [Bool.not_eq_true'] at e4; simp [lvB, e4]), fun e4 => ⟨⟨i + 1, by omega, by omega, below h3 ?_⟩, by simp only []; omega, ?_⟩⟩⟩
    · simp only [Bool.not_eq_false'] at e3 e4; simp [lvB, e3, e4]
    · apply sub_of <;> simp only [hw3, go_sem, ↓reduceIte, Nat.reduceAdd, Nat.reduceSub, Nat.reduceMul, Nat.reduceEqDiff, Nat.reduceLT, Nat.reduceLeDiff, Int.reduceToNat, Int.reduceLE, Int.reduceLT, Int.reduceEq, Int.reduceNeg, reduceCtorEq] <;> (try simp) <;> (try exact fun j _ => Bd_nth (by simp [BdL, Bd]) j) <;> (try exact bd_setL (by simp [bdAs, BdL, Bd])) <;> (try exact nestF_bd _ _ _ _ _ _ _ _ _)
  · simp only [decide_eq_true_eq, decide_eq_false_iff_not] at e1 e2
    have hm : in3 (m : Int) 1 2 = false := by simp [in3]; omega
    exact spl_f hm (by simp [hm])
  · simp only [decide_eq_false_iff_not] at e1
    obtain rfl : i = m := by omega
    rw [allU_true h3]
    exact ⟨fun a1 => ⟨fun a2 => ⟨fun a3 => ⟨fun a4 => by simp [a1, a2, a3, a4], fun a4 => by simp [a4]⟩, fun a3 => by simp [a3]⟩, fun a2 => by simp [a2]⟩, fun a1 => by simp [a1]⟩
def pressesBase : BaseF := fun args => match args with
  | [.agg [.row n sz_A f_A, .row h sz_nd f_nd, .row q sz_pr f_pr, .int .i64 st, .int .i64 ro, .int .i64 pk, .int .i64 fr]] => some ((sz_A = 5 ∧ NestR n 5 0 2 f_A) ∧ (sz_nd = 1 ∧ IntR h 1 f_nd) ∧ (sz_pr = 1 ∧ IntR q 1 f_pr) ∧ ((n ≤ 1000000 ∧ ∀ i, i < n → (nsM 0 f_A) i ≤ 1000000) ∧ h ≤ 1000000 ∧ q ≤ 1000000), .bool (psB n (nsA f_A) (nsM 0 f_A) (nsV 0 f_A) h (ivf f_nd) q (ivf f_pr) st ro pk fr))
  | _ => none
theorem presses_eq (n : Nat) (sz_A : Nat) (f_A : Nat → Nat → SV) (h : Nat) (sz_nd : Nat) (f_nd : Nat → Nat → SV) (q : Nat) (sz_pr : Nat) (f_pr : Nat → Nat → SV) (st : Int) (ro : Int) (pk : Int) (fr : Int) : pressesBase [.agg [.row n sz_A f_A, .row h sz_nd f_nd, .row q sz_pr f_pr, .int .i64 st, .int .i64 ro, .int .i64 pk, .int .i64 fr]] = some ((sz_A = 5 ∧ NestR n 5 0 2 f_A) ∧ (sz_nd = 1 ∧ IntR h 1 f_nd) ∧ (sz_pr = 1 ∧ IntR q 1 f_pr) ∧ ((n ≤ 1000000 ∧ ∀ i, i < n → (nsM 0 f_A) i ≤ 1000000) ∧ h ≤ 1000000 ∧ q ≤ 1000000), .bool (psB n (nsA f_A) (nsM 0 f_A) (nsV 0 f_A) h (ivf f_nd) q (ivf f_pr) st ro pk fr)) := rfl
theorem presses_base : Base Try.prog 15 pressesBase := by
  intro args p v hq hp
  unfold pressesBase at hq
  split at hq
  rotate_left
  · cases hq
  rename_i n sz_A f_A h sz_nd f_nd q sz_pr f_pr st ro pk fr
  cases hq
  obtain ⟨⟨rfl, i_A⟩, ⟨rfl, i_nd⟩, ⟨rfl, i_pr⟩, pre⟩ := hp
  refine base_of (C := cx [] [] [(47, inBase), (48, pressRBase)] [] none) (cx_ok trivial ⟨in_base, pressR_base, trivial⟩) rfl (g := 15) (fn := Try.f15)
    (args' := [.agg [.row n 5 (nestF 0 2 (nsA f_A) (nsM 0 f_A) (nsV 0 f_A)), .row h 1 (rowF .i64 (ivf f_nd)), .row q 1 (rowF .i64 (ivf f_pr)), .int .i64 st, .int .i64 ro, .int .i64 pk, .int .i64 fr]]) (fn_15) rfl 1000 (by
    simp only [BdL, Bd, and_self, and_true, true_and]
    exact ⟨(fun i j hi hj => nest_bd i_A i j hi hj), (fun i j hi hj => by rw [i_nd i j hi hj]; trivial), (fun i j hi hj => by rw [i_pr i j hi hj]; trivial)⟩) ⟨SameD.agg ⟨SameD.nest i_A, SameD.int i_nd, SameD.int i_pr, SameD.rfl' _, SameD.rfl' _, SameD.rfl' _, SameD.rfl' _, trivial⟩, trivial⟩ ?_
  generalize nsA f_A = A at *
  generalize nsM 0 f_A = M at *
  generalize nsV 0 f_A = V at *
  generalize ivf f_nd = nd at *
  generalize ivf f_pr = pr at *
  simp only [rowF_eq]
  simp only [in_eq, pressR_eq, nestF_eq, nestR_lit, nsM_lit, nsV_lit, prB_ns, Try.f15, go_sem, ↓reduceIte, Nat.reduceAdd, Nat.reduceSub, Nat.reduceMul, Nat.reduceEqDiff, Nat.reduceLT, Nat.reduceLeDiff, Int.reduceToNat, Int.reduceLE, Int.reduceLT, Int.reduceEq, Int.reduceNeg, reduceCtorEq]
  obtain ⟨⟨pn, pM⟩, ph, pq⟩ := pre
  refine ⟨fun a1 => by simp only [Bool.not_eq_true'] at a1; simp [psB, a1], fun a1 => ⟨fun a2 => by simp only [Bool.not_eq_true'] at a2; simp only [psB, a2, Bool.false_and], fun a2 => ⟨fun a3 => ?_, fun a3 => ?_⟩⟩⟩
  · have : decide ((h : Int) ≤ 12) = false := by simp only [decide_eq_true_eq] at a3; exact decide_eq_false (by omega)
    simp only [psB, this, Bool.false_and, Bool.and_false]
  simp only [Bool.not_eq_false', decide_eq_true_eq] at a1 a2
  simp only [decide_eq_false_iff_not] at a3
  obtain rfl : h = q := by omega
  refine loop_ofH { i : Nat // i ≤ n ∧ ∀ j, j < i → (fun i => prB (A i) (M i) (V i)) j = true } (fun i => [(3, .int .i64 (i.1 : Int)), (1, .ptr 0 0)]) (fun h _ => h) (fun i => n - i.1) (fun _ => ⟨rfl, rfl⟩) ⟨0, by omega, by omega⟩ (by (apply sub_of <;> simp only [go_sem, ↓reduceIte, Nat.reduceAdd, Nat.reduceSub, Nat.reduceMul, Nat.reduceEqDiff, Nat.reduceLT, Nat.reduceLeDiff, Int.reduceToNat, Int.reduceLE, Int.reduceLT, Int.reduceEq, Int.reduceNeg, reduceCtorEq] <;> (try simp [catF]) <;> (try exact fun j _ => Bd_nth (by simp [BdL, Bd]) j) <;> (try exact bd_setL (by simp [bdAs, BdL, Bd])) <;> (try exact nestF_bd _ _ _ _ _ _ _ _ _))) ?_
  rintro ⟨i, hi, h3⟩
  simp only [in_eq, pressR_eq, nestF_eq, nestR_lit, nsM_lit, nsV_lit, prB_ns, Try.f15, go_sem, ↓reduceIte, Nat.reduceAdd, Nat.reduceSub, Nat.reduceMul, Nat.reduceEqDiff, Nat.reduceLT, Nat.reduceLeDiff, Int.reduceToNat, Int.reduceLE, Int.reduceLT, Int.reduceEq, Int.reduceNeg, reduceCtorEq]
  have hw3 : IntKind.i64.wrap ((i : Int) + 1) = ((i + 1 : Nat) : Int) := by rw [wrap_id (by omega) (by omega)]; omega
  refine ⟨fun e1 => ?_, fun e1 => ?_⟩
  · simp only [decide_eq_true_eq] at e1
    have ik : i < n := by omega
    refine ⟨⟨by omega, by omega⟩, pM i ik, fun e2 => ?_, fun e2 => ⟨⟨i + 1, by omega, below h3 (by simpa only [Bool.not_eq_false', prB] using e2)⟩, by simp only []; omega, ?_⟩⟩
    · have := allU_false (p := fun i => prB (A i) (M i) (V i)) ik (by simpa only [Bool.not_eq_true', prB] using e2)
      simp only [psB, this, Bool.false_and, Bool.and_false]
    · apply sub_of <;> simp only [hw3, go_sem, ↓reduceIte, Nat.reduceAdd, Nat.reduceSub, Nat.reduceMul, Nat.reduceEqDiff, Nat.reduceLT, Nat.reduceLeDiff, Int.reduceToNat, Int.reduceLE, Int.reduceLT, Int.reduceEq, Int.reduceNeg, reduceCtorEq] <;> (try simp) <;> (try exact fun j _ => Bd_nth (by simp [BdL, Bd]) j) <;> (try exact bd_setL (by simp [bdAs, BdL, Bd])) <;> (try exact nestF_bd _ _ _ _ _ _ _ _ _)
  simp only [decide_eq_false_iff_not] at e1
  obtain rfl : i = n := by omega
  refine loop_ofH { j : Nat // j ≤ h ∧ (∀ k, k < j → (fun i => in3 (nd i 0) 0 300) k = true) ∧ ∀ k, k < j → (fun i => in3 (pr i 0) 0 10000) k = true } (fun j => [(4, .int .i64 (j.1 : Int)), (1, .ptr 0 0)]) (fun h _ => h) (fun j => h - j.1) (fun _ => ⟨rfl, rfl⟩) ⟨0, by omega, by omega, by omega⟩ (by (apply sub_of <;> simp only [go_sem, ↓reduceIte, Nat.reduceAdd, Nat.reduceSub, Nat.reduceMul, Nat.reduceEqDiff, Nat.reduceLT, Nat.reduceLeDiff, Int.reduceToNat, Int.reduceLE, Int.reduceLT, Int.reduceEq, Int.reduceNeg, reduceCtorEq] <;> (try simp [catF]) <;> (try exact fun j _ => Bd_nth (by simp [BdL, Bd]) j) <;> (try exact bd_setL (by simp [bdAs, BdL, Bd])) <;> (try exact nestF_bd _ _ _ _ _ _ _ _ _))) ?_
  rintro ⟨j, hj, h4, h5⟩
  simp only [in_eq, pressR_eq, nestF_eq, nestR_lit, nsM_lit, nsV_lit, prB_ns, Try.f15, go_sem, ↓reduceIte, Nat.reduceAdd, Nat.reduceSub, Nat.reduceMul, Nat.reduceEqDiff, Nat.reduceLT, Nat.reduceLeDiff, Int.reduceToNat, Int.reduceLE, Int.reduceLT, Int.reduceEq, Int.reduceNeg, reduceCtorEq]
  have hw4 : IntKind.i64.wrap ((j : Int) + 1) = ((j + 1 : Nat) : Int) := by rw [wrap_id (by omega) (by omega)]; omega
  refine ⟨fun e2 => ?_, fun e2 => ?_⟩
  · simp only [decide_eq_true_eq] at e2
    have jk : j < h := by omega
    refine ⟨⟨by omega, by omega⟩, fun e3 => ?_, fun e3 => ⟨⟨by omega, by omega⟩, fun e4 => ?_, fun e4 => ⟨⟨j + 1, by omega, below h4 (by simpa using e3), below h5 (by simpa using e4)⟩, by simp only []; omega, ?_⟩⟩⟩
    · have := allU_false (p := fun i => in3 (nd i 0) 0 300) jk (by simpa using e3)
      simp only [psB, this, Bool.false_and, Bool.and_false]
    · have := allU_false (p := fun i => in3 (pr i 0) 0 10000) jk (by simpa using e4)
      simp only [psB, this, Bool.false_and, Bool.and_false]
    · apply sub_of <;> simp only [hw4, go_sem, ↓reduceIte, Nat.reduceAdd, Nat.reduceSub, Nat.reduceMul, Nat.reduceEqDiff, Nat.reduceLT, Nat.reduceLeDiff, Int.reduceToNat, Int.reduceLE, Int.reduceLT, Int.reduceEq, Int.reduceNeg, reduceCtorEq] <;> (try simp) <;> (try exact fun j _ => Bd_nth (by simp [BdL, Bd]) j) <;> (try exact bd_setL (by simp [bdAs, BdL, Bd])) <;> (try exact nestF_bd _ _ _ _ _ _ _ _ _)
  simp only [decide_eq_false_iff_not] at e2
  obtain rfl : j = h := by omega
  have d1 : decide ((j : Int) = (j : Int)) = true := decide_eq_true rfl
  have d2 : decide ((j : Int) ≤ 12) = true := decide_eq_true (by omega)
  simp only [psB, d1, d2, allU_true h4, allU_true h5, allU_true h3, a1, Bool.true_and]
  exact ⟨fun a4 => ⟨fun a5 => ⟨fun a6 => by simp [a4, a5, a6], fun a6 => by simp [a6]⟩, fun a5 => by simp [a5]⟩, fun a4 => by simp [a4]⟩
end Go.Eng
end

/- press: what an hour does. No program in sight. -/
section
namespace Go.Eng
open Go Go.RowKit Go.Proofs
set_option maxRecDepth 100000
set_option maxHeartbeats 4000000
attribute [local irreducible] OwnT DefS
structure T3 where
  (a b c : Int)
deriving DecidableEq
def T3.get (x : T3) : Nat → Int
  | 0 => x.a
  | 1 => x.b
  | _ => x.c
def T3.set (x : T3) (i : Nat) (v : Int) : T3 :=
  match i with
  | 0 => ⟨v, x.b, x.c⟩
  | 1 => ⟨x.a, v, x.c⟩
  | _ => ⟨x.a, x.b, v⟩
/-- How long each has run, what is stored, the greatest power but for what is free. -/
structure PS where
  (on : T3) (sto pk : Int)
deriving DecidableEq
/-- Within an hour: the power and the starts so far. -/
structure PA where
  (on : T3) (sto pow sta : Int)
/-- The compressors. -/
structure PD where
  n : Nat
  A : Nat → Nat → Int
  M : Nat → Nat
  V : Nat → Nat → Nat → Int
  h : Nat
  nd : Nat → Nat → Int
  pr : Nat → Nat → Int
  (st ro pk fr : Int)
structure PD.Ok (D : PD) : Prop where
  n : 1 ≤ D.n ∧ D.n ≤ 3
  h : D.h ≤ 12
  nd : ∀ i, i < D.h → 0 ≤ D.nd i 0 ∧ D.nd i 0 ≤ 300
  pr : ∀ i, i < D.h → 0 ≤ D.pr i 0 ∧ D.pr i 0 ≤ 10000
  oil : ∀ i, i < D.n → 1 ≤ D.A i 3 ∧ D.A i 3 ≤ 12
  least : ∀ i, i < D.n → 1 ≤ D.A i 2 ∧ D.A i 2 ≤ D.A i 3
  on : ∀ i, i < D.n → 0 ≤ D.A i 4 ∧ D.A i 4 ≤ D.A i 3
  start : ∀ i, i < D.n → 0 ≤ D.A i 1 ∧ D.A i 1 ≤ 10000
  M : ∀ i, i < D.n → 1 ≤ D.M i ∧ D.M i ≤ 2
  pow : ∀ i k, i < D.n → k < D.M i → 1 ≤ D.V i k 0 ∧ D.V i k 0 ≤ 1000
  cold : ∀ i k, i < D.n → k < D.M i → 0 ≤ D.V i k 1 ∧ D.V i k 1 ≤ 100
  ro : 0 ≤ D.ro ∧ D.ro ≤ 100
  st : 0 ≤ D.st ∧ D.st ≤ D.ro
  pk : 0 ≤ D.pk ∧ D.pk ≤ 10000
  fr : 0 ≤ D.fr ∧ D.fr ≤ 3000
theorem psB_iff {n : Nat} {A : Nat → Nat → Int} {M : Nat → Nat} {V : Nat → Nat → Nat → Int} {h : Nat} {nd : Nat → Nat → Int} {q : Nat} {pr : Nat → Nat → Int} {st ro pk fr : Int} :
    psB n A M V h nd q pr st ro pk fr = true ↔ q = h ∧ PD.Ok ⟨n, A, M, V, h, nd, pr, st, ro, pk, fr⟩ := by
  simp only [psB, prB, lvB, Bool.and_eq_true, decide_eq_true_eq, allU_iff, in3_iff]
  constructor
  · rintro ⟨h1, h2, h3, h4, h5, h6, h7, h8, h9, h10⟩
    obtain rfl : q = h := by omega
    exact ⟨rfl, ⟨by simp only []; omega, by simp only []; omega, h3, h4, fun i hi => (h6 i hi).1, fun i hi => (h6 i hi).2.1, fun i hi => (h6 i hi).2.2.1, fun i hi => (h6 i hi).2.2.2.1, fun i hi => by have := (h6 i hi).2.2.2.2.1; simp only []; omega,
      fun i k hi hk => ((h6 i hi).2.2.2.2.2 k hk).1, fun i k hi hk => ((h6 i hi).2.2.2.2.2 k hk).2, h7, h8, h9, h10⟩⟩
  · rintro ⟨rfl, H⟩
    have h1 := H.n; have h2 := H.h; have h3 := H.M
    simp only [] at h1 h2 h3
    exact ⟨rfl, by omega, H.nd, H.pr, by omega, fun i hi => ⟨H.oil i hi, H.least i hi, H.on i hi, H.start i hi, by have := h3 i hi; omega, fun k hk => ⟨H.pow i k hi hk, H.cold i k hi hk⟩⟩, H.ro, H.st, H.pk, H.fr⟩
/-- One compressor in an hour. -/
def stepP (D : PD) (on c : T3) (i : Nat) (a : PA) : Option PA :=
  if c.get i = 0 then (if on.get i = 0 ∨ D.A i 2 ≤ on.get i then some a else none)
  else if on.get i < D.A i 3 then some ⟨a.on.set i (on.get i + 1), a.sto + D.V i (c.get i - 1).toNat 1, a.pow + D.V i (c.get i - 1).toNat 0, if on.get i = 0 then a.sta + D.A i 1 else a.sta⟩ else none
def stepsP (D : PD) (on c : T3) (s : Int) : Nat → Option PA
  | 0 => some ⟨⟨0, 0, 0⟩, s, 0, 0⟩
  | i + 1 => match stepsP D on c s i with
    | some a => stepP D on c i a
    | none => none
theorem stepsP_none {D : PD} {on c : T3} {s : Int} {i : Nat} (h : stepsP D on c s i = none) : ∀ j, i ≤ j → stepsP D on c s j = none := by
  intro j hj
  induction j with
  | zero => obtain rfl : i = 0 := by omega
            exact h
  | succ j ih =>
    rcases Nat.lt_or_ge j i with h1 | h1
    · obtain rfl : i = j + 1 := by omega
      exact h
    · simp only [stepsP, ih h1]
/-- What an hour comes to: an error, or what is then and what it costs. -/
structure HR where
  (e : Int) (s : PS) (en sta : Int)
def badH (e : Int) : HR := ⟨e, ⟨⟨0, 0, 0⟩, 0, 0⟩, 0, 0⟩
def hourP (D : PD) (s : PS) (hr : Nat) (c : T3) : HR :=
  match stepsP D s.on c (s.sto - D.nd hr 0) D.n with
  | none => badH 11
  | some a => if a.sto < 0 then badH 10 else if D.ro < a.sto then badH 9 else ⟨0, ⟨a.on, a.sto, max s.pk (a.pow - D.fr)⟩, a.pow * D.pr hr 0, a.sta⟩
theorem mulB {x y : Int} {m k : Int} (h1 : 0 ≤ x ∧ x ≤ m) (h2 : 0 ≤ y ∧ y ≤ k) : 0 ≤ x * y ∧ x * y ≤ m * k :=
  ⟨Int.mul_nonneg h1.1 h2.1, Int.mul_le_mul h1.2 h2.2 h2.1 (by omega)⟩
/-- A state that can be, and choices that can. -/
def stOk (D : PD) (s : PS) : Prop := (∀ i, i < 3 → 0 ≤ s.on.get i ∧ s.on.get i ≤ 12) ∧ (0 ≤ s.sto ∧ s.sto ≤ 100) ∧ (0 ≤ s.pk ∧ s.pk ≤ 3000)
def chOk (D : PD) (c : T3) : Prop := ∀ i, i < D.n → 0 ≤ c.get i ∧ c.get i ≤ D.M i
def PA.Ok (a : PA) (i : Nat) (s : Int) : Prop := (∀ j, j < 3 → 0 ≤ a.on.get j ∧ a.on.get j ≤ 12) ∧ (s ≤ a.sto ∧ a.sto ≤ s + 100 * i) ∧ (0 ≤ a.pow ∧ a.pow ≤ 1000 * i) ∧ (0 ≤ a.sta ∧ a.sta ≤ 10000 * i)
theorem T3.get_set (x : T3) (v : Int) : ∀ (i j : Nat), i < 3 → j < 3 → (x.set i v).get j = if j = i then v else x.get j := by
  intro i j hi hj
  rcases (by omega : i = 0 ∨ i = 1 ∨ i = 2) with rfl | rfl | rfl <;> rcases (by omega : j = 0 ∨ j = 1 ∨ j = 2) with rfl | rfl | rfl <;> rfl
theorem stepP_ok {D : PD} (hD : D.Ok) {on c : T3} (ho : ∀ i, i < 3 → 0 ≤ on.get i ∧ on.get i ≤ 12) (hc : chOk D c) {i : Nat} (hi : i < D.n) {a a' : PA} {s : Int} (ha : a.Ok i s) (h : stepP D on c i a = some a') : a'.Ok (i + 1) s := by
  obtain ⟨a1, a2, a3, a4⟩ := ha
  have hn := hD.n
  unfold stepP at h
  split at h
  · split at h
    · cases h
      exact ⟨a1, by omega, by omega, by omega⟩
    · cases h
  · rename_i hc0
    split at h
    · rename_i hon
      cases h
      have hci := hc i hi
      have hM := hD.M i hi
      have h1 := hD.pow i (c.get i - 1).toNat hi (by omega)
      have h2 := hD.cold i (c.get i - 1).toNat hi (by omega)
      have h3 := hD.start i hi
      have h4 := hD.oil i hi
      have h5 := ho i (by omega)
      refine ⟨fun j hj => ?_, by simp only []; omega, by simp only []; omega, ?_⟩
      · simp only []
        rw [T3.get_set _ _ _ _ (by omega) hj]
        split
        · omega
        · exact a1 j hj
      · simp only []
        split <;> omega
    · cases h
theorem stepsP_ok {D : PD} (hD : D.Ok) {on c : T3} (ho : ∀ i, i < 3 → 0 ≤ on.get i ∧ on.get i ≤ 12) (hc : chOk D c) {s : Int} : ∀ {i : Nat}, i ≤ D.n → ∀ {a : PA}, stepsP D on c s i = some a → a.Ok i s
  | 0, _, a, h => by
    cases h
    refine ⟨fun j hj => ?_, by simp, by simp, by simp⟩
    rcases (by omega : j = 0 ∨ j = 1 ∨ j = 2) with rfl | rfl | rfl <;> simp [T3.get]
  | i + 1, hi, a, h => by
    simp only [stepsP] at h
    split at h
    · rename_i b hb
      exact stepP_ok hD ho hc (by omega) (stepsP_ok hD ho hc (by omega) hb) h
    · cases h
theorem hourP_ok {D : PD} (hD : D.Ok) {s : PS} (hs : stOk D s) {c : T3} (hc : chOk D c) {hr : Nat} (hh : hr < D.h) (he : (hourP D s hr c).e = 0) :
    stOk D (hourP D s hr c).s ∧ (0 ≤ (hourP D s hr c).en ∧ (hourP D s hr c).en ≤ 30000000) ∧ (0 ≤ (hourP D s hr c).sta ∧ (hourP D s hr c).sta ≤ 30000) := by
  unfold hourP at he ⊢
  split at he
  · simp [badH] at he
  · rename_i a ha
    split at he
    · simp [badH] at he
    · split at he
      · simp [badH] at he
      · rename_i h1 h2
        simp only [if_neg h1, if_neg h2]
        obtain ⟨a1, a2, a3, a4⟩ := stepsP_ok hD hs.1 hc (Nat.le_refl _) ha
        have hn := hD.n
        have hp := hD.pr hr hh
        have hro := hD.ro
        have hfr := hD.fr
        have hpk := hs.2.2
        have q1 := mulB (x := a.pow) (y := D.pr hr 0) (m := 3000) (k := 10000) (by omega) (by omega)
        exact ⟨⟨a1, (by omega : 0 ≤ a.sto ∧ a.sto ≤ 100), (by omega : 0 ≤ max s.pk (a.pow - D.fr) ∧ max s.pk (a.pow - D.fr) ≤ 3000)⟩, (by omega : 0 ≤ a.pow * D.pr hr 0 ∧ a.pow * D.pr hr 0 ≤ 30000000), (by omega : 0 ≤ a.sta ∧ a.sta ≤ 30000)⟩
end Go.Eng
end

/- A call whose arguments are lent, whatever it ends with. -/
section
namespace Go.Eng
open Go Go.RowKit Go.Proofs
/-- Numbers come back, or numbers in an interface are what it panics with. -/
def FlO : Out → Prop
  | .ret u => Fl u
  | .pan (.iface _ v) => Fl1 v
  | _ => False
theorem calls_lend {P : Program} {g : Nat} {args : List SV} {h : HS} {K : Out → Prop} (hb : BdL 0 0 (frzA h args)) (hc : CallsS P g (frzA h args) ⟨[], []⟩ (fun o _ => FlO o ∧ K o)) : CallsS P g args h (fun o h' => K o ∧ h' = h) := by
  intro E w vals hr hd
  refine (hc E.lent w vals (lent_rel hr) (frzA_den hr hd hb)).mono ?_
  rintro e w' ⟨o, h', E', ⟨hf, hk⟩, hr', hx, hout⟩
  obtain ⟨hkeep, hx2⟩ := lent_back hr hx
  refine ⟨o, h, E, ⟨hk, rfl⟩, hr.quiet hx2 hkeep, hx2, ?_⟩
  cases o with
  | ret u =>
    cases e with
    | returned val => exact Fl.den hf hout
    | panicked _ => exact hout.elim
    | outgrown => exact hout.elim
  | pan v =>
    cases e with
    | returned val => exact hout.elim
    | outgrown => exact hout.elim
    | panicked ch =>
      obtain ⟨val, h1, h2⟩ := hout
      refine ⟨val, h1, ?_⟩
      cases h2 with
      | @iface t x v h => exact .iface (Fl1.den hf h)
      | _ => exact hf.elim
  | fin p ts => cases e <;> exact hout.elim
  | stop k t => cases e <;> exact hout.elim
  | rnd v => cases e <;> exact hout.elim
end Go.Eng
end

/- press: an hour. -/
section
namespace Go.Eng
open Go Go.RowKit Go.Proofs
set_option maxRecDepth 100000
set_option maxHeartbeats 4000000
attribute [local irreducible] OwnT DefS
def psS (s : PS) : SV := .agg [.int .i64 s.on.a, .int .i64 s.on.b, .int .i64 s.on.c, .int .i64 s.sto, .int .i64 s.pk]
def tS (c : T3) : SV := .agg [.int .i64 c.a, .int .i64 c.b, .int .i64 c.c]
def prC (D : PD) : List SV := [.row D.n 5 (nestF 0 2 D.A D.M D.V), .row D.h 1 (fun i j => .int .i64 (D.nd i j)), .row D.h 1 (fun i j => .int .i64 (D.pr i j)), .int .i64 D.st, .int .i64 D.ro, .int .i64 D.pk, .int .i64 D.fr]
def resP (r : HR) : Out := if r.e = 0 then .ret (.tup [psS r.s, .int .i64 r.en, .int .i64 r.sta]) else .pan (.iface 202 (.agg [.int .i64 r.e]))
theorem prC_bd (D : PD) (L K : Nat) : BdL L K (prC D) := by
  simp only [prC, BdL, Bd, and_self, and_true, implies_true]
  exact nestF_bd _ _ _ _ _ _ _ _ _
theorem prC_bds (D : PD) (L K : Nat) : (∀ i j, i < D.n → j < 5 → Bd L K (nestF 0 2 D.A D.M D.V i j)) ∧ ∀ j, j < 7 → Bd L K (nth (prC D) j) := ⟨nestF_bd _ _ _ _ _ _ _ _ _, fun j _ => Bd_nth (prC_bd D L K) j⟩
theorem resP_fl (r : HR) : FlO (resP r) := by
  unfold resP
  split <;> simp [FlO, Fl, FlL, Fl1, ScL, Sc, psS]
theorem resP_bad {e : Int} (h : e ≠ 0) : resP (badH e) = .pan (.iface 202 (.agg [.int .i64 e])) := by simp [resP, badH, h]
theorem T3.nth3 (x : T3) {i : Nat} (h : i < 3) : nth [.int .i64 x.a, .int .i64 x.b, .int .i64 x.c] (i * 1) = .int .i64 (x.get i) := by
  rcases (by omega : i = 0 ∨ i = 1 ∨ i = 2) with rfl | rfl | rfl <;> rfl
theorem T3.nth5 (x : T3) (y z : SV) {i : Nat} (h : i < 3) : nth [.int .i64 x.a, .int .i64 x.b, .int .i64 x.c, y, z] (i * 1) = .int .i64 (x.get i) := by
  rcases (by omega : i = 0 ∨ i = 1 ∨ i = 2) with rfl | rfl | rfl <;> rfl
theorem T3.over5 (x : T3) (y z : SV) (v : Int) {i : Nat} (h : i < 3) : over [.int .i64 x.a, .int .i64 x.b, .int .i64 x.c, y, z] (i * 1) [.int .i64 v] = [.int .i64 (x.set i v).a, .int .i64 (x.set i v).b, .int .i64 (x.set i v).c, y, z] := by
  rcases (by omega : i = 0 ∨ i = 1 ∨ i = 2) with rfl | rfl | rfl <;> rfl
theorem pass0 {D : PD} (hD : D.Ok) {s : PS} (hs : stOk D s) {c : T3} (hc : chOk D c) {hr : Nat} (hh : hr < D.h) :
    CallsS Try.prog 46 [.rptr 7 (fun j => nth (prC D) j), psS s, .int .i64 (hr : Int), tS c] ⟨[], []⟩ (fun o _ => FlO o ∧ o = resP (hourP D s hr c)) := by
  have ho := hs.1
  refine calls_mono (K := fun o _ => o = resP (hourP D s hr c)) (fun o _ e => ⟨e ▸ resP_fl _, e⟩) ?_
  refine calls_of_run (C := cx [] [] [] [(46, 1, p46_1), (46, 13, p46_13), (46, 18, p46_18), (46, 19, p46_19), (46, 20, p46_20)] none) (cx_ok trivial trivial) rfl fn_46 rfl 1000 ?_
  simp only [Try.f46, Try.f99, psS, tS, prC, p46_1, p46_13, p46_18, p46_19, p46_20, go_sem, ↓reduceIte, Nat.reduceAdd, Nat.reduceSub, Nat.reduceMul, Nat.reduceEqDiff, Nat.reduceLT, Nat.reduceLeDiff, Int.reduceToNat, Int.reduceLE, Int.reduceLT, Int.reduceEq, Int.reduceNeg, reduceCtorEq]
  have hnd := hD.nd hr hh
  have hs1 := hs.2.1
  have hn := hD.n
  have w0 : IntKind.i64.wrap (s.sto - D.nd hr 0) = s.sto - D.nd hr 0 := wrap_id (by omega) (by omega)
  rw [w0]
  generalize hs0 : s.sto - D.nd hr 0 = s0
  refine ⟨⟨by kernel_rfl, by kernel_rfl⟩, by omega, ?_⟩
  refine loop_ofH { x : Nat × PA // x.1 ≤ D.n ∧ stepsP D s.on c s0 x.1 = some x.2 } (fun x => [(34, .int .i64 (x.1.1 : Int)), (33, .int .i64 (D.n : Int)), (32, .row D.n 5 (nestF 0 2 D.A D.M D.V)), (11, .int .i64 x.1.2.pow), (10, .int .i64 x.1.2.sta), (8, .ptr 2 0), (7, .ptr 1 0), (5, .ptr 0 0), (2, .int .i64 (hr : Int)), (0, .rptr 7 fun j => nth (prC D) j)])
    (fun _ x => ⟨[.live 120 [.int .i64 s.on.a, .int .i64 s.on.b, .int .i64 s.on.c, .int .i64 s.sto, .int .i64 s.pk], .live 118 [.int .i64 c.a, .int .i64 c.b, .int .i64 c.c], .live 120 [.int .i64 x.1.2.on.a, .int .i64 x.1.2.on.b, .int .i64 x.1.2.on.c, .int .i64 x.1.2.sto, .int .i64 s.pk]], []⟩) (fun x => D.n - x.1.1) (fun _ => ⟨rfl, rfl⟩) ⟨(0, ⟨⟨0, 0, 0⟩, s0, 0, 0⟩), by simp only []; omega, rfl⟩ (by simp only [prC]; (apply sub_of <;> simp only [go_sem, ↓reduceIte, Nat.reduceAdd, Nat.reduceSub, Nat.reduceMul, Nat.reduceEqDiff, Nat.reduceLT, Nat.reduceLeDiff, Int.reduceToNat, Int.reduceLE, Int.reduceLT, Int.reduceEq, Int.reduceNeg, reduceCtorEq] <;> (try simp [catF]) <;> (try exact fun j _ => Bd_nth (by simp [BdL, Bd]) j) <;> (try exact bd_setL (by simp [bdAs, BdL, Bd])) <;> (try exact nestF_bd _ _ _ _ _ _ _ _ _)); exact prC_bds D _ _) ?_
  rintro ⟨⟨i, a⟩, hi, ha⟩
  simp only at hi ha
  rcases Nat.lt_or_ge i D.n with hin | hin
  · have h3 : i < 3 := by omega
    have n3 := fun x => T3.nth3 x h3
    have n5 := fun x y z => T3.nth5 x y z h3
    have v5 := fun x y z v => T3.over5 x y z v h3
    simp only [Try.f46, Try.f99, nestF_eq, n3, n5, v5, prC, p46_1, p46_13, p46_18, p46_19, p46_20, go_sem, ↓reduceIte, Nat.reduceAdd, Nat.reduceSub, Nat.reduceMul, Nat.reduceEqDiff, Nat.reduceLT, Nat.reduceLeDiff, Int.reduceToNat, Int.reduceLE, Int.reduceLT, Int.reduceEq, Int.reduceNeg, reduceCtorEq]
    have hci := hc i hin
    have hM := hD.M i hin
    have hoi := ho i h3
    have hoil := hD.oil i hin
    have hst := hD.start i hin
    have hok := stepsP_ok hD ho hc (by omega) ha
    have hstep : stepsP D s.on c s0 (i + 1) = stepP D s.on c i a := by simp only [stepsP, ha]
    have bad : stepP D s.on c i a = none → Out.pan (.iface 202 (.agg [.int .i64 11])) = resP (hourP D s hr c) := fun h => by
      rw [hourP, hs0, stepsP_none (hstep.trans h) _ (by omega)]
      exact (resP_bad (by decide)).symm
    have hw3 : IntKind.i64.wrap ((i : Int) + 1) = ((i + 1 : Nat) : Int) := by rw [wrap_id (by omega) (by omega)]; omega
    refine ⟨fun e1 => ⟨⟨by omega, by omega⟩, ⟨by omega, by omega⟩, by omega, ⟨by omega, by omega⟩, by omega, fun e2 => ⟨fun e3 => ?_, fun e3 => ⟨fun e4 => ?_, fun e4 => ?_⟩⟩, fun e2 => ⟨fun e3 => ?_, fun e3 => ?_⟩⟩, fun e1 => absurd e1 (by simp; omega)⟩
    all_goals simp only [decide_eq_true_eq, decide_eq_false_iff_not, Bool.not_eq_true', Bool.not_eq_false'] at e2 e3
    · have hs1 : stepP D s.on c i a = some a := by simp only [stepP, if_pos e2, e3, true_or, if_true]
      refine ⟨⟨(i + 1, a), by simp only []; omega, hstep.trans hs1⟩, by simp only []; omega, ?_⟩
      apply sub_of <;> simp only [hw3, go_sem, ↓reduceIte, Nat.reduceAdd, Nat.reduceSub, Nat.reduceMul, Nat.reduceEqDiff, Nat.reduceLT, Nat.reduceLeDiff, Int.reduceToNat, Int.reduceLE, Int.reduceLT, Int.reduceEq, Int.reduceNeg, reduceCtorEq] <;> (try simp) <;> exact prC_bds D _ _
    · simp only [decide_eq_true_eq, decide_eq_false_iff_not, Bool.not_eq_true', Bool.not_eq_false'] at e4
      exact bad (by simp only [stepP, if_pos e2, e3, false_or, if_neg e4])
    · simp only [decide_eq_true_eq, decide_eq_false_iff_not, Bool.not_eq_true', Bool.not_eq_false'] at e4
      have hs1 : stepP D s.on c i a = some a := by simp only [stepP, if_pos e2, e3, false_or, if_pos e4]
      refine ⟨⟨(i + 1, a), by simp only []; omega, hstep.trans hs1⟩, by simp only []; omega, ?_⟩
      apply sub_of <;> simp only [hw3, go_sem, ↓reduceIte, Nat.reduceAdd, Nat.reduceSub, Nat.reduceMul, Nat.reduceEqDiff, Nat.reduceLT, Nat.reduceLeDiff, Int.reduceToNat, Int.reduceLE, Int.reduceLT, Int.reduceEq, Int.reduceNeg, reduceCtorEq] <;> (try simp) <;> exact prC_bds D _ _
    · exact bad (by simp only [stepP, if_neg e2, if_neg e3])
    · have hk : IntKind.i64.wrap (c.get i - 1) = c.get i - 1 := wrap_id (by omega) (by omega)
      have hpo := hD.pow i (c.get i - 1).toNat hin (by omega)
      have hco := hD.cold i (c.get i - 1).toNat hin (by omega)
      obtain ⟨b1, b2, b3, b4⟩ := hok
      have w1 : IntKind.i64.wrap (s.on.get i + 1) = s.on.get i + 1 := wrap_id (by omega) (by omega)
      have w2 : IntKind.i64.wrap (a.sto + D.V i (c.get i - 1).toNat 1) = a.sto + D.V i (c.get i - 1).toNat 1 := wrap_id (by omega) (by omega)
      have w3 : IntKind.i64.wrap (a.pow + D.V i (c.get i - 1).toNat 0) = a.pow + D.V i (c.get i - 1).toNat 0 := wrap_id (by omega) (by omega)
      have w4 : IntKind.i64.wrap (a.sta + D.A i 1) = a.sta + D.A i 1 := wrap_id (by omega) (by omega)
      rw [hk]
      refine ⟨fun e4 => ⟨⟨by omega, by omega⟩, by omega, ⟨by kernel_rfl, by kernel_rfl⟩, ⟨by omega, by omega⟩, by omega, ⟨by omega, by omega⟩, ⟨⟨by omega, by omega⟩, by omega, by omega, by omega⟩, ?_⟩, fun e4 => ⟨⟨by omega, by omega⟩, by omega, ⟨by kernel_rfl, by kernel_rfl⟩, ⟨by omega, by omega⟩, by omega, ⟨by omega, by omega⟩, ⟨⟨by omega, by omega⟩, by omega, by omega, by omega⟩, ?_⟩⟩
      all_goals simp only [decide_eq_true_eq, decide_eq_false_iff_not] at e4
      · have hs1 : stepP D s.on c i a = some ⟨a.on.set i (s.on.get i + 1), a.sto + D.V i (c.get i - 1).toNat 1, a.pow + D.V i (c.get i - 1).toNat 0, a.sta + D.A i 1⟩ := by simp only [stepP, if_neg e2, if_pos e3, if_pos e4]
        refine ⟨⟨(i + 1, _), by simp only []; omega, hstep.trans hs1⟩, by simp only []; omega, ?_⟩
        apply sub_of <;> simp only [hw3, w1, w2, w3, w4, go_sem, ↓reduceIte, Nat.reduceAdd, Nat.reduceSub, Nat.reduceMul, Nat.reduceEqDiff, Nat.reduceLT, Nat.reduceLeDiff, Int.reduceToNat, Int.reduceLE, Int.reduceLT, Int.reduceEq, Int.reduceNeg, reduceCtorEq] <;> (try simp) <;> exact prC_bds D _ _
      · have hs1 : stepP D s.on c i a = some ⟨a.on.set i (s.on.get i + 1), a.sto + D.V i (c.get i - 1).toNat 1, a.pow + D.V i (c.get i - 1).toNat 0, a.sta⟩ := by simp only [stepP, if_neg e2, if_pos e3, if_neg e4]
        refine ⟨⟨(i + 1, _), by simp only []; omega, hstep.trans hs1⟩, by simp only []; omega, ?_⟩
        apply sub_of <;> simp only [hw3, w1, w2, w3, w4, go_sem, ↓reduceIte, Nat.reduceAdd, Nat.reduceSub, Nat.reduceMul, Nat.reduceEqDiff, Nat.reduceLT, Nat.reduceLeDiff, Int.reduceToNat, Int.reduceLE, Int.reduceLT, Int.reduceEq, Int.reduceNeg, reduceCtorEq] <;> (try simp) <;> exact prC_bds D _ _
  · obtain rfl : i = D.n := by omega
    obtain ⟨b1, b2, b3, b4⟩ := stepsP_ok hD ho hc (by omega) ha
    have hfr := hD.fr
    have hpr := hD.pr hr hh
    have hpk := hs.2.2
    have q1 := mulB (x := a.pow) (y := D.pr hr 0) (m := 3000) (k := 10000) (by omega) (by omega)
    have w1 : IntKind.i64.wrap (a.pow - D.fr) = a.pow - D.fr := wrap_id (by omega) (by omega)
    have w2 : IntKind.i64.wrap (a.pow * D.pr hr 0) = a.pow * D.pr hr 0 := wrap_id (by omega) (by omega)
    have hR : hourP D s hr c = if a.sto < 0 then badH 10 else if D.ro < a.sto then badH 9 else ⟨0, ⟨a.on, a.sto, max s.pk (a.pow - D.fr)⟩, a.pow * D.pr hr 0, a.sta⟩ := by simp only [hourP, hs0, ha]
    rw [hR]
    have hd : decide ((D.n : Int) < (D.n : Int)) = false := decide_eq_false (by omega)
    simp only [Try.f46, Try.f99, nestF_eq, prC, hd, w1, w2, p46_1, p46_13, p46_18, p46_19, p46_20, go_sem, ↓reduceIte, Nat.reduceAdd, Nat.reduceSub, Nat.reduceMul, Nat.reduceEqDiff, Nat.reduceLT, Nat.reduceLeDiff, Int.reduceToNat, Int.reduceLE, Int.reduceLT, Int.reduceEq, Int.reduceNeg, reduceCtorEq]
    refine ⟨fun e2 => ?_, fun e2 => ⟨⟨by kernel_rfl, by kernel_rfl⟩, fun e3 => ?_, fun e3 => ⟨⟨by kernel_rfl, by kernel_rfl⟩, ⟨by kernel_rfl, by kernel_rfl⟩, ⟨by omega, by omega⟩, ⟨by omega, by omega⟩, ?_⟩⟩⟩
    all_goals simp only [decide_eq_true_eq, decide_eq_false_iff_not, Bool.not_eq_true', Bool.not_eq_false'] at e2
    · rw [if_pos (by omega)]
      exact (resP_bad (by decide)).symm
    all_goals simp only [decide_eq_true_eq, decide_eq_false_iff_not, Bool.not_eq_true', Bool.not_eq_false'] at e3
    · rw [if_neg (by omega), if_pos (by omega)]
      exact (resP_bad (by decide)).symm
    · rw [if_neg (by omega), if_neg (by omega)]
      rfl
end Go.Eng
end

/- press: an hour that is tried. -/
section
namespace Go.Eng
open Go Go.RowKit Go.Proofs
set_option maxRecDepth 100000
set_option maxHeartbeats 4000000
attribute [local irreducible] OwnT DefS
theorem setB_last : ∀ (l : List Blk) (a b : Blk), setB (snocB l a) (lenB l) b = snocB l b
  | [], _, _ => rfl
  | x :: l, a, b => by simp [setB, snocB, lenB, setB_last l a b]
theorem def59_none (h : HS) (e : Nat) : DefS Try.prog 98 [.ptr e 0] none h (fun p' h' => p' = none ∧ h' = h) := by
  refine defS_of_run (C := cx [] [] [] [] (some [])) (cx_ok trivial trivial) (g := 98) (fn := Try.f98) fn_98 rfl rfl rfl 1000 1000 ?_
  simp only [Try.f98, go_sem, ↓reduceIte, Nat.reduceAdd, Nat.reduceSub, Nat.reduceMul, Nat.reduceEqDiff, Nat.reduceLT, Nat.reduceLeDiff, Int.reduceToNat, Int.reduceLE, Int.reduceLT, Int.reduceEq, Int.reduceNeg, reduceCtorEq]
theorem def59_some (h : HS) (e : Nat) (m k : Int) (he : getB h.blks e = .live 27 [.int .i64 k]) : DefS Try.prog 98 [.ptr e 0] (some (.iface 202 (.agg [.int .i64 m]))) h (fun p' h' => p' = none ∧ h' = { h with blks := setB (snocB h.blks (.live 202 [.int .i64 m])) e (.live 27 [.int .i64 m]) }) := by
  have hlt := getB_lt he
  have ha : ∀ b, getB (snocB h.blks b) (lenB h.blks) = b := fun b => by simp [getB_snoc]
  have hb : ∀ b, getB (snocB h.blks b) e = .live 27 [.int .i64 k] := fun b => by rw [getB_snoc, if_neg (by omega), he]
  refine defS_of_run (C := cx [] [] [] [] (some [])) (cx_ok trivial trivial) (g := 98) (fn := Try.f98) fn_98 rfl rfl rfl 1000 1000 ?_
  simp only [Try.f98, he, ha, hb, setB_last, go_sem, ↓reduceIte, Nat.reduceAdd, Nat.reduceSub, Nat.reduceMul, Nat.reduceEqDiff, Nat.reduceLT, Nat.reduceLeDiff, Int.reduceToNat, Int.reduceLE, Int.reduceLT, Int.reduceEq, Int.reduceNeg, reduceCtorEq]
def hrS (r : HR) : SV := .tup [psS r.s, .int .i64 r.en, .int .i64 r.sta, .int .i64 r.e]
theorem hourP_bad {D : PD} {s : PS} {hr : Nat} {c : T3} (h : (hourP D s hr c).e ≠ 0) : hourP D s hr c = badH (hourP D s hr c).e := by
  unfold hourP at h ⊢
  split
  · rfl
  · rename_i a ha
    rw [ha] at h
    simp only [] at h ⊢
    split at h
    · rename_i h1; simp only [if_pos h1]; rfl
    · rename_i h1
      split at h
      · rename_i h2; simp only [if_neg h1, if_pos h2]; rfl
      · exact absurd rfl h
def triedBase : BaseF := fun args => match args with
  | [.rptr sz_1 c_1, .agg [.int .i64 oa, .int .i64 ob, .int .i64 oc, .int .i64 sto, .int .i64 spk], .int .i64 hr, .agg [.int .i64 ca, .int .i64 cb, .int .i64 cc]] => (match c_1 0, c_1 1, c_1 2, c_1 3, c_1 4, c_1 5, c_1 6 with | .row n sz_A f_A, .row h sz_nd f_nd, .row q sz_pr f_pr, .int .i64 st, .int .i64 ro, .int .i64 pk, .int .i64 fr => some ((sz_1 = 7) ∧ (sz_A = 5 ∧ NestR n 5 0 2 f_A) ∧ (sz_nd = 1 ∧ IntR h 1 f_nd) ∧ (sz_pr = 1 ∧ IntR q 1 f_pr) ∧ (q = h ∧ PD.Ok ⟨n, (nsA f_A), (nsM 0 f_A), (nsV 0 f_A), h, (ivf f_nd), (ivf f_pr), st, ro, pk, fr⟩ ∧ stOk ⟨n, (nsA f_A), (nsM 0 f_A), (nsV 0 f_A), h, (ivf f_nd), (ivf f_pr), st, ro, pk, fr⟩ ⟨⟨oa, ob, oc⟩, sto, spk⟩ ∧ chOk ⟨n, (nsA f_A), (nsM 0 f_A), (nsV 0 f_A), h, (ivf f_nd), (ivf f_pr), st, ro, pk, fr⟩ ⟨ca, cb, cc⟩ ∧ 0 ≤ hr ∧ hr < h), hrS (hourP ⟨n, (nsA f_A), (nsM 0 f_A), (nsV 0 f_A), h, (ivf f_nd), (ivf f_pr), st, ro, pk, fr⟩ ⟨⟨oa, ob, oc⟩, sto, spk⟩ hr.toNat ⟨ca, cb, cc⟩)) | _, _, _, _, _, _, _ => none)
  | _ => none
theorem tried_eq (sz_1 : Nat) (c_1 : Nat → SV) (oa : Int) (ob : Int) (oc : Int) (sto : Int) (spk : Int) (hr : Int) (ca : Int) (cb : Int) (cc : Int) : triedBase [.rptr sz_1 c_1, .agg [.int .i64 oa, .int .i64 ob, .int .i64 oc, .int .i64 sto, .int .i64 spk], .int .i64 hr, .agg [.int .i64 ca, .int .i64 cb, .int .i64 cc]] = (match c_1 0, c_1 1, c_1 2, c_1 3, c_1 4, c_1 5, c_1 6 with | .row n sz_A f_A, .row h sz_nd f_nd, .row q sz_pr f_pr, .int .i64 st, .int .i64 ro, .int .i64 pk, .int .i64 fr => some ((sz_1 = 7) ∧ (sz_A = 5 ∧ NestR n 5 0 2 f_A) ∧ (sz_nd = 1 ∧ IntR h 1 f_nd) ∧ (sz_pr = 1 ∧ IntR q 1 f_pr) ∧ (q = h ∧ PD.Ok ⟨n, (nsA f_A), (nsM 0 f_A), (nsV 0 f_A), h, (ivf f_nd), (ivf f_pr), st, ro, pk, fr⟩ ∧ stOk ⟨n, (nsA f_A), (nsM 0 f_A), (nsV 0 f_A), h, (ivf f_nd), (ivf f_pr), st, ro, pk, fr⟩ ⟨⟨oa, ob, oc⟩, sto, spk⟩ ∧ chOk ⟨n, (nsA f_A), (nsM 0 f_A), (nsV 0 f_A), h, (ivf f_nd), (ivf f_pr), st, ro, pk, fr⟩ ⟨ca, cb, cc⟩ ∧ 0 ≤ hr ∧ hr < h), hrS (hourP ⟨n, (nsA f_A), (nsM 0 f_A), (nsV 0 f_A), h, (ivf f_nd), (ivf f_pr), st, ro, pk, fr⟩ ⟨⟨oa, ob, oc⟩, sto, spk⟩ hr.toNat ⟨ca, cb, cc⟩)) | _, _, _, _, _, _, _ => none) := rfl
theorem tried_base : Base Try.prog 43 triedBase := by
  intro args p v hq hp
  unfold triedBase at hq
  split at hq
  rotate_left
  · cases hq
  rename_i sz_1 c_1 oa ob oc sto spk hr ca cb cc
  split at hq
  rotate_left
  · cases hq
  rename_i n sz_A f_A h sz_nd f_nd q sz_pr f_pr st ro pk fr h_1_0 h_1_1 h_1_2 h_1_3 h_1_4 h_1_5 h_1_6
  cases hq
  obtain ⟨rfl, ⟨rfl, i_A⟩, ⟨rfl, i_nd⟩, ⟨rfl, i_pr⟩, pre⟩ := hp
  refine ⟨(by
    simp only [BdL, Bd, and_self, and_true, true_and]
    exact (fun j hj => by
      have hj : j = 0 ∨ j = 1 ∨ j = 2 ∨ j = 3 ∨ j = 4 ∨ j = 5 ∨ j = 6 := by omega
      rcases hj with rfl | rfl | rfl | rfl | rfl | rfl | rfl
      · rw [h_1_0]; simp only [BdL, Bd, and_self, and_true, true_and]; exact (fun i j hi hj => nest_bd i_A i j hi hj)
      · rw [h_1_1]; simp only [BdL, Bd, and_self, and_true, true_and]; exact (fun i j hi hj => by rw [i_nd i j hi hj]; trivial)
      · rw [h_1_2]; simp only [BdL, Bd, and_self, and_true, true_and]; exact (fun i j hi hj => by rw [i_pr i j hi hj]; trivial)
      · rw [h_1_3]; simp only [BdL, Bd, and_self, and_true, true_and]
      · rw [h_1_4]; simp only [BdL, Bd, and_self, and_true, true_and]
      · rw [h_1_5]; simp only [BdL, Bd, and_self, and_true, true_and]
      · rw [h_1_6]; simp only [BdL, Bd, and_self, and_true, true_and])), calls_mono (fun _ _ ⟨u, e1, e2, e3⟩ => ⟨u, e1, .inl ⟨e2, by rw [e3]; exact SameD.rfl' _⟩⟩) (calls_congr (args' := [.rptr 7 (fun j => nth [.row n 5 (nestF 0 2 (nsA f_A) (nsM 0 f_A) (nsV 0 f_A)), .row h 1 (rowF .i64 (ivf f_nd)), .row q 1 (rowF .i64 (ivf f_pr)), .int .i64 st, .int .i64 ro, .int .i64 pk, .int .i64 fr] j), .agg [.int .i64 oa, .int .i64 ob, .int .i64 oc, .int .i64 sto, .int .i64 spk], .int .i64 hr, .agg [.int .i64 ca, .int .i64 cb, .int .i64 cc]]) ⟨SameD.rptr (fun j hj => by
      have hj : j = 0 ∨ j = 1 ∨ j = 2 ∨ j = 3 ∨ j = 4 ∨ j = 5 ∨ j = 6 := by omega
      rcases hj with rfl | rfl | rfl | rfl | rfl | rfl | rfl
      · rw [h_1_0]; exact SameD.nest i_A
      · rw [h_1_1]; exact SameD.int i_nd
      · rw [h_1_2]; exact SameD.int i_pr
      · rw [h_1_3]; exact SameD.rfl' _
      · rw [h_1_4]; exact SameD.rfl' _
      · rw [h_1_5]; exact SameD.rfl' _
      · rw [h_1_6]; exact SameD.rfl' _), SameD.rfl' _, SameD.rfl' _, SameD.rfl' _, trivial⟩ (calls_of_defer (C := cx [46] [] [] [] (some [8, 9, 10, 11])) (cx_ok trivial trivial) (g := 43) (fn := Try.f43) (fn_43) rfl rfl
    (args := [.rptr 7 (fun j => nth [.row n 5 (nestF 0 2 (nsA f_A) (nsM 0 f_A) (nsV 0 f_A)), .row h 1 (rowF .i64 (ivf f_nd)), .row q 1 (rowF .i64 (ivf f_pr)), .int .i64 st, .int .i64 ro, .int .i64 pk, .int .i64 fr] j), .agg [.int .i64 oa, .int .i64 ob, .int .i64 oc, .int .i64 sto, .int .i64 spk], .int .i64 hr, .agg [.int .i64 ca, .int .i64 cb, .int .i64 cc]]) (K := fun o h' => ∃ u, o = .ret u ∧ Fl u ∧ u = hrS (hourP ⟨n, (nsA f_A), (nsM 0 f_A), (nsV 0 f_A), h, (ivf f_nd), (ivf f_pr), st, ro, pk, fr⟩ ⟨⟨oa, ob, oc⟩, sto, spk⟩ hr.toNat ⟨ca, cb, cc⟩)) 1000 1000 ?_))⟩
  generalize nsA f_A = A at *
  generalize nsM 0 f_A = M at *
  generalize nsV 0 f_A = V at *
  generalize ivf f_nd = nd at *
  generalize ivf f_pr = pr at *
  simp only [rowF_eq]
  simp only [nestF_eq, nestR_lit, nsM_lit, nsV_lit, Try.f43, go_sem, ↓reduceIte, Nat.reduceAdd, Nat.reduceSub, Nat.reduceMul, Nat.reduceEqDiff, Nat.reduceLT, Nat.reduceLeDiff, Int.reduceToNat, Int.reduceLE, Int.reduceLT, Int.reduceEq, Int.reduceNeg, reduceCtorEq]
  obtain ⟨rfl, hD, hs, hc, hh0, hh⟩ := pre
  obtain ⟨k, rfl⟩ : ∃ k : Nat, hr = k := ⟨hr.toNat, by omega⟩
  have hp := pass0 hD hs hc (hr := k) (by simp only []; omega)
  simp only [prC, psS, tS] at hp
  unfold callS
  refine calls_mono ?_ (calls_lend (K := fun o => o = resP (hourP ⟨n, A, M, V, q, nd, pr, st, ro, pk, fr⟩ ⟨⟨oa, ob, oc⟩, sto, spk⟩ k ⟨ca, cb, cc⟩)) ?_ ?_)
  rotate_left
  · simp only [go_sem, ↓reduceIte, Nat.reduceAdd, Nat.reduceSub, Nat.reduceMul, Nat.reduceEqDiff, Nat.reduceLT, Nat.reduceLeDiff, Int.reduceToNat, Int.reduceLE, Int.reduceLT, Int.reduceEq, Int.reduceNeg, reduceCtorEq]
    exact fun j _ => Bd_nth (prC_bd ⟨n, A, M, V, q, nd, pr, st, ro, pk, fr⟩ 0 0) j
  · simp only [go_sem, ↓reduceIte, Nat.reduceAdd, Nat.reduceSub, Nat.reduceMul, Nat.reduceEqDiff, Nat.reduceLT, Nat.reduceLeDiff, Int.reduceToNat, Int.reduceLE, Int.reduceLT, Int.reduceEq, Int.reduceNeg, reduceCtorEq]
    exact hp
  rintro o h' ⟨rfl, rfl⟩
  simp only [Int.toNat_natCast]
  by_cases he : (hourP ⟨n, A, M, V, q, nd, pr, st, ro, pk, fr⟩ ⟨⟨oa, ob, oc⟩, sto, spk⟩ k ⟨ca, cb, cc⟩).e = 0
  · generalize hourP ⟨n, A, M, V, q, nd, pr, st, ro, pk, fr⟩ ⟨⟨oa, ob, oc⟩, sto, spk⟩ k ⟨ca, cb, cc⟩ = r at he
    simp only [resP, he, if_true, nestF_eq, nestR_lit, nsM_lit, nsV_lit, Try.f43, psS, hrS, go_sem, ↓reduceIte, Nat.reduceAdd, Nat.reduceSub, Nat.reduceMul, Nat.reduceEqDiff, Nat.reduceLT, Nat.reduceLeDiff, Int.reduceToNat, Int.reduceLE, Int.reduceLT, Int.reduceEq, Int.reduceNeg, reduceCtorEq]
    refine defS_mono (def59_none _ _) (fun p' h' ⟨e1, e2⟩ => ?_)
    rw [e1, e2]
    simp only [nestF_eq, nestR_lit, nsM_lit, nsV_lit, Try.f43, go_sem, ↓reduceIte, Nat.reduceAdd, Nat.reduceSub, Nat.reduceMul, Nat.reduceEqDiff, Nat.reduceLT, Nat.reduceLeDiff, Int.reduceToNat, Int.reduceLE, Int.reduceLT, Int.reduceEq, Int.reduceNeg, reduceCtorEq]
  · rw [hourP_bad he]
    generalize (hourP ⟨n, A, M, V, q, nd, pr, st, ro, pk, fr⟩ ⟨⟨oa, ob, oc⟩, sto, spk⟩ k ⟨ca, cb, cc⟩).e = m at he
    rw [resP_bad he]
    simp only [nestF_eq, nestR_lit, nsM_lit, nsV_lit, Try.f43, psS, hrS, badH, go_sem, ↓reduceIte, Nat.reduceAdd, Nat.reduceSub, Nat.reduceMul, Nat.reduceEqDiff, Nat.reduceLT, Nat.reduceLeDiff, Int.reduceToNat, Int.reduceLE, Int.reduceLT, Int.reduceEq, Int.reduceNeg, reduceCtorEq]
    refine defS_mono (def59_some _ _ m 0 rfl) (fun p' h' ⟨e1, e2⟩ => ?_)
    rw [e1, e2]
    simp only [nestF_eq, nestR_lit, nsM_lit, nsV_lit, Try.f43, go_sem, ↓reduceIte, Nat.reduceAdd, Nat.reduceSub, Nat.reduceMul, Nat.reduceEqDiff, Nat.reduceLT, Nat.reduceLeDiff, Int.reduceToNat, Int.reduceLE, Int.reduceLT, Int.reduceEq, Int.reduceNeg, reduceCtorEq]
end Go.Eng
end

/- press: the state at first. -/
section
namespace Go.Eng
open Go Go.RowKit Go.Proofs
set_option maxRecDepth 100000
set_option maxHeartbeats 4000000
attribute [local irreducible] OwnT DefS
def onI (A : Nat → Nat → Int) (i : Nat) : T3 := ⟨if 0 < i then A 0 4 else 0, if 1 < i then A 1 4 else 0, if 2 < i then A 2 4 else 0⟩
theorem onI_set (A : Nat → Nat → Int) {i : Nat} (h : i < 3) : (onI A i).set i (A i 4) = onI A (i + 1) := by
  rcases (by omega : i = 0 ∨ i = 1 ∨ i = 2) with rfl | rfl | rfl <;> rfl
theorem onI_get (A : Nat → Nat → Int) {i j : Nat} (h : j < i) (hj : j < 3) : (onI A i).get j = A j 4 := by
  rcases (by omega : j = 0 ∨ j = 1 ∨ j = 2) with rfl | rfl | rfl <;> simp [onI, T3.get, h]
theorem onI_get0 (A : Nat → Nat → Int) {i j : Nat} (h : ¬ j < i) (hj : j < 3) : (onI A i).get j = 0 := by
  rcases (by omega : j = 0 ∨ j = 1 ∨ j = 2) with rfl | rfl | rfl <;> simp [onI, T3.get] <;> omega
def begP (D : PD) : PS := ⟨onI D.A D.n, D.st, 0⟩
theorem begP_ok {D : PD} (hD : D.Ok) : stOk D (begP D) := by
  refine ⟨fun i hi => ?_, ?_, ?_⟩
  · simp only [begP]
    by_cases h : i < D.n
    · rw [onI_get _ h hi]
      have := hD.on i h
      have := hD.oil i h
      omega
    · rw [onI_get0 _ h hi]; omega
  · have := hD.st; have := hD.ro; simp only [begP]; omega
  · simp only [begP]; omega
def beginBase : BaseF := fun args => match args with
  | [.rptr sz_1 c_1] => (match c_1 0, c_1 1, c_1 2, c_1 3, c_1 4, c_1 5, c_1 6 with | .row n sz_A f_A, .row h sz_nd f_nd, .row q sz_pr f_pr, .int .i64 st, .int .i64 ro, .int .i64 pk, .int .i64 fr => some ((sz_1 = 7) ∧ (sz_A = 5 ∧ NestR n 5 0 2 f_A) ∧ (sz_nd = 1 ∧ IntR h 1 f_nd) ∧ (sz_pr = 1 ∧ IntR q 1 f_pr) ∧ (n ≤ 3), psS ⟨onI (nsA f_A) n, st, 0⟩) | _, _, _, _, _, _, _ => none)
  | _ => none
theorem begin_eq (sz_1 : Nat) (c_1 : Nat → SV) : beginBase [.rptr sz_1 c_1] = (match c_1 0, c_1 1, c_1 2, c_1 3, c_1 4, c_1 5, c_1 6 with | .row n sz_A f_A, .row h sz_nd f_nd, .row q sz_pr f_pr, .int .i64 st, .int .i64 ro, .int .i64 pk, .int .i64 fr => some ((sz_1 = 7) ∧ (sz_A = 5 ∧ NestR n 5 0 2 f_A) ∧ (sz_nd = 1 ∧ IntR h 1 f_nd) ∧ (sz_pr = 1 ∧ IntR q 1 f_pr) ∧ (n ≤ 3), psS ⟨onI (nsA f_A) n, st, 0⟩) | _, _, _, _, _, _, _ => none) := rfl
theorem begin_base : Base Try.prog 44 beginBase := by
  intro args p v hq hp
  unfold beginBase at hq
  split at hq
  rotate_left
  · cases hq
  rename_i sz_1 c_1
  split at hq
  rotate_left
  · cases hq
  rename_i n sz_A f_A h sz_nd f_nd q sz_pr f_pr st ro pk fr h_1_0 h_1_1 h_1_2 h_1_3 h_1_4 h_1_5 h_1_6
  cases hq
  obtain ⟨rfl, ⟨rfl, i_A⟩, ⟨rfl, i_nd⟩, ⟨rfl, i_pr⟩, pre⟩ := hp
  refine base_of (C := cx [] [] [] [] none) (cx_ok trivial trivial) rfl (g := 44) (fn := Try.f44)
    (args' := [.rptr 7 (fun j => nth [.row n 5 (nestF 0 2 (nsA f_A) (nsM 0 f_A) (nsV 0 f_A)), .row h 1 (rowF .i64 (ivf f_nd)), .row q 1 (rowF .i64 (ivf f_pr)), .int .i64 st, .int .i64 ro, .int .i64 pk, .int .i64 fr] j)]) (fn_44) rfl 1000 (by
    simp only [BdL, Bd, and_self, and_true, true_and]
    exact (fun j hj => by
      have hj : j = 0 ∨ j = 1 ∨ j = 2 ∨ j = 3 ∨ j = 4 ∨ j = 5 ∨ j = 6 := by omega
      rcases hj with rfl | rfl | rfl | rfl | rfl | rfl | rfl
      · rw [h_1_0]; simp only [BdL, Bd, and_self, and_true, true_and]; exact (fun i j hi hj => nest_bd i_A i j hi hj)
      · rw [h_1_1]; simp only [BdL, Bd, and_self, and_true, true_and]; exact (fun i j hi hj => by rw [i_nd i j hi hj]; trivial)
      · rw [h_1_2]; simp only [BdL, Bd, and_self, and_true, true_and]; exact (fun i j hi hj => by rw [i_pr i j hi hj]; trivial)
      · rw [h_1_3]; simp only [BdL, Bd, and_self, and_true, true_and]
      · rw [h_1_4]; simp only [BdL, Bd, and_self, and_true, true_and]
      · rw [h_1_5]; simp only [BdL, Bd, and_self, and_true, true_and]
      · rw [h_1_6]; simp only [BdL, Bd, and_self, and_true, true_and])) ⟨SameD.rptr (fun j hj => by
      have hj : j = 0 ∨ j = 1 ∨ j = 2 ∨ j = 3 ∨ j = 4 ∨ j = 5 ∨ j = 6 := by omega
      rcases hj with rfl | rfl | rfl | rfl | rfl | rfl | rfl
      · rw [h_1_0]; exact SameD.nest i_A
      · rw [h_1_1]; exact SameD.int i_nd
      · rw [h_1_2]; exact SameD.int i_pr
      · rw [h_1_3]; exact SameD.rfl' _
      · rw [h_1_4]; exact SameD.rfl' _
      · rw [h_1_5]; exact SameD.rfl' _
      · rw [h_1_6]; exact SameD.rfl' _), trivial⟩ ?_
  generalize nsA f_A = A at *
  generalize nsM 0 f_A = M at *
  generalize nsV 0 f_A = V at *
  generalize ivf f_nd = nd at *
  generalize ivf f_pr = pr at *
  simp only [rowF_eq]
  simp only [nestF_eq, nestR_lit, nsM_lit, nsV_lit, Try.f44, go_sem, ↓reduceIte, Nat.reduceAdd, Nat.reduceSub, Nat.reduceMul, Nat.reduceEqDiff, Nat.reduceLT, Nat.reduceLeDiff, Int.reduceToNat, Int.reduceLE, Int.reduceLT, Int.reduceEq, Int.reduceNeg, reduceCtorEq]
  refine loop_ofH { i : Nat // i ≤ n } (fun i => [(16, .int .i64 (i.1 : Int)), (15, .int .i64 (n : Int)), (14, .row n 5 (nestF 0 2 A M V)), (3, .ptr 1 0), (2, .ptr 0 0)])
    (fun h i => ⟨[getB h.blks 0, .live 120 [.int .i64 (onI A i.1).a, .int .i64 (onI A i.1).b, .int .i64 (onI A i.1).c, .int .i64 st, .int .i64 0]], []⟩) (fun i => n - i.1) (fun _ => ⟨rfl, rfl⟩) ⟨0, by omega⟩ (by (apply sub_of <;> simp only [go_sem, ↓reduceIte, Nat.reduceAdd, Nat.reduceSub, Nat.reduceMul, Nat.reduceEqDiff, Nat.reduceLT, Nat.reduceLeDiff, Int.reduceToNat, Int.reduceLE, Int.reduceLT, Int.reduceEq, Int.reduceNeg, reduceCtorEq] <;> (try simp [catF]) <;> (try exact fun j _ => Bd_nth (by simp [BdL, Bd]) j) <;> (try exact bd_setL (by simp [bdAs, BdL, Bd])) <;> (try exact nestF_bd _ _ _ _ _ _ _ _ _)); exact ⟨rfl, rfl, rfl⟩) ?_
  rintro ⟨i, hi⟩
  rcases Nat.lt_or_ge i n with hin | hin
  · have h3 : i < 3 := by omega
    have v5 := fun x y z v => T3.over5 x y z v h3
    have hw3 : IntKind.i64.wrap ((i : Int) + 1) = ((i + 1 : Nat) : Int) := by rw [wrap_id (by omega) (by omega)]; omega
    simp only [v5, onI_set A h3, nestF_eq, nestR_lit, nsM_lit, nsV_lit, Try.f44, go_sem, ↓reduceIte, Nat.reduceAdd, Nat.reduceSub, Nat.reduceMul, Nat.reduceEqDiff, Nat.reduceLT, Nat.reduceLeDiff, Int.reduceToNat, Int.reduceLE, Int.reduceLT, Int.reduceEq, Int.reduceNeg, reduceCtorEq]
    refine ⟨fun _ => ⟨⟨by omega, by omega⟩, ⟨by omega, by omega⟩, by omega, ⟨i + 1, by omega⟩, by simp only []; omega, ?_⟩, fun e => absurd e (by simp; omega)⟩
    apply sub_of <;> simp only [hw3, go_sem, ↓reduceIte, Nat.reduceAdd, Nat.reduceSub, Nat.reduceMul, Nat.reduceEqDiff, Nat.reduceLT, Nat.reduceLeDiff, Int.reduceToNat, Int.reduceLE, Int.reduceLT, Int.reduceEq, Int.reduceNeg, reduceCtorEq] <;> (try simp) <;> (try exact fun j _ => Bd_nth (by simp [BdL, Bd]) j) <;> (try exact bd_setL (by simp [bdAs, BdL, Bd])) <;> (try exact nestF_bd _ _ _ _ _ _ _ _ _)
  · obtain rfl : i = n := by omega
    simp only [nestF_eq, nestR_lit, nsM_lit, nsV_lit, Try.f44, go_sem, ↓reduceIte, Nat.reduceAdd, Nat.reduceSub, Nat.reduceMul, Nat.reduceEqDiff, Nat.reduceLT, Nat.reduceLeDiff, Int.reduceToNat, Int.reduceLE, Int.reduceLT, Int.reduceEq, Int.reduceNeg, reduceCtorEq]
    exact ⟨fun e => absurd e (by simp), fun _ => rfl⟩
end Go.Eng
end

/- press: all choices, and the best way on. No program in sight. -/
section
namespace Go.Eng
open Go Go.RowKit Go.Proofs
set_option maxRecDepth 100000
set_option maxHeartbeats 4000000
attribute [local irreducible] OwnT DefS
def rad (D : PD) (i : Nat) : Nat := if i < D.n then D.M i + 1 else 1
def tot (D : PD) : Nat := rad D 0 * (rad D 1 * rad D 2)
/-- The q-th choices. -/
def dig (D : PD) (q : Nat) : T3 := ⟨(q / (rad D 1 * rad D 2) : Nat), (q / rad D 2 % rad D 1 : Nat), (q % rad D 2 : Nat)⟩
/-- From m on they are off. -/
def zr (m : Nat) (c : T3) : T3 := ⟨if m ≤ 0 then 0 else c.a, if m ≤ 1 then 0 else c.b, if m ≤ 2 then 0 else c.c⟩
theorem zr_set (c : T3) {m : Nat} (h : m < 3) : (zr (m + 1) c).set m 0 = zr m c := by
  rcases (by omega : m = 0 ∨ m = 1 ∨ m = 2) with rfl | rfl | rfl <;> simp [zr, T3.set]
theorem zr_get (c : T3) {m i : Nat} (h : i < m) (h3 : i < 3) : (zr m c).get i = c.get i := by
  rcases (by omega : i = 0 ∨ i = 1 ∨ i = 2) with rfl | rfl | rfl <;> simp [zr, T3.get] <;> omega
theorem M_cases {D : PD} (hD : D.Ok) : (D.n = 1 ∧ (D.M 0 = 1 ∨ D.M 0 = 2)) ∨ (D.n = 2 ∧ (D.M 0 = 1 ∨ D.M 0 = 2) ∧ (D.M 1 = 1 ∨ D.M 1 = 2)) ∨ (D.n = 3 ∧ (D.M 0 = 1 ∨ D.M 0 = 2) ∧ (D.M 1 = 1 ∨ D.M 1 = 2) ∧ (D.M 2 = 1 ∨ D.M 2 = 2)) := by
  have hn := hD.n
  have h0 := hD.M 0 (by omega)
  by_cases h1 : 1 < D.n
  · have g1 := hD.M 1 h1
    by_cases h2 : 2 < D.n
    · have g2 := hD.M 2 h2
      exact .inr (.inr ⟨by omega, by omega, by omega, by omega⟩)
    · exact .inr (.inl ⟨by omega, by omega, by omega⟩)
  · exact .inl ⟨by omega, by omega⟩
theorem dig_ok {D : PD} (hD : D.Ok) {q : Nat} (hq : q < tot D) : chOk D (dig D q) := by
  intro i hi
  unfold tot at hq
  rcases M_cases hD with ⟨e, m0 | m0⟩ | ⟨e, m0 | m0, m1 | m1⟩ | ⟨e, m0 | m0, m1 | m1, m2 | m2⟩
  all_goals
    simp only [rad, e, m0, dig] at hq ⊢
    simp at hq ⊢
    rw [e] at hi
    rcases (by omega : i = 0 ∨ i = 1 ∨ i = 2) with rfl | rfl | rfl
    all_goals first | omega | (simp only [T3.get]; simp [*] at hq ⊢; omega)
theorem dig_zr {D : PD} (hD : D.Ok) (q : Nat) : zr D.n (dig D q) = dig D q := by
  rcases M_cases hD with ⟨e, m0⟩ | ⟨e, m0, m1⟩ | ⟨e, m0, m1, m2⟩
  all_goals simp [zr, dig, e, rad, Nat.mod_one]
theorem dig_next {D : PD} (hD : D.Ok) {q m : Nat} (hq : q < tot D) (hm : m < D.n) (hx : ∀ t, m < t → t < D.n → (dig D q).get t = D.M t) (hne : (dig D q).get m ≠ D.M m) :
    q + 1 < tot D ∧ (zr (m + 1) (dig D q)).set m ((dig D q).get m + 1) = dig D (q + 1) := by
  unfold tot at hq ⊢
  have x1 := hx 1
  have x2 := hx 2
  rcases (by have := hD.n; omega : m = 0 ∨ m = 1 ∨ m = 2) with rfl | rfl | rfl
  all_goals
    rcases M_cases hD with ⟨e, m0 | m0⟩ | ⟨e, m0 | m0, m1 | m1⟩ | ⟨e, m0 | m0, m1 | m1, m2 | m2⟩
  all_goals
    simp [rad, *, T3.get, dig, zr, T3.set] at hq x1 x2 hne hm ⊢
  all_goals
    try omega
theorem dig_last {D : PD} (hD : D.Ok) {q : Nat} (hq : q < tot D) (hx : ∀ t, t < D.n → (dig D q).get t = D.M t) : q + 1 = tot D := by
  unfold tot at hq ⊢
  have x0 := hx 0
  have x1 := hx 1
  have x2 := hx 2
  rcases M_cases hD with ⟨e, m0 | m0⟩ | ⟨e, m0 | m0, m1 | m1⟩ | ⟨e, m0 | m0, m1 | m1, m2 | m2⟩
  all_goals
    simp [rad, *, T3.get, dig] at hq x0 x1 x2 ⊢
  all_goals
    try omega
theorem tot_pos (D : PD) : 0 < tot D := by
  unfold tot rad
  refine Nat.mul_pos ?_ (Nat.mul_pos ?_ ?_) <;> split <;> omega
theorem dig_0 (D : PD) : dig D 0 = ⟨0, 0, 0⟩ := by simp [dig]
def candM (D : PD) (rest : PS → Option (Int × T3)) (s : PS) (hr : Nat) (c : T3) : Option Int :=
  if (hourP D s hr c).e = 0 then (match rest (hourP D s hr c).s with
    | some x => some ((hourP D s hr c).en + (hourP D s hr c).sta + x.1)
    | none => none) else none
def pickM (D : PD) (f : T3 → Option Int) : Nat → Option (Int × T3)
  | 0 => none
  | q + 1 => match f (dig D q) with
    | none => pickM D f q
    | some x => match pickM D f q with
      | none => some (x, dig D q)
      | some y => if x < y.1 then some (x, dig D q) else some y
/-- The least that is left to be paid with k hours left, and the choices with which; none: no plan can be. -/
def bestM (D : PD) : Nat → PS → Option (Int × T3)
  | 0, s => some (s.pk * D.pk, ⟨0, 0, 0⟩)
  | k + 1, s => pickM D (candM D (bestM D k) s (D.h - (k + 1))) (tot D)
theorem pickM_all {D : PD} {f : T3 → Option Int} {P : Int × T3 → Prop} : ∀ (k : Nat), (∀ q x, q < k → f (dig D q) = some x → P (x, dig D q)) → ∀ y, pickM D f k = some y → P y
  | 0, _, y, h => by cases h
  | k + 1, h, y, hy => by
    simp only [pickM] at hy
    split at hy
    · exact pickM_all k (fun q x hq => h q x (by omega)) y hy
    · rename_i x hx
      split at hy
      · cases hy; exact h k x (by omega) hx
      · rename_i z hz
        split at hy
        · cases hy; exact h k x (by omega) hx
        · cases hy; exact pickM_all k (fun q x hq => h q x (by omega)) _ hz
theorem bestM_ok {D : PD} (hD : D.Ok) : ∀ (k : Nat) (s : PS), k ≤ D.h → stOk D s → ∀ y, bestM D k s = some y → (0 ≤ y.1 ∧ y.1 ≤ 30000000 + k * 30030000) ∧ chOk D y.2
  | 0, s, _, hs, y, h => by
    cases h
    have hpk := hD.pk
    have q1 := mulB (x := s.pk) (y := D.pk) (m := 3000) (k := 10000) hs.2.2 hpk
    refine ⟨by simp only []; omega, fun i hi => ?_⟩
    have := (hD.M i hi).1
    rcases (by have := hD.n; omega : i = 0 ∨ i = 1 ∨ i = 2) with rfl | rfl | rfl <;> simp [T3.get]
  | k + 1, s, hk, hs, y, h => by
    simp only [bestM] at h
    refine pickM_all (P := fun y => (0 ≤ y.1 ∧ y.1 ≤ 30000000 + ((k + 1 : Nat) : Int) * 30030000) ∧ chOk D y.2) _ (fun q x hq hx => ?_) y h
    have hc := dig_ok hD hq
    unfold candM at hx
    split at hx
    · rename_i he
      split at hx
      · rename_i z hz
        cases hx
        obtain ⟨h1, h2, h3⟩ := hourP_ok hD hs hc (by omega) he
        obtain ⟨g1, g2⟩ := bestM_ok hD k _ (by omega) h1 z hz
        refine ⟨?_, hc⟩
        simp only []
        omega
      · cases hx
    · cases hx
end Go.Eng
end

/- press: the best way on, with what is known of before. -/
section
namespace Go.Eng
open Go Go.RowKit Go.Proofs
set_option maxRecDepth 100000
set_option maxHeartbeats 4000000
attribute [local irreducible] OwnT DefS
def keyL (hr : Int) (s : PS) : List Int := [hr, s.on.a, s.on.b, s.on.c, s.sto, s.pk]
def wx : Option (Int × T3) → Int
  | none => 0
  | some x => x.1
def wc : Option (Int × T3) → T3
  | none => ⟨0, 0, 0⟩
  | some x => x.2
def wayL (x : Option (Int × T3)) : List Int := [b2i x.isNone, wx x, (wc x).a, (wc x).b, (wc x).c]
def wayC (x : Option (Int × T3)) : List SV := [.bool x.isNone, .int .i64 (wx x), .int .i64 (wc x).a, .int .i64 (wc x).b, .int .i64 (wc x).c]
theorem stepP_ns {n : Nat} {A : Nat → Nat → Int} {M : Nat → Nat} {V : Nat → Nat → Nat → Int} {h : Nat} {nd pr : Nat → Nat → Int} {st ro pk fr : Int} (on c : T3) (i : Nat) (a : PA) :
    stepP ⟨n, nsA (nestF 0 2 A M V), M, V, h, nd, pr, st, ro, pk, fr⟩ on c i a = stepP ⟨n, A, M, V, h, nd, pr, st, ro, pk, fr⟩ on c i a := by
  simp only [stepP, nsA_lit i (show 1 ≠ 0 by omega), nsA_lit i (show 2 ≠ 0 by omega), nsA_lit i (show 3 ≠ 0 by omega)]
theorem stepsP_ns {n : Nat} {A : Nat → Nat → Int} {M : Nat → Nat} {V : Nat → Nat → Nat → Int} {h : Nat} {nd pr : Nat → Nat → Int} {st ro pk fr : Int} (on c : T3) (s : Int) : ∀ i,
    stepsP ⟨n, nsA (nestF 0 2 A M V), M, V, h, nd, pr, st, ro, pk, fr⟩ on c s i = stepsP ⟨n, A, M, V, h, nd, pr, st, ro, pk, fr⟩ on c s i
  | 0 => rfl
  | i + 1 => by simp only [stepsP, stepsP_ns on c s i, stepP_ns]
theorem hourP_ns {n : Nat} {A : Nat → Nat → Int} {M : Nat → Nat} {V : Nat → Nat → Nat → Int} {h : Nat} {nd pr : Nat → Nat → Int} {st ro pk fr : Int} (s : PS) (hr : Nat) (c : T3) :
    hourP ⟨n, nsA (nestF 0 2 A M V), M, V, h, nd, pr, st, ro, pk, fr⟩ s hr c = hourP ⟨n, A, M, V, h, nd, pr, st, ro, pk, fr⟩ s hr c := by
  simp only [hourP, stepsP_ns]
theorem Ok_ns {n : Nat} {A : Nat → Nat → Int} {M : Nat → Nat} {V : Nat → Nat → Nat → Int} {h : Nat} {nd pr : Nat → Nat → Int} {st ro pk fr : Int} :
    PD.Ok ⟨n, nsA (nestF 0 2 A M V), M, V, h, nd, pr, st, ro, pk, fr⟩ = PD.Ok ⟨n, A, M, V, h, nd, pr, st, ro, pk, fr⟩ := by
  have e1 : ∀ i, nsA (nestF 0 2 A M V) i 1 = A i 1 := fun i => nsA_lit i (by omega)
  have e2 : ∀ i, nsA (nestF 0 2 A M V) i 2 = A i 2 := fun i => nsA_lit i (by omega)
  have e3 : ∀ i, nsA (nestF 0 2 A M V) i 3 = A i 3 := fun i => nsA_lit i (by omega)
  have e4 : ∀ i, nsA (nestF 0 2 A M V) i 4 = A i 4 := fun i => nsA_lit i (by omega)
  apply propext
  constructor
  · intro H
    have h5 := H.oil; have h6 := H.least; have h7 := H.on; have h8 := H.start
    simp only [e1, e2, e3, e4] at h5 h6 h7 h8
    exact ⟨H.n, H.h, H.nd, H.pr, h5, h6, h7, h8, H.M, H.pow, H.cold, H.ro, H.st, H.pk, H.fr⟩
  · intro H
    have h5 := H.oil; have h6 := H.least; have h7 := H.on; have h8 := H.start
    refine ⟨H.n, H.h, H.nd, H.pr, ?_, ?_, ?_, ?_, H.M, H.pow, H.cold, H.ro, H.st, H.pk, H.fr⟩ <;> simp only [e1, e2, e3, e4] <;> assumption
def Known (D : PD) (es : List (List Int × List Int)) : Prop :=
  ∀ (i : Nat) (s : PS) (v : List Int), i ≤ D.h → findM es (keyL i s) = some v → v = wayL (bestM D (D.h - i) s)
theorem findM_put : ∀ (es : List (List Int × List Int)) (k v k' : List Int), findM (putM es k v) k' = if k = k' then some v else findM es k'
  | [], k, v, k' => by simp [putM, findM]
  | (k0, v0) :: es, k, v, k' => by
    simp only [putM]
    split
    · rename_i h; subst h
      simp only [findM]
      split <;> rfl
    · rename_i h
      simp only [findM, findM_put es k v k']
      by_cases h1 : k0 = k'
      · subst h1
        rw [if_pos rfl, if_neg (fun e => h e.symm), if_pos rfl]
      · rw [if_neg h1, if_neg h1]
theorem known_put {D : PD} {es : List (List Int × List Int)} (h : Known D es) {i : Nat} {s : PS} {v : List Int} (hv : v = wayL (bestM D (D.h - i) s)) : Known D (putM es (keyL i s) v) := by
  intro i' s' v' hi hf
  rw [findM_put] at hf
  split at hf
  · rename_i e
    obtain ⟨⟨sa, sb, sc⟩, st, sp⟩ := s
    obtain ⟨⟨ta, tb, tc⟩, tt, tp⟩ := s'
    simp only [keyL, List.cons.injEq, and_true] at e
    obtain ⟨e1, rfl, rfl, rfl, rfl, rfl⟩ := e
    obtain rfl : i = i' := by omega
    cases hf
    exact hv
  · exact h i' s' v' hi hf
def mpS (es : List (List Int × List Int)) : MapS := ⟨122, 124, true, [.i, .i, .i, .i, .i, .i], true, [.b, .i, .i, .i, .i], es, none⟩
def bestH (D : PD) (es : List (List Int × List Int)) : List Blk :=
  [.live 51 (prC D), .mp (mpS es), .live 115 [.mapp 1], .live 116 [.func 41 [.ptr 0 0, .ptr 2 0, .ptr 3 0]]]
def catB : List Blk → List Blk → List Blk
  | [], k => k
  | x :: l, k => x :: catB l k
theorem lenB_cat : ∀ (k l : List Blk), lenB (catB k l) = lenB k + lenB l
  | [], l => by simp [catB, lenB]
  | x :: k, l => by simp only [catB, lenB, lenB_cat k l]; omega
def spS (hr : Int) (s : PS) : SV := .agg [.int .i64 hr, .int .i64 s.on.a, .int .i64 s.on.b, .int .i64 s.on.c, .int .i64 s.sto, .int .i64 s.pk]
theorem prC_ren (D : PD) (b v : Nat → Nat) : renL b v (prC D) = prC D := by
  have h : (fun i j => renS b v (nestF 0 2 D.A D.M D.V i j)) = nestF 0 2 D.A D.M D.V := by
    funext i j
    simp only [nestF]
    split <;> simp only [renS]
  simp only [prC, renL, renS, h]
theorem prC_sub (D : PD) : subL (prC D) (prC D) := by simp [prC, subL, subX]
theorem best_trim {D : PD} {args : List SV} {es : List (List Int × List Int)} {w : Option (Int × T3)}
    (h : CallsS Try.prog 41 args ⟨bestH D es, []⟩ (fun o h' => ∃ es' ext V, Known D es' ∧ o = .ret (.agg (wayC w)) ∧ h' = ⟨catB (bestH D es') ext, V⟩)) :
    CallsS Try.prog 41 args ⟨bestH D es, []⟩ (fun o h' => ∃ es', Known D es' ∧ o = .ret (.agg (wayC w)) ∧ h' = ⟨bestH D es', []⟩) := by
  refine calls_trim h ?_
  rintro o h' ⟨es', ext, V, h1, rfl, rfl⟩
  refine ⟨.agg (wayC w), .agg (wayC w), ⟨bestH D es', []⟩, ⟨rfl, es', h1, rfl, rfl⟩, ⟨?_, ?_, ?_, ?_, ?_, ?_⟩, ⟨?_, ?_⟩, ⟨?_, ?_⟩⟩ <;> simp only [wayC, bestH, catB, go_sem, ↓reduceIte, Nat.reduceAdd, Nat.reduceSub, Nat.reduceMul, Nat.reduceEqDiff, Nat.reduceLT, Nat.reduceLeDiff, Int.reduceToNat, Int.reduceLE, Int.reduceLT, Int.reduceEq, Int.reduceNeg, reduceCtorEq] <;> (try simp)
  all_goals first | exact prC_bd D _ _ | exact prC_sub D | exact ⟨prC_sub D, rfl⟩ | exact ⟨prC_bd D _ _, trivial⟩ | exact ⟨prC_bd D _ _, rfl⟩
theorem best_frame {D : PD} {hr : Int} {s : PS} {es : List (List Int × List Int)} {w : Option (Int × T3)} (rest : List Blk) (V : List Vc)
    (h : CallsS Try.prog 41 [spS hr s, .ptr 0 0, .ptr 2 0, .ptr 3 0] ⟨bestH D es, []⟩ (fun o h' => ∃ es', Known D es' ∧ o = .ret (.agg (wayC w)) ∧ h' = ⟨bestH D es', []⟩)) :
    CallsS Try.prog 41 [spS hr s, .ptr 0 0, .ptr 2 0, .ptr 3 0] ⟨catB (bestH D es) rest, V⟩ (fun o h' => ∃ es', Known D es' ∧ o = .ret (.agg (wayC w)) ∧ h' = ⟨catB (bestH D es') rest, V⟩) := by
  have := calls_ren (h := ⟨catB (bestH D es) rest, V⟩) [0, 1, 2, 3] [] h (by decide) (by decide) (by simp [spS, BdL, Bd]) (by simp [bestH, bdB, BdL, Bd]; exact ⟨prC_bd D _ _, rfl⟩) (by simp only [go_sem, ↓reduceIte, Nat.reduceAdd, Nat.reduceSub, Nat.reduceMul, Nat.reduceEqDiff, Nat.reduceLT, Nat.reduceLeDiff, Int.reduceToNat, Int.reduceLE, Int.reduceLT, Int.reduceEq, Int.reduceNeg, reduceCtorEq])
    (by simp only [bestH, catB, prC_ren, go_sem, ↓reduceIte, Nat.reduceAdd, Nat.reduceSub, Nat.reduceMul, Nat.reduceEqDiff, Nat.reduceLT, Nat.reduceLeDiff, Int.reduceToNat, Int.reduceLE, Int.reduceLT, Int.reduceEq, Int.reduceNeg, reduceCtorEq]) (by simp only [go_sem, ↓reduceIte, Nat.reduceAdd, Nat.reduceSub, Nat.reduceMul, Nat.reduceEqDiff, Nat.reduceLT, Nat.reduceLeDiff, Int.reduceToNat, Int.reduceLE, Int.reduceLT, Int.reduceEq, Int.reduceNeg, reduceCtorEq]) (by intro k hk; simp only [lenB_cat, bestH, go_sem, ↓reduceIte, Nat.reduceAdd, Nat.reduceSub, Nat.reduceMul, Nat.reduceEqDiff, Nat.reduceLT, Nat.reduceLeDiff, Int.reduceToNat, Int.reduceLE, Int.reduceLT, Int.reduceEq, Int.reduceNeg, reduceCtorEq]; simp at hk; omega) (by simp)
    (by rintro o h' ⟨es', h1, rfl, rfl⟩; simp [wayC, bestH, bdO, bdB, bdV, BdL, Bd, lenB, lenV]; exact ⟨prC_bd D _ _, rfl⟩)
  refine calls_mono ?_ this
  rintro o h' ⟨o0, h0', ⟨es', h1, rfl, rfl⟩, rfl, rfl⟩
  refine ⟨es', h1, ?_, ?_⟩
  · simp only [wayC, go_sem, ↓reduceIte, Nat.reduceAdd, Nat.reduceSub, Nat.reduceMul, Nat.reduceEqDiff, Nat.reduceLT, Nat.reduceLeDiff, Int.reduceToNat, Int.reduceLE, Int.reduceLT, Int.reduceEq, Int.reduceNeg, reduceCtorEq]
  · simp only [bestH, catB, prC_ren, go_sem, ↓reduceIte, Nat.reduceAdd, Nat.reduceSub, Nat.reduceMul, Nat.reduceEqDiff, Nat.reduceLT, Nat.reduceLeDiff, Int.reduceToNat, Int.reduceLE, Int.reduceLT, Int.reduceEq, Int.reduceNeg, reduceCtorEq]
end Go.Eng
end

/- press: the best way on, evaluated. -/
section
namespace Go.Eng
open Go Go.RowKit Go.Proofs
set_option maxRecDepth 100000
set_option maxHeartbeats 4000000
attribute [local irreducible] OwnT DefS
theorem T3.over3 (x : T3) (v : Int) {i : Nat} (h : i < 3) : over [.int .i64 x.a, .int .i64 x.b, .int .i64 x.c] (i * 1) [.int .i64 v] = [.int .i64 (x.set i v).a, .int .i64 (x.set i v).b, .int .i64 (x.set i v).c] := by
  rcases (by omega : i = 0 ∨ i = 1 ∨ i = 2) with rfl | rfl | rfl <;> rfl
theorem wx_some (x : Int × T3) : wx (some x) = x.1 := rfl
theorem wc_some (x : Int × T3) : wc (some x) = x.2 := rfl
theorem best_calls {D : PD} (hD : D.Ok) : ∀ (k i : Nat) (s : PS) (es : List (List Int × List Int)), i + k = D.h → stOk D s → Known D es →
    CallsS Try.prog 41 [spS i s, .ptr 0 0, .ptr 2 0, .ptr 3 0] ⟨bestH D es, []⟩ (fun o h' => ∃ es', Known D es' ∧ o = .ret (.agg (wayC (bestM D k s))) ∧ h' = ⟨bestH D es', []⟩) := by
  have hh := hD.h
  have hpk := hD.pk
  intro k
  induction k with
  | zero =>
    intro i s es hi hs hes
    obtain rfl : i = D.h := by omega
    have q1 := mulB (x := s.pk) (y := D.pk) (m := 3000) (k := 10000) hs.2.2 hpk
    have w1 : IntKind.i64.wrap (s.pk * D.pk) = s.pk * D.pk := wrap_id (by omega) (by omega)
    refine best_trim (calls_of_run (C := cx [41] [] [(43, triedBase)] [] none) (cx_ok trivial ⟨tried_base, trivial⟩) rfl fn_41 rfl 1000 ?_)
    simp only [Try.f41, spS, bestH, mpS, prC, w1, go_sem, ↓reduceIte, Nat.reduceAdd, Nat.reduceSub, Nat.reduceMul, Nat.reduceEqDiff, Nat.reduceLT, Nat.reduceLeDiff, Int.reduceToNat, Int.reduceLE, Int.reduceLT, Int.reduceEq, Int.reduceNeg, reduceCtorEq]
    refine ⟨es, [.live 122 [.int .i64 D.h, .int .i64 s.on.a, .int .i64 s.on.b, .int .i64 s.on.c, .int .i64 s.sto, .int .i64 s.pk], .live 124 [.bool false, .int .i64 (s.pk * D.pk), .int .i64 0, .int .i64 0, .int .i64 0]], [], hes, rfl, rfl⟩
  | succ k ih =>
    intro i s es hi hs hes
    refine best_trim (calls_of_run (C := cx [41] [] [(43, triedBase)] [(97, 3, p97_3)] none) (cx_ok trivial ⟨tried_base, trivial⟩) rfl fn_41 rfl 1000 ?_)
    simp only [Try.f41, Try.f42, Try.f97, spS, bestH, mpS, prC, tried_eq, p97_3, go_sem, ↓reduceIte, Nat.reduceAdd, Nat.reduceSub, Nat.reduceMul, Nat.reduceEqDiff, Nat.reduceLT, Nat.reduceLeDiff, Int.reduceToNat, Int.reduceLE, Int.reduceLT, Int.reduceEq, Int.reduceNeg, reduceCtorEq]
    have ei : ((i : Int) = (D.h : Int)) = False := eq_false (by omega)
    simp only [ei, go_sem, ↓reduceIte, Nat.reduceAdd, Nat.reduceSub, Nat.reduceMul, Nat.reduceEqDiff, Nat.reduceLT, Nat.reduceLeDiff, Int.reduceToNat, Int.reduceLE, Int.reduceLT, Int.reduceEq, Int.reduceNeg, reduceCtorEq]
    have hlk : hasM es [(i : Int), s.on.a, s.on.b, s.on.c, s.sto, s.pk] = true → lookM es [(i : Int), s.on.a, s.on.b, s.on.c, s.sto, s.pk] = wayL (bestM D (k + 1) s) := fun h => by
      unfold hasM at h
      unfold lookM
      cases hf : findM es [(i : Int), s.on.a, s.on.b, s.on.c, s.sto, s.pk] with
      | none => rw [hf] at h; cases h
      | some v =>
        have := hes i s v (by omega) hf
        rw [show D.h - i = k + 1 by omega] at this
        simpa using this
    refine ⟨fun c2 => ?_, fun c2 => ?_⟩
    · rw [hlk c2]
      refine ⟨es, [.live 122 [.int .i64 (i : Int), .int .i64 s.on.a, .int .i64 s.on.b, .int .i64 s.on.c, .int .i64 s.sto, .int .i64 s.pk], .live 124 (wayC (bestM D (k + 1) s)), .live 124 (wayC (bestM D (k + 1) s))], [], hes, ?_, ?_⟩
      · simp only [wayL, wayC, gt]
        cases (bestM D (k + 1) s).isNone <;> simp [b2i]
      · simp only [wayL, wayC, gt, catB]
        cases (bestM D (k + 1) s).isNone <;> simp [b2i]
    have hbest : bestM D (k + 1) s = pickM D (candM D (bestM D k) s i) (tot D) := by
      simp only [bestM, show D.h - (k + 1) = i by omega]
    generalize hF : candM D (bestM D k) s i = F at hbest
    refine loop_ofH { x : Nat × List (List Int × List Int) // x.1 < tot D ∧ Known D x.2 } (fun x => [(3, .ptr 10 0), (1, .ptr 8 0), (0, .yield 9)])
      (fun h x => ⟨[.live 51 (prC D), .mp (mpS x.1.2), .live 115 [.mapp 1], .live 116 [.func 41 [.ptr 0 0, .ptr 2 0, .ptr 3 0]], getB h.blks 4, .live 124 [.bool false, .int .i64 0, .int .i64 0, .int .i64 0, .int .i64 0], getB h.blks 6, .live 124 (wayC (pickM D F x.1.1)), .live 129 [.ptr 0 0], getB h.blks 9, .live 118 [.int .i64 (dig D x.1.1).a, .int .i64 (dig D x.1.1).b, .int .i64 (dig D x.1.1).c]], []⟩)
      (fun x => tot D - x.1.1) (fun _ => ⟨rfl, rfl⟩) ⟨(0, es), tot_pos D, hes⟩ (by simp only [prC, mpS, wayC, pickM, dig_0]; (apply sub_of <;> simp only [go_sem, ↓reduceIte, Nat.reduceAdd, Nat.reduceSub, Nat.reduceMul, Nat.reduceEqDiff, Nat.reduceLT, Nat.reduceLeDiff, Int.reduceToNat, Int.reduceLE, Int.reduceLT, Int.reduceEq, Int.reduceNeg, reduceCtorEq] <;> (try simp [catF]) <;> (try exact fun j _ => Bd_nth (by simp [BdL, Bd]) j) <;> (try exact bd_setL (by simp [bdAs, BdL, Bd])) <;> (try exact nestF_bd _ _ _ _ _ _ _ _ _)); all_goals first | exact ⟨rfl, rfl, rfl, rfl⟩ | exact ⟨nestF_bd _ _ _ _ _ _ _ _ _, bd_setL (by simp [bdAs, BdL, Bd])⟩) ?_
    rintro ⟨⟨q, es⟩, hq, hes⟩
    simp only at hq hes
    simp only [Try.f41, Try.f42, Try.f97, prC, mpS, wayC, hrS, psS, tried_eq, nestR_lit, nsM_lit, nsV_lit, hourP_ns, Ok_ns, p97_3, go_sem, ↓reduceIte, Nat.reduceAdd, Nat.reduceSub, Nat.reduceMul, Nat.reduceEqDiff, Nat.reduceLT, Nat.reduceLeDiff, Int.reduceToNat, Int.reduceLE, Int.reduceLT, Int.reduceEq, Int.reduceNeg, reduceCtorEq]
    have hcd := dig_ok hD hq
    generalize hR : hourP _ _ _ _ = R
    have hR : hourP D s i (dig D q) = R := hR
    refine ⟨⟨hD, hs, hcd, by omega, by omega⟩, fun e1 => ?brnA, fun e1 => ?brnB⟩
    all_goals simp only [Bool.not_eq_true', Bool.not_eq_false', decide_eq_true_eq, decide_eq_false_iff_not] at e1
    case' brnA =>
      have hK := hes
      have hp : pickM D F (q + 1) = pickM D F q := by
        have : F (dig D q) = none := by rw [← hF, candM, hR, if_neg e1]
        simp only [pickM, this]
    case' brnB =>
      have hok := hourP_ok hD hs hcd (hr := i) (by omega) (by rw [hR]; exact e1)
      rw [hR] at hok
      obtain ⟨o1, o2, o3⟩ := hok
      have hcall := ih (i + 1) R.s es (by omega) o1 hes
      have hb := bestM_ok hD k R.s (by omega) o1
      have w1 : IntKind.i64.wrap ((i : Int) + 1) = ((i + 1 : Nat) : Int) := by rw [wrap_id (by omega) (by omega)]; omega
      rw [w1]
      have hFq : F (dig D q) = match bestM D k R.s with | some x => some (R.en + R.sta + x.1) | none => none := by
        rw [← hF, candM, hR, if_pos e1]
        all_goals (cases bestM D k R.s <;> rfl)
      generalize bestM D k R.s = A at hcall hb hFq
      unfold callS
      refine calls_mono ?_ (best_frame _ _ hcall)
      rintro o h' ⟨es', hK, rfl, rfl⟩
      simp only [Try.f41, Try.f42, Try.f97, bestH, catB, prC, mpS, wayC, hrS, psS, tried_eq, nestR_lit, nsM_lit, nsV_lit, hourP_ns, Ok_ns, p97_3, go_sem, ↓reduceIte, Nat.reduceAdd, Nat.reduceSub, Nat.reduceMul, Nat.reduceEqDiff, Nat.reduceLT, Nat.reduceLeDiff, Int.reduceToNat, Int.reduceLE, Int.reduceLT, Int.reduceEq, Int.reduceNeg, reduceCtorEq]
      refine ⟨fun c1 => ⟨fun c2 => ?brn1, fun c2 => ⟨fun c3 => ?brn2, fun c3 => ?brn3⟩⟩, fun c1 => ?brn4⟩
    case' brn4 =>
      have hp : pickM D F (q + 1) = pickM D F q := by
        obtain rfl : A = none := by simpa using c1
        simp only [pickM, hFq]
    case' brn1 =>
      obtain ⟨a, rfl⟩ : ∃ a, A = some a := by cases A with | none => cases c1 | some a => exact ⟨a, rfl⟩
      have hb1 := (hb a rfl).1
      have hp : pickM D F (q + 1) = some (IntKind.i64.wrap (IntKind.i64.wrap (R.en + R.sta) + wx (some a)), dig D q) := by
        rw [wx_some, wrap_id (x := R.en + R.sta) (by omega) (by omega), wrap_id (by omega) (by omega)]
        have : pickM D F q = none := by simpa using c2
        simp only [pickM, hFq, this]
    case' brn2 =>
      obtain ⟨a, rfl⟩ : ∃ a, A = some a := by cases A with | none => cases c1 | some a => exact ⟨a, rfl⟩
      have hb1 := (hb a rfl).1
      have hp : pickM D F (q + 1) = some (IntKind.i64.wrap (IntKind.i64.wrap (R.en + R.sta) + wx (some a)), dig D q) := by
        rw [wx_some, wrap_id (x := R.en + R.sta) (by omega) (by omega), wrap_id (by omega) (by omega)] at c3 ⊢
        obtain ⟨y, hy⟩ : ∃ y, pickM D F q = some y := by cases hpq : pickM D F q with | none => rw [hpq] at c2; cases c2 | some y => exact ⟨y, rfl⟩
        rw [hy, wx_some] at c3
        simp only [pickM, hFq, hy, if_pos (of_decide_eq_true c3)]
    case' brn3 =>
      obtain ⟨a, rfl⟩ : ∃ a, A = some a := by cases A with | none => cases c1 | some a => exact ⟨a, rfl⟩
      have hb1 := (hb a rfl).1
      have hp : pickM D F (q + 1) = pickM D F q := by
        rw [wx_some, wrap_id (x := R.en + R.sta) (by omega) (by omega), wrap_id (by omega) (by omega)] at c3
        obtain ⟨y, hy⟩ : ∃ y, pickM D F q = some y := by cases hpq : pickM D F q with | none => rw [hpq] at c2; cases c2 | some y => exact ⟨y, rfl⟩
        rw [hy, wx_some] at c3
        simp only [pickM, hFq, hy, if_neg (of_decide_eq_false c3)]
    all_goals
      have wn : IntKind.i64.wrap ((D.n : Int) - 1) = (D.n : Int) - 1 := by have := hD.n; exact wrap_id (by omega) (by omega)
      refine loop_ofH { m : Nat // m ≤ D.n ∧ ∀ t, m ≤ t → t < D.n → (dig D q).get t = D.M t } (fun m => [(4, .int .i64 ((m.1 : Int) - 1)), (3, .ptr 10 0), (1, .ptr 8 0), (0, .yield 9)])
        (fun h m => ⟨setB h.blks 10 (.live 118 [.int .i64 (zr m.1 (dig D q)).a, .int .i64 (zr m.1 (dig D q)).b, .int .i64 (zr m.1 (dig D q)).c]), h.vecs⟩) (fun m => m.1) (fun _ => ⟨by simp only [lenB_set], rfl⟩) ⟨D.n, Nat.le_refl _, fun t h1 h2 => absurd h1 (by omega)⟩ (by simp only [dig_zr hD, wn]; (apply sub_of <;> simp only [go_sem, ↓reduceIte, Nat.reduceAdd, Nat.reduceSub, Nat.reduceMul, Nat.reduceEqDiff, Nat.reduceLT, Nat.reduceLeDiff, Int.reduceToNat, Int.reduceLE, Int.reduceLT, Int.reduceEq, Int.reduceNeg, reduceCtorEq] <;> (try simp [catF]) <;> (try exact fun j _ => Bd_nth (by simp [BdL, Bd]) j) <;> (try exact bd_setL (by simp [bdAs, BdL, Bd])) <;> (try exact nestF_bd _ _ _ _ _ _ _ _ _)); exact ⟨nestF_bd _ _ _ _ _ _ _ _ _, bd_setL (by simp [bdAs, BdL, Bd])⟩) ?_
      rintro ⟨m, hm, hmx⟩
      cases m with
      | zero =>
        have hl := dig_last hD hq (fun t => hmx t (Nat.zero_le _))
        have z1 : (0 ≤ ((0 : Nat) : Int) - 1) = False := eq_false (by omega)
        have z2 : (((0 : Nat) : Int) - 1 < 0) = True := eq_true (by omega)
        simp only [Try.f41, Try.f42, Try.f97, z1, z2, prC, mpS, wayC, hrS, psS, tried_eq, nestR_lit, nsM_lit, nsV_lit, hourP_ns, Ok_ns, p97_3, go_sem, ↓reduceIte, Nat.reduceAdd, Nat.reduceSub, Nat.reduceMul, Nat.reduceEqDiff, Nat.reduceLT, Nat.reduceLeDiff, Int.reduceToNat, Int.reduceLE, Int.reduceLT, Int.reduceEq, Int.reduceNeg, reduceCtorEq]
        refine ⟨⟨by kernel_rfl, by kernel_rfl⟩, ?_⟩
        rw [hbest, ← hl, hp]
        refine ⟨putM _ (keyL i s) (wayL _), _, _, known_put hK (by rw [show D.h - i = k + 1 by omega, hbest, ← hl, hp]), rfl, rfl⟩
      | succ m =>
        have h3 : m < 3 := by have := hD.n; omega
        have n3 := fun x => T3.nth3 x h3
        have v3 := fun x v => T3.over3 x v h3
        have hm1 : ((m + 1 : Nat) : Int) - 1 = (m : Int) := by omega
        have z2 : (((m : Nat) : Int) < 0) = False := eq_false (by omega)
        have z1 : (0 ≤ ((m : Nat) : Int)) = True := eq_true (by omega)
        simp only [Try.f41, Try.f42, Try.f97, n3, v3, hm1, z1, z2, zr_get _ (Nat.lt_succ_self m) h3, zr_set _ h3, nestF_eq, prC, mpS, wayC, hrS, psS, tried_eq, nestR_lit, nsM_lit, nsV_lit, hourP_ns, Ok_ns, p97_3, go_sem, ↓reduceIte, Nat.reduceAdd, Nat.reduceSub, Nat.reduceMul, Nat.reduceEqDiff, Nat.reduceLT, Nat.reduceLeDiff, Int.reduceToNat, Int.reduceLE, Int.reduceLT, Int.reduceEq, Int.reduceNeg, reduceCtorEq]
        have hg := dig_ok hD hq m (by omega)
        have hMm := hD.M m (by omega)
        have w4 : IntKind.i64.wrap ((dig D q).get m + 1) = (dig D q).get m + 1 := wrap_id (by omega) (by omega)
        have w5 : IntKind.i64.wrap ((m : Int) - 1) = (m : Int) - 1 := wrap_id (by omega) (by omega)
        refine ⟨⟨by kernel_rfl, by kernel_rfl⟩, by omega, by omega, by omega, fun e5 => ?_, fun e5 => ?_⟩
        all_goals simp only [decide_eq_true_eq, decide_eq_false_iff_not] at e5
        · refine ⟨by omega, by omega, ⟨m, by omega, fun t h1 h2 => ?_⟩, by simp only []; omega, ?_⟩
          · rcases Nat.lt_or_ge m t with h | h
            · exact hmx t h h2
            · obtain rfl : t = m := by omega
              exact e5
          · apply sub_of <;> simp only [w5, go_sem, ↓reduceIte, Nat.reduceAdd, Nat.reduceSub, Nat.reduceMul, Nat.reduceEqDiff, Nat.reduceLT, Nat.reduceLeDiff, Int.reduceToNat, Int.reduceLE, Int.reduceLT, Int.reduceEq, Int.reduceNeg, reduceCtorEq] <;> (try simp) <;> exact ⟨nestF_bd _ _ _ _ _ _ _ _ _, bd_setL (by simp [bdAs, BdL, Bd])⟩
        · obtain ⟨g1, g2⟩ := dig_next hD hq (by omega) (fun t h1 h2 => hmx t (by omega) h2) e5
          refine ⟨by omega, by omega, by omega, by omega, ⟨(q + 1, _), g1, hK⟩, by simp only []; omega, ?_⟩
          apply sub_of <;> simp only [w4, g2, hp, wx_some, wc_some, Option.isNone_some, mpS, go_sem, ↓reduceIte, Nat.reduceAdd, Nat.reduceSub, Nat.reduceMul, Nat.reduceEqDiff, Nat.reduceLT, Nat.reduceLeDiff, Int.reduceToNat, Int.reduceLE, Int.reduceLT, Int.reduceEq, Int.reduceNeg, reduceCtorEq] <;> (try simp) <;> exact ⟨nestF_bd _ _ _ _ _ _ _ _ _, bd_setL (by simp [bdAs, BdL, Bd])⟩
end Go.Eng
end

/- press: the cheapest plan. -/
section
namespace Go.Eng
open Go Go.RowKit Go.Proofs
set_option maxRecDepth 100000
set_option maxHeartbeats 4000000
attribute [local irreducible] OwnT DefS
theorem pickM_some {D : PD} {f : T3 → Option Int} : ∀ (k : Nat) {y : Int × T3}, pickM D f k = some y → ∃ q, q < k ∧ y.2 = dig D q ∧ f y.2 = some y.1
  | 0, y, h => by cases h
  | k + 1, y, h => by
    simp only [pickM] at h
    split at h
    · obtain ⟨q, h1, h2⟩ := pickM_some k h
      exact ⟨q, by omega, h2⟩
    · rename_i x hx
      split at h
      · cases h; exact ⟨k, by omega, rfl, hx⟩
      · rename_i z hz
        split at h
        · cases h; exact ⟨k, by omega, rfl, hx⟩
        · cases h
          obtain ⟨q, h1, h2⟩ := pickM_some k hz
          exact ⟨q, by omega, h2⟩
theorem candM_some {D : PD} {rest : PS → Option (Int × T3)} {s : PS} {hr : Nat} {c : T3} {x : Int} (h : candM D rest s hr c = some x) :
    (hourP D s hr c).e = 0 ∧ ∃ z, rest (hourP D s hr c).s = some z ∧ x = (hourP D s hr c).en + (hourP D s hr c).sta + z.1 := by
  unfold candM at h
  split at h
  · rename_i he
    split at h
    · rename_i z hz
      cases h
      exact ⟨he, z, hz, rfl⟩
    · cases h
  · cases h
theorem bestM_some {D : PD} (hD : D.Ok) {k : Nat} {s : PS} {y : Int × T3} (h : bestM D (k + 1) s = some y) :
    chOk D y.2 ∧ (hourP D s (D.h - (k + 1)) y.2).e = 0 ∧ ∃ z, bestM D k (hourP D s (D.h - (k + 1)) y.2).s = some z ∧ y.1 = (hourP D s (D.h - (k + 1)) y.2).en + (hourP D s (D.h - (k + 1)) y.2).sta + z.1 := by
  obtain ⟨q, h1, h2, h3⟩ := pickM_some _ h
  obtain ⟨h4, h5⟩ := candM_some h3
  exact ⟨by rw [h2]; exact dig_ok hD h1, h4, h5⟩
/-- The state ahead of an hour of the cheapest plan, and its choices. -/
def sAt (D : PD) : Nat → PS
  | 0 => begP D
  | i + 1 => (hourP D (sAt D i) i (wc (bestM D (D.h - i) (sAt D i)))).s
def cAt (D : PD) (i : Nat) : T3 := wc (bestM D (D.h - i) (sAt D i))
theorem sAt_succ (D : PD) (i : Nat) : sAt D (i + 1) = (hourP D (sAt D i) i (cAt D i)).s := rfl
theorem sAt_ok {D : PD} (hD : D.Ok) (hb : (bestM D D.h (begP D)).isNone = false) : ∀ i, i ≤ D.h → stOk D (sAt D i) ∧ (bestM D (D.h - i) (sAt D i)).isNone = false ∧ (i < D.h → chOk D (cAt D i) ∧ (hourP D (sAt D i) i (cAt D i)).e = 0) := by
  intro i
  induction i with
  | zero =>
    intro _
    refine ⟨begP_ok hD, hb, fun h0 => ?_⟩
    obtain ⟨k, hk⟩ : ∃ k, D.h = k + 1 := ⟨D.h - 1, by omega⟩
    obtain ⟨y, hy⟩ : ∃ y, bestM D D.h (begP D) = some y := by cases hq : bestM D D.h (begP D) with | none => rw [hq] at hb; cases hb | some y => exact ⟨y, rfl⟩
    have e : cAt D 0 = y.2 := by simp only [cAt, Nat.sub_zero, sAt, hy, wc_some]
    rw [e]
    rw [hk] at hy
    obtain ⟨g1, g2, _⟩ := bestM_some hD hy
    rw [show D.h - (k + 1) = 0 by omega] at g2
    exact ⟨g1, g2⟩
  | succ i ih =>
    intro hi
    obtain ⟨h1, h2, h3⟩ := ih (by omega)
    obtain ⟨h4, h5⟩ := h3 (by omega)
    have h6 := (hourP_ok hD h1 h4 (hr := i) (by omega) h5).1
    have h7 : (bestM D (D.h - (i + 1)) (sAt D (i + 1))).isNone = false := by
      obtain ⟨y, hy⟩ : ∃ y, bestM D (D.h - i) (sAt D i) = some y := by cases hq : bestM D (D.h - i) (sAt D i) with | none => rw [hq] at h2; cases h2 | some y => exact ⟨y, rfl⟩
      have e : cAt D i = y.2 := by simp only [cAt, hy, wc_some]
      rw [show D.h - i = (D.h - (i + 1)) + 1 by omega] at hy
      obtain ⟨_, _, z, g3, _⟩ := bestM_some hD hy
      rw [show D.h - (D.h - (i + 1) + 1) = i by omega] at g3
      rw [sAt_succ, e, g3]
      rfl
    refine ⟨h6, h7, fun hlt => ?_⟩
    obtain ⟨y, hy⟩ : ∃ y, bestM D (D.h - (i + 1)) (sAt D (i + 1)) = some y := by cases hq : bestM D (D.h - (i + 1)) (sAt D (i + 1)) with | none => rw [hq] at h7; cases h7 | some y => exact ⟨y, rfl⟩
    have e : cAt D (i + 1) = y.2 := by simp only [cAt, hy, wc_some]
    rw [show D.h - (i + 1) = (D.h - (i + 2)) + 1 by omega] at hy
    obtain ⟨g1, g2, _⟩ := bestM_some hD hy
    rw [show D.h - (D.h - (i + 2) + 1) = i + 1 by omega] at g2
    rw [e]
    exact ⟨g1, g2⟩
def chE (b : Bool) (D : PD) : Int := if b then (if (bestM D D.h (begP D)).isNone then 4 else 0) else 1
def chC (b : Bool) (D : PD) : Int := if chE b D = 0 then wx (bestM D D.h (begP D)) else 0
def chN (b : Bool) (D : PD) : Nat := if chE b D = 0 then D.h else 0
/-- A plan, as rows. -/
def z0 : Nat → Nat → Int := fun _ _ => 0
def plV (c : Nat → T3) : Nat → Nat → Nat → Int := fun i a _ => (c i).get a
def planF (n : Nat) (c : Nat → T3) : Nat → Nat → SV := nestF 0 1 z0 (fun _ => n) (plV c)
theorem known_nil (D : PD) : Known D [] := fun i s v _ h => by simp [findM] at h
def planG (n : Nat) (c : Nat → T3) : Nat → Nat → SV := fun i _ => .row n 1 (fun a _ => nth [.int .i64 (c i).a, .int .i64 (c i).b, .int .i64 (c i).c] a)
theorem frzF_nth (k : Nat) (h : HS) : ∀ (l : List SV) (j : Nat), frzF (k + 1) h (nth l j) = nth (mapF (frzF (k + 1) h) l) j
  | [], j => by cases j <;> rfl
  | x :: l, 0 => rfl
  | x :: l, j + 1 => frzF_nth k h l j
theorem planG_frz (k : Nat) (h : HS) (n : Nat) (c : Nat → T3) (i j : Nat) : frzF (k + 1) h (planG n c i j) = planG n c i j := rfl
theorem planG_bd (n : Nat) (c : Nat → T3) (L K i j : Nat) : Bd L K (planG n c i j) := by
  simp only [planG, Bd]
  exact fun a _ _ _ => Bd_nth (by simp [BdL, Bd]) a
theorem planG_same {n : Nat} (hn : n ≤ 3) (c : Nat → T3) (i j : Nat) (hj : j < 1) : SameD (planG n c i j) (planF n c i j) := by
  obtain rfl : j = 0 := by omega
  refine SameD.rowD fun a b ha hb => ?_
  rcases (by omega : a = 0 ∨ a = 1 ∨ a = 2) with rfl | rfl | rfl <;> exact SameD.rfl' _
theorem planF_bd (n : Nat) (c : Nat → T3) (L K i j : Nat) : Bd L K (planF n c i j) := nestF_bd1 _ _ _ _ _ _ _ i j
theorem onI_ns (A : Nat → Nat → Int) (M : Nat → Nat) (V : Nat → Nat → Nat → Int) (n : Nat) : onI (nsA (nestF 0 2 A M V)) n = onI A n := by
  simp only [onI, nsA_lit _ (show 4 ≠ 0 by omega)]
theorem psB_ns (n : Nat) (A : Nat → Nat → Int) (M : Nat → Nat) (V : Nat → Nat → Nat → Int) (h : Nat) (nd : Nat → Nat → Int) (q : Nat) (pr : Nat → Nat → Int) (st ro pk fr : Int) :
    psB n (nsA (nestF 0 2 A M V)) M V h nd q pr st ro pk fr = psB n A M V h nd q pr st ro pk fr := by
  simp only [psB, prB_ns]
def cheapestBase : BaseF := fun args => match args with
  | [.agg [.row n sz_A f_A, .row h sz_nd f_nd, .row q sz_pr f_pr, .int .i64 st, .int .i64 ro, .int .i64 pk, .int .i64 fr]] => some ((sz_A = 5 ∧ NestR n 5 0 2 f_A) ∧ (sz_nd = 1 ∧ IntR h 1 f_nd) ∧ (sz_pr = 1 ∧ IntR q 1 f_pr) ∧ ((n ≤ 1000000 ∧ ∀ i, i < n → (nsM 0 f_A) i ≤ 1000000) ∧ h ≤ 1000000 ∧ q ≤ 1000000), .tup [.row (chN (psB n (nsA f_A) (nsM 0 f_A) (nsV 0 f_A) h (ivf f_nd) q (ivf f_pr) st ro pk fr) ⟨n, (nsA f_A), (nsM 0 f_A), (nsV 0 f_A), h, (ivf f_nd), (ivf f_pr), st, ro, pk, fr⟩) 1 (planF n (cAt ⟨n, (nsA f_A), (nsM 0 f_A), (nsV 0 f_A), h, (ivf f_nd), (ivf f_pr), st, ro, pk, fr⟩)), .int .i64 (chC (psB n (nsA f_A) (nsM 0 f_A) (nsV 0 f_A) h (ivf f_nd) q (ivf f_pr) st ro pk fr) ⟨n, (nsA f_A), (nsM 0 f_A), (nsV 0 f_A), h, (ivf f_nd), (ivf f_pr), st, ro, pk, fr⟩), .int .i64 (chE (psB n (nsA f_A) (nsM 0 f_A) (nsV 0 f_A) h (ivf f_nd) q (ivf f_pr) st ro pk fr) ⟨n, (nsA f_A), (nsM 0 f_A), (nsV 0 f_A), h, (ivf f_nd), (ivf f_pr), st, ro, pk, fr⟩)])
  | _ => none
theorem cheapest_eq (n : Nat) (sz_A : Nat) (f_A : Nat → Nat → SV) (h : Nat) (sz_nd : Nat) (f_nd : Nat → Nat → SV) (q : Nat) (sz_pr : Nat) (f_pr : Nat → Nat → SV) (st : Int) (ro : Int) (pk : Int) (fr : Int) : cheapestBase [.agg [.row n sz_A f_A, .row h sz_nd f_nd, .row q sz_pr f_pr, .int .i64 st, .int .i64 ro, .int .i64 pk, .int .i64 fr]] = some ((sz_A = 5 ∧ NestR n 5 0 2 f_A) ∧ (sz_nd = 1 ∧ IntR h 1 f_nd) ∧ (sz_pr = 1 ∧ IntR q 1 f_pr) ∧ ((n ≤ 1000000 ∧ ∀ i, i < n → (nsM 0 f_A) i ≤ 1000000) ∧ h ≤ 1000000 ∧ q ≤ 1000000), .tup [.row (chN (psB n (nsA f_A) (nsM 0 f_A) (nsV 0 f_A) h (ivf f_nd) q (ivf f_pr) st ro pk fr) ⟨n, (nsA f_A), (nsM 0 f_A), (nsV 0 f_A), h, (ivf f_nd), (ivf f_pr), st, ro, pk, fr⟩) 1 (planF n (cAt ⟨n, (nsA f_A), (nsM 0 f_A), (nsV 0 f_A), h, (ivf f_nd), (ivf f_pr), st, ro, pk, fr⟩)), .int .i64 (chC (psB n (nsA f_A) (nsM 0 f_A) (nsV 0 f_A) h (ivf f_nd) q (ivf f_pr) st ro pk fr) ⟨n, (nsA f_A), (nsM 0 f_A), (nsV 0 f_A), h, (ivf f_nd), (ivf f_pr), st, ro, pk, fr⟩), .int .i64 (chE (psB n (nsA f_A) (nsM 0 f_A) (nsV 0 f_A) h (ivf f_nd) q (ivf f_pr) st ro pk fr) ⟨n, (nsA f_A), (nsM 0 f_A), (nsV 0 f_A), h, (ivf f_nd), (ivf f_pr), st, ro, pk, fr⟩)]) := rfl
theorem cheapest_base : NB Try.prog 14 cheapestBase := by
  intro args p v hq hp
  unfold cheapestBase at hq
  split at hq
  rotate_left
  · cases hq
  rename_i n sz_A f_A h sz_nd f_nd q sz_pr f_pr st ro pk fr
  cases hq
  obtain ⟨⟨rfl, i_A⟩, ⟨rfl, i_nd⟩, ⟨rfl, i_pr⟩, pre⟩ := hp
  refine nb_of (C := cx [41, 46] [] [(40, arePsBase), (44, beginBase)] [(14, 17, p14_17)] none) (cx_ok trivial ⟨arePs_base, begin_base, trivial⟩) rfl (g := 14) (fn := Try.f14)
    (args' := [.agg [.row n 5 (nestF 0 2 (nsA f_A) (nsM 0 f_A) (nsV 0 f_A)), .row h 1 (rowF .i64 (ivf f_nd)), .row q 1 (rowF .i64 (ivf f_pr)), .int .i64 st, .int .i64 ro, .int .i64 pk, .int .i64 fr]]) (fn_14) rfl 1000 (by
    simp only [BdL, Bd, and_self, and_true, true_and]
    exact ⟨(fun i j hi hj => nest_bd i_A i j hi hj), (fun i j hi hj => by rw [i_nd i j hi hj]; trivial), (fun i j hi hj => by rw [i_pr i j hi hj]; trivial)⟩) ⟨SameD.agg ⟨SameD.nest i_A, SameD.int i_nd, SameD.int i_pr, SameD.rfl' _, SameD.rfl' _, SameD.rfl' _, SameD.rfl' _, trivial⟩, trivial⟩ (by simp only [Bd, BdL, and_true]; exact fun i j _ _ => planF_bd _ _ _ _ _ _) ?_
  generalize nsA f_A = A at *
  generalize nsM 0 f_A = M at *
  generalize nsV 0 f_A = V at *
  generalize ivf f_nd = nd at *
  generalize ivf f_pr = pr at *
  simp only [rowF_eq]
  simp only [arePs_eq, begin_eq, p14_17, Try.f45, nestF_eq, nestR_lit, nsM_lit, nsV_lit, psS, onI_ns, psB_ns, Try.f14, go_sem, ↓reduceIte, Nat.reduceAdd, Nat.reduceSub, Nat.reduceMul, Nat.reduceEqDiff, Nat.reduceLT, Nat.reduceLeDiff, Int.reduceToNat, Int.reduceLE, Int.reduceLT, Int.reduceEq, Int.reduceNeg, reduceCtorEq]
  generalize hb : psB n A M V h nd q pr st ro pk fr = b
  generalize hD : (⟨n, A, M, V, h, nd, pr, st, ro, pk, fr⟩ : PD) = D
  refine ⟨pre, fun c1 => ?_, fun c1 => ?_⟩
  · obtain rfl : b = false := by simpa using c1
    have e1 : chE false D = 1 := rfl
    have e2 : chN false D = 0 := rfl
    have e3 : chC false D = 0 := rfl
    rw [e1, e2, e3]
    refine ⟨fun _ _ hi => absurd hi (by omega), ?_⟩
    apply SameD.tup
    exact ⟨SameD.row0, SameD.rfl' _, SameD.rfl' _, trivial⟩
  · obtain rfl : b = true := by simpa using c1
    obtain ⟨rfl, hOk⟩ := psB_iff.1 hb
    rw [hD] at hOk
    clear pre i_A i_nd i_pr hb c1
    have d0 : n = D.n := by rw [← hD]
    have d1 : A = D.A := by rw [← hD]
    have d2 : M = D.M := by rw [← hD]
    have d3 : V = D.V := by rw [← hD]
    have d4 : q = D.h := by rw [← hD]
    have d5 : nd = D.nd := by rw [← hD]
    have d6 : pr = D.pr := by rw [← hD]
    have d7 : st = D.st := by rw [← hD]
    have d8 : ro = D.ro := by rw [← hD]
    have d9 : pk = D.pk := by rw [← hD]
    have d10 : fr = D.fr := by rw [← hD]
    clear hD
    subst d0 d1 d2 d3 d4 d5 d6 d7 d8 d9 d10
    have hn := hOk.n
    have hh := hOk.h
    have hs0 := begP_ok hOk
    refine ⟨by omega, ?_⟩
    unfold callS
    refine calls_mono ?_ (best_frame (D := D) (hr := (0 : Nat)) (s := begP D) (es := []) (w := bestM D D.h (begP D)) [.live 120 [.int .i64 (onI D.A D.n).a, .int .i64 (onI D.A D.n).b, .int .i64 (onI D.A D.n).c, .int .i64 D.st, .int .i64 0]] [.live 0 39 1 0 fun _ _ => .any] (best_calls hOk D.h 0 (begP D) [] (by omega) hs0 (known_nil D)))
    rintro o h' ⟨es, hes, rfl, rfl⟩
    simp only [arePs_eq, begin_eq, p14_17, Try.f45, nestF_eq, nestR_lit, nsM_lit, nsV_lit, psS, onI_ns, psB_ns, Try.f14, bestH, catB, prC, mpS, wayC, go_sem, ↓reduceIte, Nat.reduceAdd, Nat.reduceSub, Nat.reduceMul, Nat.reduceEqDiff, Nat.reduceLT, Nat.reduceLeDiff, Int.reduceToNat, Int.reduceLE, Int.reduceLT, Int.reduceEq, Int.reduceNeg, reduceCtorEq]
    refine ⟨fun c2 => ?_, fun c2 => ?_⟩
    · have e1 : chE true D = 4 := by simp only [chE, c2, if_true]
      have e2 : chN true D = 0 := by simp only [chN, e1]; rfl
      have e3 : chC true D = 0 := by simp only [chC, e1]; rfl
      rw [e1, e2, e3]
      refine ⟨fun _ _ hi => absurd hi (by omega), ?_⟩
      apply SameD.tup
      exact ⟨SameD.row0, SameD.rfl' _, SameD.rfl' _, trivial⟩
    have e1 : chE true D = 0 := by simp only [chE, c2, if_true, Bool.false_eq_true, if_false]
    have e2 : chN true D = D.h := by simp only [chN, e1, if_true]
    have e3 : chC true D = wx (bestM D D.h (begP D)) := by simp only [chC, e1, if_true]
    rw [e1, e2, e3]
    have hst := sAt_ok hOk c2
    generalize bestM D D.h (begP D) = W at c2
    refine loop_ofH { x : Nat × List (List Int × List Int) // x.1 ≤ D.h ∧ Known D x.2 } (fun x => [(26, .int .i64 (x.1.1 : Int)), (25, .int .i64 (D.h : Int)), (8, .ptr 5 0), (7, .ptr 4 0), (6, .ptr 3 0), (2, .vec 0 x.1.1), (1, .ptr 0 0)])
      (fun h x => ⟨[.live 51 (prC D), .mp (mpS x.1.2), .live 115 [.mapp 1], .live 116 [.func 41 [.ptr 0 0, .ptr 2 0, .ptr 3 0]], .live 120 [.int .i64 (sAt D x.1.1).on.a, .int .i64 (sAt D x.1.1).on.b, .int .i64 (sAt D x.1.1).on.c, .int .i64 (sAt D x.1.1).sto, .int .i64 (sAt D x.1.1).pk], getB h.blks 5], [.live x.1.1 39 1 x.1.1 (planG D.n (cAt D))]⟩)
      (fun x => D.h - x.1.1) (fun _ => ⟨rfl, rfl⟩) ⟨(0, es), Nat.zero_le _, hes⟩ (by simp only [prC, mpS, sAt, begP]; (apply sub_of <;> simp only [go_sem, ↓reduceIte, Nat.reduceAdd, Nat.reduceSub, Nat.reduceMul, Nat.reduceEqDiff, Nat.reduceLT, Nat.reduceLeDiff, Int.reduceToNat, Int.reduceLE, Int.reduceLT, Int.reduceEq, Int.reduceNeg, reduceCtorEq] <;> (try simp [catF]) <;> (try exact fun j _ => Bd_nth (by simp [BdL, Bd]) j) <;> (try exact bd_setL (by simp [bdAs, BdL, Bd])) <;> (try exact nestF_bd _ _ _ _ _ _ _ _ _))) ?_
    rintro ⟨⟨i, es⟩, hi, hes⟩
    simp only at hi hes
    obtain ⟨hs1, hs2, hs3⟩ := hst i hi
    have hw3 : IntKind.i64.wrap ((i : Int) + 1) = ((i + 1 : Nat) : Int) := by rw [wrap_id (by omega) (by omega)]; omega
    simp only [arePs_eq, begin_eq, p14_17, Try.f45, nestF_eq, nestR_lit, nsM_lit, nsV_lit, psS, onI_ns, psB_ns, Try.f14, prC, mpS, go_sem, ↓reduceIte, Nat.reduceAdd, Nat.reduceSub, Nat.reduceMul, Nat.reduceEqDiff, Nat.reduceLT, Nat.reduceLeDiff, Int.reduceToNat, Int.reduceLE, Int.reduceLT, Int.reduceEq, Int.reduceNeg, reduceCtorEq]
    refine ⟨fun c3 => ?_, fun c3 => ?_⟩
    · simp only [decide_eq_true_eq] at c3
      obtain ⟨hc1, hc2⟩ := hs3 (by omega)
      unfold callS
      refine calls_mono ?_ (best_frame (D := D) (hr := (i : Nat)) (s := sAt D i) (es := es) (w := bestM D (D.h - i) (sAt D i)) _ _ (best_calls hOk (D.h - i) i (sAt D i) es (by omega) hs1 hes))
      rintro o h' ⟨es', hes', rfl, rfl⟩
      simp only [arePs_eq, begin_eq, p14_17, Try.f45, nestF_eq, nestR_lit, nsM_lit, nsV_lit, psS, onI_ns, psB_ns, Try.f14, bestH, catB, prC, mpS, wayC, go_sem, ↓reduceIte, Nat.reduceAdd, Nat.reduceSub, Nat.reduceMul, Nat.reduceEqDiff, Nat.reduceLT, Nat.reduceLeDiff, Int.reduceToNat, Int.reduceLE, Int.reduceLT, Int.reduceEq, Int.reduceNeg, reduceCtorEq]
      have e4 : wc (bestM D (D.h - i) (sAt D i)) = cAt D i := rfl
      rw [e4]
      refine ⟨⟨by omega, by omega⟩, ⟨by omega, by omega, by omega⟩, ⟨by omega, by omega⟩, ?_⟩
      have hp := pass0 hOk hs1 hc1 (hr := i) (by omega)
      simp only [prC, psS, tS] at hp
      unfold callS
      refine calls_mono ?_ (calls_lend (K := fun o => o = resP (hourP D (sAt D i) i (cAt D i))) ?_ ?_)
      rotate_left
      · simp only [frzF_nth, go_sem, ↓reduceIte, Nat.reduceAdd, Nat.reduceSub, Nat.reduceMul, Nat.reduceEqDiff, Nat.reduceLT, Nat.reduceLeDiff, Int.reduceToNat, Int.reduceLE, Int.reduceLT, Int.reduceEq, Int.reduceNeg, reduceCtorEq]
        exact fun j _ => Bd_nth (prC_bd D 0 0) j
      · simp only [frzF_nth, go_sem, ↓reduceIte, Nat.reduceAdd, Nat.reduceSub, Nat.reduceMul, Nat.reduceEqDiff, Nat.reduceLT, Nat.reduceLeDiff, Int.reduceToNat, Int.reduceLE, Int.reduceLT, Int.reduceEq, Int.reduceNeg, reduceCtorEq]
        exact hp
      rintro o h' ⟨rfl, rfl⟩
      simp only [resP, hc2, if_true, ← sAt_succ, arePs_eq, begin_eq, p14_17, Try.f45, nestF_eq, nestR_lit, nsM_lit, nsV_lit, psS, onI_ns, psB_ns, Try.f14, go_sem, ↓reduceIte, Nat.reduceAdd, Nat.reduceSub, Nat.reduceMul, Nat.reduceEqDiff, Nat.reduceLT, Nat.reduceLeDiff, Int.reduceToNat, Int.reduceLE, Int.reduceLT, Int.reduceEq, Int.reduceNeg, reduceCtorEq]
      refine ⟨⟨(i + 1, es'), by simp only []; omega, hes'⟩, by simp only []; omega, ?_⟩
      refine sub_fz 2 0 (planG D.n (cAt D)) rfl rfl (by decide) ?_ ?_
      · intro a b ha hb
        rcases Nat.lt_or_ge a i with h1 | h1
        · left
          simp only [catF, if_pos h1]
        · obtain rfl : a = i := by omega
          right
          obtain rfl : b = 0 := by omega
          refine ⟨by simp only [catF, if_neg (Nat.lt_irrefl _), Nat.sub_self]; rfl, ?_⟩
          simp only [planG]
          congr 1
      · apply sub_of <;> simp only [hw3, prC, mpS, go_sem, ↓reduceIte, Nat.reduceAdd, Nat.reduceSub, Nat.reduceMul, Nat.reduceEqDiff, Nat.reduceLT, Nat.reduceLeDiff, Int.reduceToNat, Int.reduceLE, Int.reduceLT, Int.reduceEq, Int.reduceNeg, reduceCtorEq] <;> (try simp) <;> (try exact fun j _ => Bd_nth (by simp [BdL, Bd]) j) <;> (try exact bd_setL (by simp [bdAs, BdL, Bd])) <;> (try exact nestF_bd _ _ _ _ _ _ _ _ _)
        exact fun _ _ => planG_bd _ _ _ _ _ _
    · simp only [decide_eq_false_iff_not] at c3
      obtain rfl : i = D.h := by omega
      simp only [planG_frz]
      refine ⟨⟨by kernel_rfl, by kernel_rfl⟩, fun _ _ _ _ => planG_bd _ _ _ _ _ _, ?_⟩
      apply SameD.tup
      exact ⟨SameD.rowD fun a b _ hb => planG_same hn.2 _ a b hb, SameD.rfl' _, SameD.rfl' _, trivial⟩
end Go.Eng
end

/- press: plans compared, their form, sums. -/
section
namespace Go.Eng
open Go Go.RowKit Go.Proofs
set_option maxRecDepth 100000
set_option maxHeartbeats 4000000
attribute [local irreducible] OwnT DefS
def formB (n : Nat) (M : Nat → Nat) (m : Nat) (l : Nat → Nat → Int) : Bool := decide ((m : Int) = (n : Int)) && allU (fun i => in3 (l i 0) 0 (M i)) m
def formBase : BaseF := fun args => match args with
  | [.agg [.row n sz_A f_A, .row h sz_nd f_nd, .row q sz_pr f_pr, .int .i64 st, .int .i64 ro, .int .i64 pk, .int .i64 fr], .row m sz_l f_l] => some ((sz_A = 5 ∧ NestR n 5 0 2 f_A) ∧ (sz_nd = 1 ∧ IntR h 1 f_nd) ∧ (sz_pr = 1 ∧ IntR q 1 f_pr) ∧ (sz_l = 1 ∧ IntR m 1 f_l) ∧ (m ≤ 1000000), .bool (formB n (nsM 0 f_A) m (ivf f_l)))
  | _ => none
theorem form_eq (n : Nat) (sz_A : Nat) (f_A : Nat → Nat → SV) (h : Nat) (sz_nd : Nat) (f_nd : Nat → Nat → SV) (q : Nat) (sz_pr : Nat) (f_pr : Nat → Nat → SV) (st : Int) (ro : Int) (pk : Int) (fr : Int) (m : Nat) (sz_l : Nat) (f_l : Nat → Nat → SV) : formBase [.agg [.row n sz_A f_A, .row h sz_nd f_nd, .row q sz_pr f_pr, .int .i64 st, .int .i64 ro, .int .i64 pk, .int .i64 fr], .row m sz_l f_l] = some ((sz_A = 5 ∧ NestR n 5 0 2 f_A) ∧ (sz_nd = 1 ∧ IntR h 1 f_nd) ∧ (sz_pr = 1 ∧ IntR q 1 f_pr) ∧ (sz_l = 1 ∧ IntR m 1 f_l) ∧ (m ≤ 1000000), .bool (formB n (nsM 0 f_A) m (ivf f_l))) := rfl
theorem form_base : Base Try.prog 49 formBase := by
  intro args p v hq hp
  unfold formBase at hq
  split at hq
  rotate_left
  · cases hq
  rename_i n sz_A f_A h sz_nd f_nd q sz_pr f_pr st ro pk fr m sz_l f_l
  cases hq
  obtain ⟨⟨rfl, i_A⟩, ⟨rfl, i_nd⟩, ⟨rfl, i_pr⟩, ⟨rfl, i_l⟩, pre⟩ := hp
  refine base_of (C := cx [] [] [(47, inBase)] [(49, 6, p49_6)] none) (cx_ok trivial ⟨in_base, trivial⟩) rfl (g := 49) (fn := Try.f49)
    (args' := [.agg [.row n 5 (nestF 0 2 (nsA f_A) (nsM 0 f_A) (nsV 0 f_A)), .row h 1 (rowF .i64 (ivf f_nd)), .row q 1 (rowF .i64 (ivf f_pr)), .int .i64 st, .int .i64 ro, .int .i64 pk, .int .i64 fr], .row m 1 (rowF .i64 (ivf f_l))]) (fn_49) rfl 1000 (by
    simp only [BdL, Bd, and_self, and_true, true_and]
    exact ⟨⟨(fun i j hi hj => nest_bd i_A i j hi hj), (fun i j hi hj => by rw [i_nd i j hi hj]; trivial), (fun i j hi hj => by rw [i_pr i j hi hj]; trivial)⟩, (fun i j hi hj => by rw [i_l i j hi hj]; trivial)⟩) ⟨SameD.agg ⟨SameD.nest i_A, SameD.int i_nd, SameD.int i_pr, SameD.rfl' _, SameD.rfl' _, SameD.rfl' _, SameD.rfl' _, trivial⟩, SameD.int i_l, trivial⟩ ?_
  generalize nsA f_A = A at *
  generalize nsM 0 f_A = M at *
  generalize nsV 0 f_A = V at *
  generalize ivf f_nd = nd at *
  generalize ivf f_pr = pr at *
  generalize ivf f_l = l at *
  simp only [rowF_eq]
  simp only [in_eq, p49_6, nestF_eq, nestR_lit, nsM_lit, nsV_lit, Try.f49, go_sem, ↓reduceIte, Nat.reduceAdd, Nat.reduceSub, Nat.reduceMul, Nat.reduceEqDiff, Nat.reduceLT, Nat.reduceLeDiff, Int.reduceToNat, Int.reduceLE, Int.reduceLT, Int.reduceEq, Int.reduceNeg, reduceCtorEq]
  refine ⟨fun c1 => by simp only [Bool.not_eq_true'] at c1; simp [formB, c1], fun c1 => ?_⟩
  simp only [Bool.not_eq_false'] at c1
  have hnm := of_decide_eq_true c1
  refine loop_ofH { i : Nat // i ≤ m ∧ ∀ j, j < i → (fun i => in3 (l i 0) 0 (M i)) j = true } (fun i => [(5, .int .i64 (i.1 : Int)), (2, .ptr 0 0), (1, .row m 1 fun i j => .int .i64 (l i j))]) (fun h _ => h) (fun i => m - i.1) (fun _ => ⟨rfl, rfl⟩) ⟨0, by omega, by omega⟩ (by (apply sub_of <;> simp only [go_sem, ↓reduceIte, Nat.reduceAdd, Nat.reduceSub, Nat.reduceMul, Nat.reduceEqDiff, Nat.reduceLT, Nat.reduceLeDiff, Int.reduceToNat, Int.reduceLE, Int.reduceLT, Int.reduceEq, Int.reduceNeg, reduceCtorEq] <;> (try simp [catF]) <;> (try exact fun j _ => Bd_nth (by simp [BdL, Bd]) j) <;> (try exact bd_setL (by simp [bdAs, BdL, Bd])) <;> (try exact nestF_bd _ _ _ _ _ _ _ _ _))) ?_
  rintro ⟨i, hi, h3⟩
  simp only [in_eq, p49_6, nestF_eq, nestR_lit, nsM_lit, nsV_lit, Try.f49, go_sem, ↓reduceIte, Nat.reduceAdd, Nat.reduceSub, Nat.reduceMul, Nat.reduceEqDiff, Nat.reduceLT, Nat.reduceLeDiff, Int.reduceToNat, Int.reduceLE, Int.reduceLT, Int.reduceEq, Int.reduceNeg, reduceCtorEq]
  have hw3 : IntKind.i64.wrap ((i : Int) + 1) = ((i + 1 : Nat) : Int) := by rw [wrap_id (by omega) (by omega)]; omega
  refine ⟨fun e1 => ?_, fun e1 => ?_⟩
  · simp only [decide_eq_true_eq] at e1
    refine ⟨⟨by kernel_rfl, by kernel_rfl⟩, ⟨by omega, by omega⟩, ⟨by omega, by omega⟩, fun e2 => ?_, fun e2 => ⟨⟨i + 1, by omega, below h3 (by simpa using e2)⟩, by simp only []; omega, ?_⟩⟩
    · have := allU_false (p := fun i => in3 (l i 0) 0 (M i)) (n := m) (i := i) (by omega) (by simpa using e2)
      simp only [formB, this, Bool.and_false]
    · apply sub_of <;> simp only [hw3, go_sem, ↓reduceIte, Nat.reduceAdd, Nat.reduceSub, Nat.reduceMul, Nat.reduceEqDiff, Nat.reduceLT, Nat.reduceLeDiff, Int.reduceToNat, Int.reduceLE, Int.reduceLT, Int.reduceEq, Int.reduceNeg, reduceCtorEq] <;> (try simp) <;> (try exact fun j _ => Bd_nth (by simp [BdL, Bd]) j) <;> (try exact bd_setL (by simp [bdAs, BdL, Bd])) <;> (try exact nestF_bd _ _ _ _ _ _ _ _ _)
  · simp only [decide_eq_false_iff_not] at e1
    obtain rfl : i = m := by omega
    simp only [formB, allU_true h3, c1]; rfl
end Go.Eng
end

/- press: plans read, played, checked. -/
section
namespace Go.Eng
open Go Go.RowKit Go.Proofs
set_option maxRecDepth 100000
set_option maxHeartbeats 4000000
attribute [local irreducible] OwnT DefS
/-- The choices of a list. -/
def chT (k : Nat) (w : Nat → Nat → Int) : T3 := ⟨if 0 < k then w 0 0 else 0, if 1 < k then w 1 0 else 0, if 2 < k then w 2 0 else 0⟩
theorem chT_cp {k : Nat} (h : k ≤ 3) (w : Nat → Nat → Int) : cpB (fun i j => .int .i64 (w i j)) 0 k [.int .i64 0, .int .i64 0, .int .i64 0] = [.int .i64 (chT k w).a, .int .i64 (chT k w).b, .int .i64 (chT k w).c] := by
  rcases (by omega : k = 0 ∨ k = 1 ∨ k = 2 ∨ k = 3) with rfl | rfl | rfl | rfl <;> rfl
theorem chT_get {k i : Nat} (h : i < k) (h3 : i < 3) (w : Nat → Nat → Int) : (chT k w).get i = w i 0 := by
  rcases (by omega : i = 0 ∨ i = 1 ∨ i = 2) with rfl | rfl | rfl <;> simp [chT, T3.get, h]
def rdRow (n : Nat) (M : Nat → Nat) (k : Nat) (w : Nat → Nat → Int) : Bool := decide ((k : Int) = (n : Int)) && allU (fun a => in3 (w a 0) 0 (M a)) k
def rdB (n : Nat) (M : Nat → Nat) (m : Nat) (K : Nat → Nat) (W : Nat → Nat → Nat → Int) : Bool := allU (fun i => rdRow n M (K i) (W i)) m
def chF (n : Nat) (W : Nat → Nat → Nat → Int) : Nat → Nat → SV := fun i j => .int .i64 ((chT n (W i)).get j)
def chG (n : Nat) (W : Nat → Nat → Nat → Int) : Nat → Nat → SV := fun i j => nth [.int .i64 (chT n (W i)).a, .int .i64 (chT n (W i)).b, .int .i64 (chT n (W i)).c] j
theorem chG_bd (n : Nat) (W : Nat → Nat → Nat → Int) (L K i j : Nat) : Bd L K (chG n W i j) := Bd_nth (by simp [BdL, Bd]) j
theorem chG_F (n : Nat) (W : Nat → Nat → Nat → Int) (i : Nat) {j : Nat} (hj : j < 3) : chG n W i j = chF n W i j := by
  rcases (by omega : j = 0 ∨ j = 1 ∨ j = 2) with rfl | rfl | rfl <;> rfl
theorem prC7_bd (n : Nat) (A : Nat → Nat → Int) (M : Nat → Nat) (V : Nat → Nat → Nat → Int) (h : Nat) (nd : Nat → Nat → Int) (q : Nat) (pr : Nat → Nat → Int) (st ro pk fr : Int) (L K : Nat) :
    BdL L K [.row n 5 (nestF 0 2 A M V), .row h 1 fun i j => .int .i64 (nd i j), .row q 1 fun i j => .int .i64 (pr i j), .int .i64 st, .int .i64 ro, .int .i64 pk, .int .i64 fr] := by
  simp only [BdL, Bd, and_self, and_true, implies_true]
  exact nestF_bd _ _ _ _ _ _ _ _ _
def readBase : BaseF := fun args => match args with
  | [.rptr sz_1 c_1, .row m sz_B f_B] => (match c_1 0, c_1 1, c_1 2, c_1 3, c_1 4, c_1 5, c_1 6 with | .row n sz_A f_A, .row h sz_nd f_nd, .row q sz_pr f_pr, .int .i64 st, .int .i64 ro, .int .i64 pk, .int .i64 fr => some ((sz_1 = 7) ∧ (sz_A = 5 ∧ NestR n 5 0 2 f_A) ∧ (sz_nd = 1 ∧ IntR h 1 f_nd) ∧ (sz_pr = 1 ∧ IntR q 1 f_pr) ∧ (sz_B = 1 ∧ NestR m 1 0 1 f_B) ∧ (1 ≤ n ∧ n ≤ 3 ∧ m ≤ 1000000 ∧ ∀ i, i < m → (nsM 0 f_B) i ≤ 1000000), .tup [.row (if rdB n (nsM 0 f_A) m (nsM 0 f_B) (nsV 0 f_B) then m else 0) 3 (chF n (nsV 0 f_B)), .bool (rdB n (nsM 0 f_A) m (nsM 0 f_B) (nsV 0 f_B))]) | _, _, _, _, _, _, _ => none)
  | _ => none
theorem read_eq (sz_1 : Nat) (c_1 : Nat → SV) (m : Nat) (sz_B : Nat) (f_B : Nat → Nat → SV) : readBase [.rptr sz_1 c_1, .row m sz_B f_B] = (match c_1 0, c_1 1, c_1 2, c_1 3, c_1 4, c_1 5, c_1 6 with | .row n sz_A f_A, .row h sz_nd f_nd, .row q sz_pr f_pr, .int .i64 st, .int .i64 ro, .int .i64 pk, .int .i64 fr => some ((sz_1 = 7) ∧ (sz_A = 5 ∧ NestR n 5 0 2 f_A) ∧ (sz_nd = 1 ∧ IntR h 1 f_nd) ∧ (sz_pr = 1 ∧ IntR q 1 f_pr) ∧ (sz_B = 1 ∧ NestR m 1 0 1 f_B) ∧ (1 ≤ n ∧ n ≤ 3 ∧ m ≤ 1000000 ∧ ∀ i, i < m → (nsM 0 f_B) i ≤ 1000000), .tup [.row (if rdB n (nsM 0 f_A) m (nsM 0 f_B) (nsV 0 f_B) then m else 0) 3 (chF n (nsV 0 f_B)), .bool (rdB n (nsM 0 f_A) m (nsM 0 f_B) (nsV 0 f_B))]) | _, _, _, _, _, _, _ => none) := rfl
theorem read_base : BaseO Try.prog 50 118 readBase := by
  intro args p v hq hp
  unfold readBase at hq
  split at hq
  rotate_left
  · cases hq
  rename_i sz_1 c_1 m sz_B f_B
  split at hq
  rotate_left
  · cases hq
  rename_i n sz_A f_A h sz_nd f_nd q sz_pr f_pr st ro pk fr h_1_0 h_1_1 h_1_2 h_1_3 h_1_4 h_1_5 h_1_6
  cases hq
  obtain ⟨rfl, ⟨rfl, i_A⟩, ⟨rfl, i_nd⟩, ⟨rfl, i_pr⟩, ⟨rfl, i_B⟩, pre⟩ := hp
  refine baseO_of (C := cx [] [] [(91, withinBase)] [] none) (cx_ok trivial ⟨within_base, trivial⟩) rfl (g := 50) (fn := Try.f50)
    (args' := [.rptr 7 (fun j => nth [.row n 5 (nestF 0 2 (nsA f_A) (nsM 0 f_A) (nsV 0 f_A)), .row h 1 (rowF .i64 (ivf f_nd)), .row q 1 (rowF .i64 (ivf f_pr)), .int .i64 st, .int .i64 ro, .int .i64 pk, .int .i64 fr] j), .row m 1 (nestF 0 1 (nsA f_B) (nsM 0 f_B) (nsV 0 f_B))]) (fn_50) rfl 1000 (by
    simp only [BdL, Bd, and_self, and_true, true_and]
    exact ⟨(fun j hj => by
      have hj : j = 0 ∨ j = 1 ∨ j = 2 ∨ j = 3 ∨ j = 4 ∨ j = 5 ∨ j = 6 := by omega
      rcases hj with rfl | rfl | rfl | rfl | rfl | rfl | rfl
      · rw [h_1_0]; simp only [BdL, Bd, and_self, and_true, true_and]; exact (fun i j hi hj => nest_bd i_A i j hi hj)
      · rw [h_1_1]; simp only [BdL, Bd, and_self, and_true, true_and]; exact (fun i j hi hj => by rw [i_nd i j hi hj]; trivial)
      · rw [h_1_2]; simp only [BdL, Bd, and_self, and_true, true_and]; exact (fun i j hi hj => by rw [i_pr i j hi hj]; trivial)
      · rw [h_1_3]; simp only [BdL, Bd, and_self, and_true, true_and]
      · rw [h_1_4]; simp only [BdL, Bd, and_self, and_true, true_and]
      · rw [h_1_5]; simp only [BdL, Bd, and_self, and_true, true_and]
      · rw [h_1_6]; simp only [BdL, Bd, and_self, and_true, true_and]), (fun i j hi hj => nest_bd i_B i j hi hj)⟩) ⟨SameD.rptr (fun j hj => by
      have hj : j = 0 ∨ j = 1 ∨ j = 2 ∨ j = 3 ∨ j = 4 ∨ j = 5 ∨ j = 6 := by omega
      rcases hj with rfl | rfl | rfl | rfl | rfl | rfl | rfl
      · rw [h_1_0]; exact SameD.nest i_A
      · rw [h_1_1]; exact SameD.int i_nd
      · rw [h_1_2]; exact SameD.int i_pr
      · rw [h_1_3]; exact SameD.rfl' _
      · rw [h_1_4]; exact SameD.rfl' _
      · rw [h_1_5]; exact SameD.rfl' _
      · rw [h_1_6]; exact SameD.rfl' _), SameD.nest i_B, trivial⟩ ?_
  generalize nsA f_A = A at *
  generalize nsM 0 f_A = M at *
  generalize nsV 0 f_A = V at *
  generalize ivf f_nd = nd at *
  generalize ivf f_pr = pr at *
  generalize nsA f_B = B at *
  generalize nsM 0 f_B = K at *
  generalize nsV 0 f_B = W at *
  simp only [rowF_eq]
  simp only [within_eq, nestF_eq, nestR_lit, nsM_lit, nsV_lit, Try.f50, go_sem, ↓reduceIte, Nat.reduceAdd, Nat.reduceSub, Nat.reduceMul, Nat.reduceEqDiff, Nat.reduceLT, Nat.reduceLeDiff, Int.reduceToNat, Int.reduceLE, Int.reduceLT, Int.reduceEq, Int.reduceNeg, reduceCtorEq]
  obtain ⟨pn1, pn, pm, pK⟩ := pre
  refine loop_ofH { i : Nat // i ≤ m ∧ ∀ j, j < i → (fun i => rdRow n M (K i) (W i)) j = true } (fun i => [(14, .int .i64 (i.1 : Int)), (13, .int .i64 (m : Int)), (12, .row m 1 (nestF 0 1 B K W)), (6, .vec 1 i.1), (0, .rptr 7 fun j => nth [.row n 5 (nestF 0 2 A M V), .row h 1 fun i j => .int .i64 (nd i j), .row q 1 fun i j => .int .i64 (pr i j), .int .i64 st, .int .i64 ro, .int .i64 pk, .int .i64 fr] j)])
    (fun h i => ⟨[], [getV h.vecs 0, .live i.1 118 3 i.1 (chG n W)]⟩) (fun i => m - i.1) (fun _ => ⟨rfl, rfl⟩) ⟨0, by omega, by omega⟩ (by (apply sub_of <;> simp only [go_sem, ↓reduceIte, Nat.reduceAdd, Nat.reduceSub, Nat.reduceMul, Nat.reduceEqDiff, Nat.reduceLT, Nat.reduceLeDiff, Int.reduceToNat, Int.reduceLE, Int.reduceLT, Int.reduceEq, Int.reduceNeg, reduceCtorEq] <;> (try simp [catF]) <;> (try exact fun j _ => Bd_nth (by simp [BdL, Bd]) j) <;> (try exact bd_setL (by simp [bdAs, BdL, Bd])) <;> (try exact nestF_bd _ _ _ _ _ _ _ _ _)); exact ⟨fun i _ => nestF_bd1 _ _ _ _ _ _ _ i 0, fun j _ => Bd_nth (prC7_bd n A M V h nd q pr st ro pk fr 0 2) j⟩) ?_
  rintro ⟨i, hi, h3⟩
  simp only [within_eq, nestF_eq, nestR_lit, nsM_lit, nsV_lit, Try.f50, go_sem, ↓reduceIte, Nat.reduceAdd, Nat.reduceSub, Nat.reduceMul, Nat.reduceEqDiff, Nat.reduceLT, Nat.reduceLeDiff, Int.reduceToNat, Int.reduceLE, Int.reduceLT, Int.reduceEq, Int.reduceNeg, reduceCtorEq]
  have hw3 : IntKind.i64.wrap ((i : Int) + 1) = ((i + 1 : Nat) : Int) := by rw [wrap_id (by omega) (by omega)]; omega
  have no : ∀ {X : Prop}, (i < m) → rdRow n M (K i) (W i) = false → ((0 = if rdB n M m K W = true then m else 0) ∧ ∀ (i j : Nat), (i < if rdB n M m K W = true then m else 0) → j < 3 → SV.any = chF n W i j ∧ Sc (chF n W i j)) ∧ [SV.bool false] = [.bool (rdB n M m K W)] := fun h1 h2 => by
    have : rdB n M m K W = false := allU_false (p := fun i => rdRow n M (K i) (W i)) h1 h2
    rw [this]
    exact ⟨⟨rfl, fun _ _ hi => absurd hi (by simp)⟩, rfl⟩
  refine ⟨fun c1 => ⟨⟨by omega, by simpa using c1⟩, fun c2 => ?_, fun c2 => ?_⟩, fun c1 => ?_⟩
  all_goals simp only [decide_eq_true_eq, decide_eq_false_iff_not] at c1
  · simp only [Bool.not_eq_true', decide_eq_false_iff_not] at c2
    exact no (X := True) (by omega) (by simp [rdRow, c2])
  · simp only [Bool.not_eq_false', decide_eq_true_eq] at c2
    have hKn : K i = n := by omega
    refine loop_ofH { a : Nat // a ≤ K i ∧ ∀ j, j < a → (fun a => in3 (W i a 0) 0 (M a)) j = true } (fun a => [(28, .int .i64 (a.1 : Int)), (27, .int .i64 (K i : Int)), (26, .row (K i) 1 fun a b => .int .i64 (W i a b)), (8, .row (K i) 1 fun a b => .int .i64 (W i a b)), (14, .int .i64 (i : Int)), (13, .int .i64 (m : Int)), (12, .row m 1 (nestF 0 1 B K W)), (6, .vec 1 i), (0, .rptr 7 fun j => nth [.row n 5 (nestF 0 2 A M V), .row h 1 fun i j => .int .i64 (nd i j), .row q 1 fun i j => .int .i64 (pr i j), .int .i64 st, .int .i64 ro, .int .i64 pk, .int .i64 fr] j)])
      (fun h _ => h) (fun a => K i - a.1) (fun _ => ⟨rfl, rfl⟩) ⟨0, by omega, by omega⟩ (by (apply sub_of <;> simp only [go_sem, ↓reduceIte, Nat.reduceAdd, Nat.reduceSub, Nat.reduceMul, Nat.reduceEqDiff, Nat.reduceLT, Nat.reduceLeDiff, Int.reduceToNat, Int.reduceLE, Int.reduceLT, Int.reduceEq, Int.reduceNeg, reduceCtorEq] <;> (try simp [catF]) <;> (try exact fun j _ => Bd_nth (by simp [BdL, Bd]) j) <;> (try exact bd_setL (by simp [bdAs, BdL, Bd])) <;> (try exact nestF_bd _ _ _ _ _ _ _ _ _)); all_goals first | exact ⟨fun i _ => nestF_bd1 _ _ _ _ _ _ _ i 0, fun j _ => Bd_nth (prC7_bd n A M V h nd q pr st ro pk fr 0 2) j⟩ | exact fun _ _ _ _ => chG_bd _ _ _ _ _ _) ?_
    rintro ⟨a, ha, h4⟩
    have hcp := chT_cp (k := n) (by omega)
    have hmn : min n 3 = n := by omega
    have hw4 : IntKind.i64.wrap ((a : Int) + 1) = ((a + 1 : Nat) : Int) := by rw [wrap_id (by omega) (by omega)]; omega
    simp only [hKn, hmn, hcp, within_eq, nestF_eq, nestR_lit, nsM_lit, nsV_lit, Try.f50, go_sem, ↓reduceIte, Nat.reduceAdd, Nat.reduceSub, Nat.reduceMul, Nat.reduceEqDiff, Nat.reduceLT, Nat.reduceLeDiff, Int.reduceToNat, Int.reduceLE, Int.reduceLT, Int.reduceEq, Int.reduceNeg, reduceCtorEq]
    refine ⟨fun c3 => ⟨⟨by omega, by simpa using c3⟩, ⟨by omega, by simpa using c3⟩, fun c4 => ?_, fun c4 => ?_⟩, fun c3 => ?_⟩
    all_goals simp only [decide_eq_true_eq, decide_eq_false_iff_not] at c3
    · refine no (X := True) (by omega) ?_
      simp only [rdRow]
      rw [allU_false (p := fun a => in3 (W i a 0) 0 (M a)) (i := a) (by omega) (by simpa only [Bool.not_eq_true'] using c4)]
      simp
    · refine ⟨⟨a + 1, by omega, below h4 (by simpa only [Bool.not_eq_false'] using c4)⟩, by simp only []; omega, ?_⟩
      apply sub_of <;> simp only [hw4, go_sem, ↓reduceIte, Nat.reduceAdd, Nat.reduceSub, Nat.reduceMul, Nat.reduceEqDiff, Nat.reduceLT, Nat.reduceLeDiff, Int.reduceToNat, Int.reduceLE, Int.reduceLT, Int.reduceEq, Int.reduceNeg, reduceCtorEq] <;> (try simp) <;> (try exact fun j _ => Bd_nth (by simp [BdL, Bd]) j) <;> (try exact bd_setL (by simp [bdAs, BdL, Bd])) <;> (try exact nestF_bd _ _ _ _ _ _ _ _ _)
      all_goals first | exact ⟨fun i _ => nestF_bd1 _ _ _ _ _ _ _ i 0, fun j _ => Bd_nth (prC7_bd n A M V h nd q pr st ro pk fr 0 2) j⟩ | exact fun _ _ _ _ => chG_bd _ _ _ _ _ _
    · obtain rfl : a = K i := by omega
      have hrow : rdRow n M (K i) (W i) = true := by simp only [rdRow, allU_true h4, c2, decide_true, Bool.true_and]
      refine ⟨⟨by omega, by omega⟩, by omega, ⟨by omega, by omega⟩, ⟨i + 1, by omega, below h3 hrow⟩, by simp only []; omega, ?_⟩
      have hcat : ∀ x j, catF i (chG n W) (oneF [.int .i64 (chT n (W i)).a, .int .i64 (chT n (W i)).b, .int .i64 (chT n (W i)).c]) x j = if x < i + 1 then chG n W x j else nth [.int .i64 (chT n (W i)).a, .int .i64 (chT n (W i)).b, .int .i64 (chT n (W i)).c] j := fun x j => by
        rcases Nat.lt_trichotomy x i with h1 | rfl | h1
        · rw [if_pos (by omega)]; simp only [catF, if_pos h1]
        · rw [if_pos (by omega)]; simp only [catF, if_neg (Nat.lt_irrefl _), oneF, chG]
        · rw [if_neg (by omega)]; simp only [catF, if_neg (show ¬ x < i by omega), oneF]
      apply sub_of <;> simp only [hw3, go_sem, ↓reduceIte, Nat.reduceAdd, Nat.reduceSub, Nat.reduceMul, Nat.reduceEqDiff, Nat.reduceLT, Nat.reduceLeDiff, Int.reduceToNat, Int.reduceLE, Int.reduceLT, Int.reduceEq, Int.reduceNeg, reduceCtorEq] <;> (try simp)
      all_goals first | exact ⟨fun i _ => nestF_bd1 _ _ _ _ _ _ _ i 0, fun j _ => Bd_nth (prC7_bd n A M V h nd q pr st ro pk fr 0 2) j⟩ | exact fun _ _ _ _ => chG_bd _ _ _ _ _ _ | exact fun x j hx _ => by rw [hcat, if_pos hx]
  · obtain rfl : i = m := by omega
    have : rdB n M i K W = true := allU_true h3
    simp only [this, if_true]
    exact ⟨⟨trivial, fun a j ha hj => ⟨chG_F n W a hj, trivial⟩⟩, trivial⟩
end Go.Eng
end

/- press: plans played. -/
section
namespace Go.Eng
open Go Go.RowKit Go.Proofs
set_option maxRecDepth 100000
set_option maxHeartbeats 4000000
attribute [local irreducible] OwnT DefS
/-- Hours of a plan: the first error and its hour, or what is then and what was paid. -/
structure PL where
  (e : Int) (hr : Nat) (s : PS) (en st : Int)
def plStep (D : PD) (c : T3) (r : PL) : PL :=
  if r.e = 0 then (if (hourP D r.s r.hr c).e = 0 then ⟨0, r.hr + 1, (hourP D r.s r.hr c).s, r.en + (hourP D r.s r.hr c).en, r.st + (hourP D r.s r.hr c).sta⟩ else ⟨(hourP D r.s r.hr c).e, r.hr, ⟨⟨0, 0, 0⟩, 0, 0⟩, 0, 0⟩) else r
def plM (D : PD) (C : Nat → T3) : Nat → PL
  | 0 => ⟨0, 0, begP D, 0, 0⟩
  | k + 1 => plStep D (C k) (plM D C k)
theorem plM_hr {D : PD} {C : Nat → T3} : ∀ k, (plM D C k).e = 0 → (plM D C k).hr = k
  | 0, _ => rfl
  | k + 1, h => by
    simp only [plM, plStep] at h ⊢
    split at h
    · rename_i h0
      have ih := plM_hr k h0
      split at h
      · rename_i h1; rw [if_pos h0, if_pos h1, ih]
      · rename_i h1; exact absurd h h1
    · rename_i h0; exact absurd h h0
theorem plM_stop {D : PD} {C : Nat → T3} {k : Nat} (h : (plM D C k).e ≠ 0) : ∀ m, k ≤ m → plM D C m = plM D C k := by
  intro m hm
  induction m with
  | zero => obtain rfl : k = 0 := by omega
            rfl
  | succ m ih =>
    rcases Nat.lt_or_ge m k with h1 | h1
    · obtain rfl : k = m + 1 := by omega
      rfl
    · simp only [plM, plStep, ih h1, if_neg h]
theorem plM_ok {D : PD} (hD : D.Ok) {C : Nat → T3} : ∀ k, k ≤ D.h → (∀ i, i < k → chOk D (C i)) → (plM D C k).e = 0 → stOk D (plM D C k).s ∧ (0 ≤ (plM D C k).en ∧ (plM D C k).en ≤ k * 30000000) ∧ (0 ≤ (plM D C k).st ∧ (plM D C k).st ≤ k * 30000)
  | 0, _, _, _ => ⟨begP_ok hD, by simp [plM], by simp [plM]⟩
  | k + 1, hk, hc, h => by
    simp only [plM, plStep] at h ⊢
    split at h
    · rename_i h0
      have hh := plM_hr k h0
      obtain ⟨g1, g2, g3⟩ := plM_ok hD k (by omega) (fun i hi => hc i (by omega)) h0
      split at h
      · rename_i h1
        rw [if_pos h0, if_pos h1]
        rw [hh] at h1 ⊢
        obtain ⟨q1, q2, q3⟩ := hourP_ok hD g1 (hc k (by omega)) (by omega) h1
        exact ⟨q1, by simp only []; omega, by simp only []; omega⟩
      · rename_i h1; exact absurd h h1
    · rename_i h0; exact absurd h h0
/-- What is told of it. -/
def plO (D : PD) (r : PL) : SV := if r.e = 0 then .tup [psS r.s, .agg [.int .i64 r.en, .int .i64 r.st, .int .i64 (r.s.pk * D.pk)], .int .i64 (r.hr : Int), .int .i64 0] else .tup [psS ⟨⟨0, 0, 0⟩, 0, 0⟩, .agg [.int .i64 0, .int .i64 0, .int .i64 0], .int .i64 (r.hr : Int), .int .i64 r.e]
def playBase : BaseF := fun args => match args with
  | [.rptr sz_1 c_1, .row m sz_c f_c] => (match c_1 0, c_1 1, c_1 2, c_1 3, c_1 4, c_1 5, c_1 6 with | .row n sz_A f_A, .row h sz_nd f_nd, .row q sz_pr f_pr, .int .i64 st, .int .i64 ro, .int .i64 pk, .int .i64 fr => some ((sz_1 = 7) ∧ (sz_A = 5 ∧ NestR n 5 0 2 f_A) ∧ (sz_nd = 1 ∧ IntR h 1 f_nd) ∧ (sz_pr = 1 ∧ IntR q 1 f_pr) ∧ (sz_c = 3 ∧ IntR m 3 f_c) ∧ (q = h ∧ PD.Ok ⟨n, (nsA f_A), (nsM 0 f_A), (nsV 0 f_A), h, (ivf f_nd), (ivf f_pr), st, ro, pk, fr⟩ ∧ m ≤ h ∧ ∀ i, i < m → chOk ⟨n, (nsA f_A), (nsM 0 f_A), (nsV 0 f_A), h, (ivf f_nd), (ivf f_pr), st, ro, pk, fr⟩ ⟨(ivf f_c) i 0, (ivf f_c) i 1, (ivf f_c) i 2⟩), plO ⟨n, (nsA f_A), (nsM 0 f_A), (nsV 0 f_A), h, (ivf f_nd), (ivf f_pr), st, ro, pk, fr⟩ (plM ⟨n, (nsA f_A), (nsM 0 f_A), (nsV 0 f_A), h, (ivf f_nd), (ivf f_pr), st, ro, pk, fr⟩ (fun i => ⟨(ivf f_c) i 0, (ivf f_c) i 1, (ivf f_c) i 2⟩) m)) | _, _, _, _, _, _, _ => none)
  | _ => none
theorem play_eq (sz_1 : Nat) (c_1 : Nat → SV) (m : Nat) (sz_c : Nat) (f_c : Nat → Nat → SV) : playBase [.rptr sz_1 c_1, .row m sz_c f_c] = (match c_1 0, c_1 1, c_1 2, c_1 3, c_1 4, c_1 5, c_1 6 with | .row n sz_A f_A, .row h sz_nd f_nd, .row q sz_pr f_pr, .int .i64 st, .int .i64 ro, .int .i64 pk, .int .i64 fr => some ((sz_1 = 7) ∧ (sz_A = 5 ∧ NestR n 5 0 2 f_A) ∧ (sz_nd = 1 ∧ IntR h 1 f_nd) ∧ (sz_pr = 1 ∧ IntR q 1 f_pr) ∧ (sz_c = 3 ∧ IntR m 3 f_c) ∧ (q = h ∧ PD.Ok ⟨n, (nsA f_A), (nsM 0 f_A), (nsV 0 f_A), h, (ivf f_nd), (ivf f_pr), st, ro, pk, fr⟩ ∧ m ≤ h ∧ ∀ i, i < m → chOk ⟨n, (nsA f_A), (nsM 0 f_A), (nsV 0 f_A), h, (ivf f_nd), (ivf f_pr), st, ro, pk, fr⟩ ⟨(ivf f_c) i 0, (ivf f_c) i 1, (ivf f_c) i 2⟩), plO ⟨n, (nsA f_A), (nsM 0 f_A), (nsV 0 f_A), h, (ivf f_nd), (ivf f_pr), st, ro, pk, fr⟩ (plM ⟨n, (nsA f_A), (nsM 0 f_A), (nsV 0 f_A), h, (ivf f_nd), (ivf f_pr), st, ro, pk, fr⟩ (fun i => ⟨(ivf f_c) i 0, (ivf f_c) i 1, (ivf f_c) i 2⟩) m)) | _, _, _, _, _, _, _ => none) := rfl
theorem play_base : Base Try.prog 51 playBase := by
  intro args p v hq hp
  unfold playBase at hq
  split at hq
  rotate_left
  · cases hq
  rename_i sz_1 c_1 m sz_c f_c
  split at hq
  rotate_left
  · cases hq
  rename_i n sz_A f_A h sz_nd f_nd q sz_pr f_pr st ro pk fr h_1_0 h_1_1 h_1_2 h_1_3 h_1_4 h_1_5 h_1_6
  cases hq
  obtain ⟨rfl, ⟨rfl, i_A⟩, ⟨rfl, i_nd⟩, ⟨rfl, i_pr⟩, ⟨rfl, i_c⟩, pre⟩ := hp
  refine base_of (C := cx [] [] [(43, triedBase), (44, beginBase)] [(51, 12, p51_12), (51, 13, p51_13)] none) (cx_ok trivial ⟨tried_base, begin_base, trivial⟩) rfl (g := 51) (fn := Try.f51)
    (args' := [.rptr 7 (fun j => nth [.row n 5 (nestF 0 2 (nsA f_A) (nsM 0 f_A) (nsV 0 f_A)), .row h 1 (rowF .i64 (ivf f_nd)), .row q 1 (rowF .i64 (ivf f_pr)), .int .i64 st, .int .i64 ro, .int .i64 pk, .int .i64 fr] j), .row m 3 (rowF .i64 (ivf f_c))]) (fn_51) rfl 1000 (by
    simp only [BdL, Bd, and_self, and_true, true_and]
    exact ⟨(fun j hj => by
      have hj : j = 0 ∨ j = 1 ∨ j = 2 ∨ j = 3 ∨ j = 4 ∨ j = 5 ∨ j = 6 := by omega
      rcases hj with rfl | rfl | rfl | rfl | rfl | rfl | rfl
      · rw [h_1_0]; simp only [BdL, Bd, and_self, and_true, true_and]; exact (fun i j hi hj => nest_bd i_A i j hi hj)
      · rw [h_1_1]; simp only [BdL, Bd, and_self, and_true, true_and]; exact (fun i j hi hj => by rw [i_nd i j hi hj]; trivial)
      · rw [h_1_2]; simp only [BdL, Bd, and_self, and_true, true_and]; exact (fun i j hi hj => by rw [i_pr i j hi hj]; trivial)
      · rw [h_1_3]; simp only [BdL, Bd, and_self, and_true, true_and]
      · rw [h_1_4]; simp only [BdL, Bd, and_self, and_true, true_and]
      · rw [h_1_5]; simp only [BdL, Bd, and_self, and_true, true_and]
      · rw [h_1_6]; simp only [BdL, Bd, and_self, and_true, true_and]), (fun i j hi hj => by rw [i_c i j hi hj]; trivial)⟩) ⟨SameD.rptr (fun j hj => by
      have hj : j = 0 ∨ j = 1 ∨ j = 2 ∨ j = 3 ∨ j = 4 ∨ j = 5 ∨ j = 6 := by omega
      rcases hj with rfl | rfl | rfl | rfl | rfl | rfl | rfl
      · rw [h_1_0]; exact SameD.nest i_A
      · rw [h_1_1]; exact SameD.int i_nd
      · rw [h_1_2]; exact SameD.int i_pr
      · rw [h_1_3]; exact SameD.rfl' _
      · rw [h_1_4]; exact SameD.rfl' _
      · rw [h_1_5]; exact SameD.rfl' _
      · rw [h_1_6]; exact SameD.rfl' _), SameD.int i_c, trivial⟩ ?_
  generalize nsA f_A = A at *
  generalize nsM 0 f_A = M at *
  generalize nsV 0 f_A = V at *
  generalize ivf f_nd = nd at *
  generalize ivf f_pr = pr at *
  generalize ivf f_c = c at *
  simp only [rowF_eq]
  simp only [tried_eq, begin_eq, p51_12, p51_13, nestF_eq, nestR_lit, nsM_lit, nsV_lit, onI_ns, psB_ns, hourP_ns, Ok_ns, psS, hrS, Try.f51, go_sem, ↓reduceIte, Nat.reduceAdd, Nat.reduceSub, Nat.reduceMul, Nat.reduceEqDiff, Nat.reduceLT, Nat.reduceLeDiff, Int.reduceToNat, Int.reduceLE, Int.reduceLT, Int.reduceEq, Int.reduceNeg, reduceCtorEq]
  obtain ⟨rfl, hOk, hm, hc⟩ := pre
  generalize hD : (⟨n, A, M, V, q, nd, pr, st, ro, pk, fr⟩ : PD) = D at hOk hc
  have d0 : n = D.n := by rw [← hD]
  have d1 : A = D.A := by rw [← hD]
  have d2 : M = D.M := by rw [← hD]
  have d3 : V = D.V := by rw [← hD]
  have d4 : q = D.h := by rw [← hD]
  have d5 : nd = D.nd := by rw [← hD]
  have d6 : pr = D.pr := by rw [← hD]
  have d7 : st = D.st := by rw [← hD]
  have d8 : ro = D.ro := by rw [← hD]
  have d9 : pk = D.pk := by rw [← hD]
  have d10 : fr = D.fr := by rw [← hD]
  clear hD
  subst d0 d1 d2 d3 d4 d5 d6 d7 d8 d9 d10
  have hn := hOk.n
  have hh := hOk.h
  have hpk := hOk.pk
  generalize hC : (fun i => (⟨c i 0, c i 1, c i 2⟩ : T3)) = C
  have hCi : ∀ i, (⟨c i 0, c i 1, c i 2⟩ : T3) = C i := fun i => by rw [← hC]
  simp only [hCi] at hc
  refine ⟨by omega, ?_⟩
  refine loop_ofH { i : Nat // i ≤ m ∧ (plM D C i).e = 0 } (fun i => [(18, .int .i64 (i.1 : Int)), (17, .int .i64 (m : Int)), (16, .row m 3 fun i j => .int .i64 (c i j)), (5, .ptr 1 0), (4, .ptr 0 0), (1, .row m 3 fun i j => .int .i64 (c i j)), (0, .rptr 7 fun j => nth (prC D) j)])
    (fun h i => ⟨[.live 120 [.int .i64 (plM D C i.1).s.on.a, .int .i64 (plM D C i.1).s.on.b, .int .i64 (plM D C i.1).s.on.c, .int .i64 (plM D C i.1).s.sto, .int .i64 (plM D C i.1).s.pk], .live 142 [.int .i64 (plM D C i.1).en, .int .i64 (plM D C i.1).st, .int .i64 0]], h.vecs⟩) (fun i => m - i.1) (fun _ => ⟨rfl, rfl⟩) ⟨0, Nat.zero_le _, rfl⟩ (by simp only [prC, plM, begP]; (apply sub_of <;> simp only [go_sem, ↓reduceIte, Nat.reduceAdd, Nat.reduceSub, Nat.reduceMul, Nat.reduceEqDiff, Nat.reduceLT, Nat.reduceLeDiff, Int.reduceToNat, Int.reduceLE, Int.reduceLT, Int.reduceEq, Int.reduceNeg, reduceCtorEq] <;> (try simp [catF])); all_goals first | exact nestF_bd _ _ _ _ _ _ _ _ _ | exact prC_bds D _ _ | exact fun j _ => Bd_nth (prC_bd D _ _) j) ?_
  rintro ⟨i, hi, h3⟩
  have hhr := plM_hr i h3
  obtain ⟨p1, p2, p3⟩ := plM_ok hOk i (by omega) (fun a ha => hc a (by omega)) h3
  have hw3 : IntKind.i64.wrap ((i : Int) + 1) = ((i + 1 : Nat) : Int) := by rw [wrap_id (by omega) (by omega)]; omega
  simp only [prC, tried_eq, begin_eq, p51_12, p51_13, nestF_eq, nestR_lit, nsM_lit, nsV_lit, onI_ns, psB_ns, hourP_ns, Ok_ns, psS, hrS, Try.f51, go_sem, ↓reduceIte, Nat.reduceAdd, Nat.reduceSub, Nat.reduceMul, Nat.reduceEqDiff, Nat.reduceLT, Nat.reduceLeDiff, Int.reduceToNat, Int.reduceLE, Int.reduceLT, Int.reduceEq, Int.reduceNeg, reduceCtorEq]
  rw [hCi i]
  generalize hR : hourP _ _ _ _ = R
  have hR : hourP D (plM D C i).s i (C i) = R := hR
  refine ⟨fun e1 => ?_, fun e1 => ?_⟩
  all_goals simp only [decide_eq_true_eq, decide_eq_false_iff_not] at e1
  · have hci := hc i (by omega)
    refine ⟨⟨by omega, by omega⟩, ⟨hOk, p1, hci, by omega, by omega⟩, fun e2 => ?_, fun e2 => ?_⟩
    all_goals simp only [Bool.not_eq_true', Bool.not_eq_false', decide_eq_true_eq, decide_eq_false_iff_not] at e2
    · have hs : plM D C (i + 1) = ⟨R.e, i, ⟨⟨0, 0, 0⟩, 0, 0⟩, 0, 0⟩ := by
        simp only [plM, plStep, if_pos h3, hhr, hR, if_neg e2]
      rw [plM_stop (k := i + 1) (by rw [hs]; exact e2) m (by omega), hs]
      simp only [plO, if_neg e2, psS]
    · have hk := hourP_ok hOk p1 hci (hr := i) (by omega) (by rw [hR]; exact e2)
      rw [hR] at hk
      obtain ⟨k1, k2, k3⟩ := hk
      have hs : plM D C (i + 1) = ⟨0, i + 1, R.s, (plM D C i).en + R.en, (plM D C i).st + R.sta⟩ := by
        simp only [plM, plStep, if_pos h3, hhr, hR, if_pos e2]
      have w1 : IntKind.i64.wrap ((plM D C i).en + R.en) = (plM D C i).en + R.en := wrap_id (by omega) (by omega)
      have w2 : IntKind.i64.wrap ((plM D C i).st + R.sta) = (plM D C i).st + R.sta := wrap_id (by omega) (by omega)
      refine ⟨⟨i + 1, by omega, by rw [hs]⟩, by simp only []; omega, ?_⟩
      apply sub_of <;> simp only [hw3, w1, w2, hs, go_sem, ↓reduceIte, Nat.reduceAdd, Nat.reduceSub, Nat.reduceMul, Nat.reduceEqDiff, Nat.reduceLT, Nat.reduceLeDiff, Int.reduceToNat, Int.reduceLE, Int.reduceLT, Int.reduceEq, Int.reduceNeg, reduceCtorEq] <;> (try simp)
      all_goals first | exact nestF_bd _ _ _ _ _ _ _ _ _ | exact prC_bds D _ _ | exact fun j _ => Bd_nth (prC_bd D _ _) j
  · obtain rfl : i = m := by omega
    have q1 := mulB (x := (plM D C i).s.pk) (y := D.pk) (m := 3000) (k := 10000) p1.2.2 hpk
    have w1 : IntKind.i64.wrap ((plM D C i).s.pk * D.pk) = (plM D C i).s.pk * D.pk := wrap_id (by omega) (by omega)
    rw [w1]
    simp only [plO, if_pos h3, hhr, psS]
    exact ⟨⟨by kernel_rfl, by kernel_rfl⟩, ⟨by kernel_rfl, by kernel_rfl⟩, trivial⟩
end Go.Eng
end

/- press: the first cells of compressors do not count. -/
section
namespace Go.Eng
open Go Go.RowKit Go.Proofs
set_option maxRecDepth 100000
set_option maxHeartbeats 4000000
attribute [local irreducible] OwnT DefS
section
variable {n : Nat} {A : Nat → Nat → Int} {M : Nat → Nat} {V : Nat → Nat → Nat → Int} {h : Nat} {nd pr : Nat → Nat → Int} {st ro pk fr : Int}
theorem begP_ns : begP ⟨n, nsA (nestF 0 2 A M V), M, V, h, nd, pr, st, ro, pk, fr⟩ = begP ⟨n, A, M, V, h, nd, pr, st, ro, pk, fr⟩ := by
  simp only [begP, onI_ns]
theorem plM_ns (C : Nat → T3) : ∀ k, plM ⟨n, nsA (nestF 0 2 A M V), M, V, h, nd, pr, st, ro, pk, fr⟩ C k = plM ⟨n, A, M, V, h, nd, pr, st, ro, pk, fr⟩ C k
  | 0 => by simp only [plM, begP_ns]
  | k + 1 => by simp only [plM, plStep, plM_ns C k, hourP_ns]
theorem plO_ns (r : PL) : plO ⟨n, nsA (nestF 0 2 A M V), M, V, h, nd, pr, st, ro, pk, fr⟩ r = plO ⟨n, A, M, V, h, nd, pr, st, ro, pk, fr⟩ r := rfl
theorem pickM_ns (f : T3 → Option Int) : ∀ k, pickM ⟨n, nsA (nestF 0 2 A M V), M, V, h, nd, pr, st, ro, pk, fr⟩ f k = pickM ⟨n, A, M, V, h, nd, pr, st, ro, pk, fr⟩ f k
  | 0 => rfl
  | k + 1 => by
    have e : dig ⟨n, nsA (nestF 0 2 A M V), M, V, h, nd, pr, st, ro, pk, fr⟩ k = dig ⟨n, A, M, V, h, nd, pr, st, ro, pk, fr⟩ k := rfl
    simp only [pickM, pickM_ns f k, e]
theorem bestM_ns : ∀ (k : Nat) (s : PS), bestM ⟨n, nsA (nestF 0 2 A M V), M, V, h, nd, pr, st, ro, pk, fr⟩ k s = bestM ⟨n, A, M, V, h, nd, pr, st, ro, pk, fr⟩ k s
  | 0, s => rfl
  | k + 1, s => by
    have ih : bestM ⟨n, nsA (nestF 0 2 A M V), M, V, h, nd, pr, st, ro, pk, fr⟩ k = bestM ⟨n, A, M, V, h, nd, pr, st, ro, pk, fr⟩ k := funext fun s => bestM_ns k s
    have e : tot ⟨n, nsA (nestF 0 2 A M V), M, V, h, nd, pr, st, ro, pk, fr⟩ = tot ⟨n, A, M, V, h, nd, pr, st, ro, pk, fr⟩ := rfl
    have hc : ∀ (rest : PS → Option (Int × T3)) (i : Nat), candM ⟨n, nsA (nestF 0 2 A M V), M, V, h, nd, pr, st, ro, pk, fr⟩ rest s i = candM ⟨n, A, M, V, h, nd, pr, st, ro, pk, fr⟩ rest s i := fun rest i => by
      funext c
      simp only [candM, hourP_ns]
    simp only [bestM, ih, e, pickM_ns, hc]
theorem sAt_ns : ∀ i, sAt ⟨n, nsA (nestF 0 2 A M V), M, V, h, nd, pr, st, ro, pk, fr⟩ i = sAt ⟨n, A, M, V, h, nd, pr, st, ro, pk, fr⟩ i
  | 0 => begP_ns
  | i + 1 => by simp only [sAt, sAt_ns i, hourP_ns, bestM_ns]
theorem cAt_ns : cAt ⟨n, nsA (nestF 0 2 A M V), M, V, h, nd, pr, st, ro, pk, fr⟩ = cAt ⟨n, A, M, V, h, nd, pr, st, ro, pk, fr⟩ := by
  funext i
  simp only [cAt, sAt_ns, bestM_ns]
theorem chE_ns (b : Bool) : chE b ⟨n, nsA (nestF 0 2 A M V), M, V, h, nd, pr, st, ro, pk, fr⟩ = chE b ⟨n, A, M, V, h, nd, pr, st, ro, pk, fr⟩ := by
  simp only [chE, bestM_ns, begP_ns]
theorem chC_ns (b : Bool) : chC b ⟨n, nsA (nestF 0 2 A M V), M, V, h, nd, pr, st, ro, pk, fr⟩ = chC b ⟨n, A, M, V, h, nd, pr, st, ro, pk, fr⟩ := by
  simp only [chC, chE_ns, bestM_ns, begP_ns]
theorem chN_ns (b : Bool) : chN b ⟨n, nsA (nestF 0 2 A M V), M, V, h, nd, pr, st, ro, pk, fr⟩ = chN b ⟨n, A, M, V, h, nd, pr, st, ro, pk, fr⟩ := by
  simp only [chN, chE_ns]
end
theorem plM_bad {D : PD} {C : Nat → T3} : ∀ k, (plM D C k).e ≠ 0 → (plM D C k).s = ⟨⟨0, 0, 0⟩, 0, 0⟩ ∧ (plM D C k).en = 0 ∧ (plM D C k).st = 0
  | 0, h => absurd rfl h
  | k + 1, h => by
    simp only [plM, plStep] at h ⊢
    split at h
    · rename_i h0
      rw [if_pos h0]
      split at h
      · exact absurd rfl h
      · rename_i h1
        rw [if_neg h1]
        exact ⟨rfl, rfl, rfl⟩
    · rename_i h0
      rw [if_neg h0]
      exact plM_bad k h0
section
variable {n : Nat} {A : Nat → Nat → Int} {M : Nat → Nat} {V : Nat → Nat → Nat → Int} {h : Nat} {nd pr : Nat → Nat → Int} {st ro pk fr : Int}
end
end Go.Eng
end

/- press: plans checked. -/
section
namespace Go.Eng
open Go Go.RowKit Go.Proofs
set_option maxRecDepth 100000
set_option maxHeartbeats 4000000
attribute [local irreducible] OwnT DefS
theorem rdB_ok {n : Nat} {M : Nat → Nat} {m : Nat} {K : Nat → Nat} {W : Nat → Nat → Nat → Int} (h : rdB n M m K W = true) {i : Nat} (hi : i < m) : K i = n ∧ ∀ a, a < n → 0 ≤ W i a 0 ∧ W i a 0 ≤ M a := by
  have := allU_iff.1 h i hi
  simp only [rdRow, Bool.and_eq_true, decide_eq_true_eq, allU_iff, in3_iff] at this
  obtain ⟨h1, h2⟩ := this
  exact ⟨by omega, fun a ha => h2 a (by omega)⟩
theorem chT_ok {D : PD} (hD : D.Ok) {m : Nat} {K : Nat → Nat} {W : Nat → Nat → Nat → Int} (h : rdB D.n D.M m K W = true) {i : Nat} (hi : i < m) : chOk D (chT D.n (W i)) := by
  obtain ⟨h1, h2⟩ := rdB_ok h hi
  intro a ha
  have hn := hD.n
  rw [chT_get ha (by omega)]
  exact h2 a ha
theorem chT_eta (n : Nat) (w : Nat → Nat → Int) : (⟨(chT n w).get 0, (chT n w).get 1, (chT n w).get 2⟩ : T3) = chT n w := rfl
end Go.Eng
end

/- press: plans before another; the form of plans. -/
section
namespace Go.Eng
open Go Go.RowKit Go.Proofs
set_option maxRecDepth 100000
set_option maxHeartbeats 4000000
attribute [local irreducible] OwnT DefS
def formsB (n : Nat) (M : Nat → Nat) (m : Nat) (K : Nat → Nat) (W : Nat → Nat → Nat → Int) : Bool := allU (fun i => formB n M (K i) (W i)) m
def formsBase : BaseF := fun args => match args with
  | [.agg [.row n sz_A f_A, .row h sz_nd f_nd, .row q sz_pr f_pr, .int .i64 st, .int .i64 ro, .int .i64 pk, .int .i64 fr], .row m sz_B f_B] => some ((sz_A = 5 ∧ NestR n 5 0 2 f_A) ∧ (sz_nd = 1 ∧ IntR h 1 f_nd) ∧ (sz_pr = 1 ∧ IntR q 1 f_pr) ∧ (sz_B = 1 ∧ NestR m 1 0 1 f_B) ∧ (m ≤ 1000000 ∧ ∀ i, i < m → (nsM 0 f_B) i ≤ 1000000), .bool (formsB n (nsM 0 f_A) m (nsM 0 f_B) (nsV 0 f_B)))
  | _ => none
theorem forms_eq (n : Nat) (sz_A : Nat) (f_A : Nat → Nat → SV) (h : Nat) (sz_nd : Nat) (f_nd : Nat → Nat → SV) (q : Nat) (sz_pr : Nat) (f_pr : Nat → Nat → SV) (st : Int) (ro : Int) (pk : Int) (fr : Int) (m : Nat) (sz_B : Nat) (f_B : Nat → Nat → SV) : formsBase [.agg [.row n sz_A f_A, .row h sz_nd f_nd, .row q sz_pr f_pr, .int .i64 st, .int .i64 ro, .int .i64 pk, .int .i64 fr], .row m sz_B f_B] = some ((sz_A = 5 ∧ NestR n 5 0 2 f_A) ∧ (sz_nd = 1 ∧ IntR h 1 f_nd) ∧ (sz_pr = 1 ∧ IntR q 1 f_pr) ∧ (sz_B = 1 ∧ NestR m 1 0 1 f_B) ∧ (m ≤ 1000000 ∧ ∀ i, i < m → (nsM 0 f_B) i ≤ 1000000), .bool (formsB n (nsM 0 f_A) m (nsM 0 f_B) (nsV 0 f_B))) := rfl
theorem forms_base : Base Try.prog 16 formsBase := by
  intro args p v hq hp
  unfold formsBase at hq
  split at hq
  rotate_left
  · cases hq
  rename_i n sz_A f_A h sz_nd f_nd q sz_pr f_pr st ro pk fr m sz_B f_B
  cases hq
  obtain ⟨⟨rfl, i_A⟩, ⟨rfl, i_nd⟩, ⟨rfl, i_pr⟩, ⟨rfl, i_B⟩, pre⟩ := hp
  refine base_of (C := cx [] [] [(49, formBase)] [(16, 4, p16_4)] none) (cx_ok trivial ⟨form_base, trivial⟩) rfl (g := 16) (fn := Try.f16)
    (args' := [.agg [.row n 5 (nestF 0 2 (nsA f_A) (nsM 0 f_A) (nsV 0 f_A)), .row h 1 (rowF .i64 (ivf f_nd)), .row q 1 (rowF .i64 (ivf f_pr)), .int .i64 st, .int .i64 ro, .int .i64 pk, .int .i64 fr], .row m 1 (nestF 0 1 (nsA f_B) (nsM 0 f_B) (nsV 0 f_B))]) (fn_16) rfl 1000 (by
    simp only [BdL, Bd, and_self, and_true, true_and]
    exact ⟨⟨(fun i j hi hj => nest_bd i_A i j hi hj), (fun i j hi hj => by rw [i_nd i j hi hj]; trivial), (fun i j hi hj => by rw [i_pr i j hi hj]; trivial)⟩, (fun i j hi hj => nest_bd i_B i j hi hj)⟩) ⟨SameD.agg ⟨SameD.nest i_A, SameD.int i_nd, SameD.int i_pr, SameD.rfl' _, SameD.rfl' _, SameD.rfl' _, SameD.rfl' _, trivial⟩, SameD.nest i_B, trivial⟩ ?_
  generalize nsA f_A = A at *
  generalize nsM 0 f_A = M at *
  generalize nsV 0 f_A = V at *
  generalize ivf f_nd = nd at *
  generalize ivf f_pr = pr at *
  generalize nsA f_B = B at *
  generalize nsM 0 f_B = K at *
  generalize nsV 0 f_B = W at *
  simp only [rowF_eq]
  simp only [form_eq, p16_4, nestF_eq, nestR_lit, nsM_lit, nsV_lit, Try.f16, go_sem, ↓reduceIte, Nat.reduceAdd, Nat.reduceSub, Nat.reduceMul, Nat.reduceEqDiff, Nat.reduceLT, Nat.reduceLeDiff, Int.reduceToNat, Int.reduceLE, Int.reduceLT, Int.reduceEq, Int.reduceNeg, reduceCtorEq]
  obtain ⟨hm, hK⟩ := pre
  refine loop_ofH { i : Nat // i ≤ m ∧ ∀ j, j < i → (fun i => formB n M (K i) (W i)) j = true } (fun i => [(5, .int .i64 (i.1 : Int)), (2, .ptr 0 0), (1, .row m 1 (nestF 0 1 B K W))]) (fun h _ => h) (fun i => m - i.1) (fun _ => ⟨rfl, rfl⟩) ⟨0, by omega, by omega⟩ (by (apply sub_of <;> simp only [go_sem, ↓reduceIte, Nat.reduceAdd, Nat.reduceSub, Nat.reduceMul, Nat.reduceEqDiff, Nat.reduceLT, Nat.reduceLeDiff, Int.reduceToNat, Int.reduceLE, Int.reduceLT, Int.reduceEq, Int.reduceNeg, reduceCtorEq] <;> (try simp [catF])); all_goals (repeat' first | assumption | exact nestF_bd _ _ _ _ _ _ _ _ _ | exact nestF_bd1 _ _ _ _ _ _ _ _ _ | exact fun _ _ => nestF_bd1 _ _ _ _ _ _ _ _ _ | exact fun _ _ _ _ => nestF_bd1 _ _ _ _ _ _ _ _ _ | exact fun x hx => catF_one _ hx | refine And.intro ?_ ?_)) ?_
  rintro ⟨i, hi, h3⟩
  simp only [form_eq, p16_4, nestF_eq, nestR_lit, nsM_lit, nsV_lit, Try.f16, go_sem, ↓reduceIte, Nat.reduceAdd, Nat.reduceSub, Nat.reduceMul, Nat.reduceEqDiff, Nat.reduceLT, Nat.reduceLeDiff, Int.reduceToNat, Int.reduceLE, Int.reduceLT, Int.reduceEq, Int.reduceNeg, reduceCtorEq]
  have hw3 : IntKind.i64.wrap ((i : Int) + 1) = ((i + 1 : Nat) : Int) := by rw [wrap_id (by omega) (by omega)]; omega
  refine ⟨fun e1 => ?_, fun e1 => ?_⟩
  all_goals simp only [decide_eq_true_eq, decide_eq_false_iff_not] at e1
  · refine ⟨⟨by kernel_rfl, by kernel_rfl⟩, ⟨by omega, by omega⟩, hK i (by omega), fun e2 => ?_, fun e2 => ⟨⟨i + 1, by omega, below h3 (by simpa using e2)⟩, by simp only []; omega, ?_⟩⟩
    · rw [show formsB n M m K W = false from allU_false (p := fun i => formB n M (K i) (W i)) (i := i) (by omega) (by simpa using e2)]
    · apply sub_of <;> simp only [hw3, go_sem, ↓reduceIte, Nat.reduceAdd, Nat.reduceSub, Nat.reduceMul, Nat.reduceEqDiff, Nat.reduceLT, Nat.reduceLeDiff, Int.reduceToNat, Int.reduceLE, Int.reduceLT, Int.reduceEq, Int.reduceNeg, reduceCtorEq] <;> (try simp)
      all_goals (repeat' first | assumption | exact nestF_bd _ _ _ _ _ _ _ _ _ | exact nestF_bd1 _ _ _ _ _ _ _ _ _ | exact fun _ _ => nestF_bd1 _ _ _ _ _ _ _ _ _ | exact fun _ _ _ _ => nestF_bd1 _ _ _ _ _ _ _ _ _ | exact fun x hx => catF_one _ hx | refine And.intro ?_ ?_)
  · obtain rfl : i = m := by omega
    rw [show formsB n M i K W = true from allU_true h3]
end Go.Eng
end

/- press: no plan is better than the cheapest one. No program in sight. -/
section
namespace Go.Eng
open Go Go.RowKit Go.Proofs
set_option maxRecDepth 100000
set_option maxHeartbeats 4000000
attribute [local irreducible] OwnT DefS
theorem chT_dig {D : PD} (hD : D.Ok) (q : Nat) : chT D.n (fun i _ => (dig D q).get i) = dig D q := by
  rw [← dig_zr hD q]
  rcases (by have := hD.n; omega : D.n = 1 ∨ D.n = 2 ∨ D.n = 3) with h | h | h <;> simp [chT, zr, T3.get, h]
/-- The cheapest plan, played. -/
theorem own_plM {D : PD} (hD : D.Ok) {x : Int × T3} (hb : bestM D D.h (begP D) = some x) : ∀ k, k ≤ D.h → (plM D (cAt D) k).e = 0 ∧ (plM D (cAt D) k).hr = k ∧ (plM D (cAt D) k).s = sAt D k ∧ ∃ y, bestM D (D.h - k) (sAt D k) = some y ∧ (plM D (cAt D) k).en + (plM D (cAt D) k).st + y.1 = x.1
  | 0, _ => ⟨rfl, rfl, rfl, x, hb, by simp [plM]⟩
  | k + 1, hk => by
    obtain ⟨h1, h2, h3, y, h4, h5⟩ := own_plM hD hb k (by omega)
    have e1 : D.h - k = (D.h - (k + 1)) + 1 := by omega
    have hc : cAt D k = y.2 := by rw [cAt, h4, wc_some]
    rw [e1] at h4
    obtain ⟨g1, g2, z, g3, g4⟩ := bestM_some hD h4
    rw [show D.h - (D.h - (k + 1) + 1) = k by omega] at g2 g3 g4
    simp only [plM, plStep, if_pos h1, h2, h3, hc, if_pos g2]
    refine ⟨trivial, trivial, by rw [sAt_succ, hc], z, ?_, ?_⟩
    · rw [sAt_succ, hc]; exact g3
    · omega
theorem cAt_dig {D : PD} (hD : D.Ok) {x : Int × T3} (hb : bestM D D.h (begP D) = some x) {i : Nat} (hi : i < D.h) : ∃ q, q < tot D ∧ cAt D i = dig D q := by
  obtain ⟨h1, h2, h3, y, h4, h5⟩ := own_plM hD hb i (by omega)
  have e1 : D.h - i = (D.h - (i + 1)) + 1 := by omega
  have hc : cAt D i = y.2 := by rw [cAt, h4, wc_some]
  rw [e1] at h4
  obtain ⟨q, g1, g2, _⟩ := pickM_some (D := D) _ h4
  exact ⟨q, g1, by rw [hc, g2]⟩
theorem chT_cAt {D : PD} (hD : D.Ok) {x : Int × T3} (hb : bestM D D.h (begP D) = some x) {i : Nat} (hi : i < D.h) : chT D.n (plV (cAt D) i) = cAt D i := by
  obtain ⟨q, h1, h2⟩ := cAt_dig hD hb hi
  have := chT_dig hD q
  rw [h2.symm] at this
  exact this
theorem plM_congr {D : PD} {C C' : Nat → T3} : ∀ k, (∀ i, i < k → C i = C' i) → plM D C k = plM D C' k
  | 0, _ => rfl
  | k + 1, h => by simp only [plM, plM_congr k (fun i hi => h i (by omega)), h k (by omega)]
end Go.Eng
end

/- press: no plan costs less than the cheapest one. -/
section
namespace Go.Eng
open Go Go.RowKit Go.Proofs
set_option maxRecDepth 100000
set_option maxHeartbeats 4000000
attribute [local irreducible] OwnT DefS
theorem forms_own {D : PD} (hD : D.Ok) {x : Int × T3} (hb : bestM D D.h (begP D) = some x) : formsB D.n D.M D.h (fun _ => D.n) (plV (cAt D)) = true := by
  refine allU_iff.2 fun i hi => ?_
  obtain ⟨q, h1, h2⟩ := cAt_dig hD hb hi
  have := dig_ok hD h1
  simp only [formB, Bool.and_eq_true, decide_eq_true_eq, allU_iff, in3_iff, plV, h2]
  exact ⟨trivial, fun a ha => this a ha⟩
end Go.Eng
end

/- press: what is left behind some hours. -/
section
namespace Go.Eng
open Go Go.RowKit Go.Proofs
set_option maxRecDepth 100000
set_option maxHeartbeats 4000000
attribute [local irreducible] OwnT DefS
def bhE (D : PD) (b : Bool) (m : Nat) (K : Nat → Nat) (W : Nat → Nat → Nat → Int) : Int :=
  if b then (if m ≤ D.h ∧ rdB D.n D.M m K W = true then (plM D (fun i => chT D.n (W i)) m).e else 2) else 1
def bhP (D : PD) (m : Nat) (s : PS) : PD :=
  { D with A := fun i j => if j = 4 then s.on.get i else D.A i j, h := D.h - m, nd := fun i j => D.nd (m + i) j, pr := fun i j => D.pr (m + i) j, st := s.sto }
def pd0 : PD := ⟨0, fun _ _ => 0, fun _ => 0, fun _ _ _ => 0, 0, fun _ _ => 0, fun _ _ => 0, 0, 0, 0, 0⟩
def bhX (D : PD) (b : Bool) (m : Nat) (K : Nat → Nat) (W : Nat → Nat → Nat → Int) : PD :=
  if bhE D b m K W = 0 then bhP D m (plM D (fun i => chT D.n (W i)) m).s else pd0
theorem catF_nil (F G : Nat → Nat → SV) : catF 0 F G = G := by
  funext i j; simp only [catF, Nat.not_lt_zero, if_false, Nat.sub_zero]
/-- The compressors, of which the first k have run as is told. -/
def bhA (A : Nat → Nat → Int) (on : Nat → Int) (k : Nat) : Nat → Nat → Int := fun i j => if j = 4 ∧ i < k then on i else A i j
theorem bhA_0 (A : Nat → Nat → Int) (on : Nat → Int) : bhA A on 0 = A := by
  funext i j; simp only [bhA, Nat.not_lt_zero, and_false, if_false]
theorem bhA_next {A : Nat → Nat → Int} {M : Nat → Nat} {V : Nat → Nat → Nat → Int} {on : Nat → Int} {k n : Nat} (i j : Nat) (_ : i < n) (hj : j < 5) : (if i = k ∧ 4 ≤ j ∧ j < 5 then nth [.int .i64 (on k)] (j - 4) else nestF 0 2 (bhA A on k) M V i j) = nestF 0 2 (bhA A on (k + 1)) M V i j := by
  by_cases h4 : j = 4
  · subst h4
    by_cases hi : i = k
    · subst hi
      rw [if_pos ⟨rfl, by omega, by omega⟩]
      simp only [nth, nestF, bhA, Nat.lt_succ_self, and_self, if_true]
      rfl
    · rw [if_neg (fun h => hi h.1)]
      have : bhA A on k i 4 = bhA A on (k + 1) i 4 := by
        simp only [bhA, true_and]
        by_cases hk : i < k
        · rw [if_pos hk, if_pos (by omega)]
        · rw [if_neg hk, if_neg (by omega)]
      simp only [nestF, this]
  · rw [if_neg (fun h => h4 (by omega))]
    simp only [nestF, bhA, h4, false_and, if_false]
end Go.Eng
end

/- press: the program's rest behind some hours. -/
section
namespace Go.Eng
open Go Go.RowKit Go.Proofs
set_option maxRecDepth 100000
set_option maxHeartbeats 4000000
attribute [local irreducible] OwnT DefS
def cloneIBase : BaseF := fun args => match args with
  | [.row n sz_a f_a] => some ((sz_a = 1 ∧ IntR n 1 f_a) ∧ (n ≤ 1000000), .row n 1 (fun i j => .int .i64 ((ivf f_a) i j)))
  | _ => none
theorem cloneI_eq (n : Nat) (sz_a : Nat) (f_a : Nat → Nat → SV) : cloneIBase [.row n sz_a f_a] = some ((sz_a = 1 ∧ IntR n 1 f_a) ∧ (n ≤ 1000000), .row n 1 (fun i j => .int .i64 ((ivf f_a) i j))) := rfl
theorem cloneI_base : NB Try.prog 45 cloneIBase := by
  intro args p v hq hp
  unfold cloneIBase at hq
  split at hq
  rotate_left
  · cases hq
  rename_i n sz_a f_a
  cases hq
  obtain ⟨⟨rfl, i_a⟩, pre⟩ := hp
  refine nb_of (C := cx [] [] [] [] none) (cx_ok trivial trivial) rfl (g := 45) (fn := Try.f45)
    (args' := [.row n 1 (rowF .i64 (ivf f_a))]) (fn_45) rfl 1000 (by
    simp only [BdL, Bd, and_self, and_true, true_and]
    exact (fun i j hi hj => by rw [i_a i j hi hj]; trivial)) ⟨SameD.int i_a, trivial⟩ (by simp only [Bd, BdL, and_self, implies_true]) ?_
  generalize ivf f_a = a at *
  simp only [rowF_eq]
  simp only [catF_nil, Try.f45, go_sem, ↓reduceIte, Nat.reduceAdd, Nat.reduceSub, Nat.reduceMul, Nat.reduceEqDiff, Nat.reduceLT, Nat.reduceLeDiff, Int.reduceToNat, Int.reduceLE, Int.reduceLT, Int.reduceEq, Int.reduceNeg, reduceCtorEq]
  refine ⟨fun e => ?_, ⟨by omega, by omega⟩, fun _ _ _ _ => trivial, SameD.rfl' _⟩
  subst e
  exact ⟨fun _ _ _ _ => trivial, SameD.row0⟩
def cloneLBase : BaseF := fun args => match args with
  | [.row n sz_a f_a] => some ((sz_a = 2 ∧ IntR n 2 f_a) ∧ (n ≤ 1000000), .row n 2 (fun i j => .int .i64 ((ivf f_a) i j)))
  | _ => none
theorem cloneL_eq (n : Nat) (sz_a : Nat) (f_a : Nat → Nat → SV) : cloneLBase [.row n sz_a f_a] = some ((sz_a = 2 ∧ IntR n 2 f_a) ∧ (n ≤ 1000000), .row n 2 (fun i j => .int .i64 ((ivf f_a) i j))) := rfl
theorem cloneL_base : NB Try.prog 53 cloneLBase := by
  intro args p v hq hp
  unfold cloneLBase at hq
  split at hq
  rotate_left
  · cases hq
  rename_i n sz_a f_a
  cases hq
  obtain ⟨⟨rfl, i_a⟩, pre⟩ := hp
  refine nb_of (C := cx [] [] [] [] none) (cx_ok trivial trivial) rfl (g := 53) (fn := Try.f53)
    (args' := [.row n 2 (rowF .i64 (ivf f_a))]) (fn_53) rfl 1000 (by
    simp only [BdL, Bd, and_self, and_true, true_and]
    exact (fun i j hi hj => by rw [i_a i j hi hj]; trivial)) ⟨SameD.int i_a, trivial⟩ (by simp only [Bd, BdL, and_self, implies_true]) ?_
  generalize ivf f_a = a at *
  simp only [rowF_eq]
  simp only [catF_nil, Try.f53, go_sem, ↓reduceIte, Nat.reduceAdd, Nat.reduceSub, Nat.reduceMul, Nat.reduceEqDiff, Nat.reduceLT, Nat.reduceLeDiff, Int.reduceToNat, Int.reduceLE, Int.reduceLT, Int.reduceEq, Int.reduceNeg, reduceCtorEq]
  refine ⟨fun e => ?_, ⟨by omega, by omega⟩, fun _ _ _ _ => trivial, SameD.rfl' _⟩
  subst e
  exact ⟨fun _ _ _ _ => trivial, SameD.row0⟩
theorem chF_bd (n : Nat) (W : Nat → Nat → Nat → Int) (L K i j : Nat) : Bd L K (chF n W i j) := by simp only [chF, Bd]
def behindBase : BaseF := fun args => match args with
  | [.agg [.row n sz_A f_A, .row h sz_nd f_nd, .row q sz_pr f_pr, .int .i64 st, .int .i64 ro, .int .i64 pk, .int .i64 fr], .row m sz_B f_B] => some ((sz_A = 5 ∧ NestR n 5 0 2 f_A) ∧ (sz_nd = 1 ∧ IntR h 1 f_nd) ∧ (sz_pr = 1 ∧ IntR q 1 f_pr) ∧ (sz_B = 1 ∧ NestR m 1 0 1 f_B) ∧ (((n ≤ 1000000 ∧ ∀ i, i < n → (nsM 0 f_A) i ≤ 1000000) ∧ h ≤ 1000000 ∧ q ≤ 1000000) ∧ m ≤ 1000000 ∧ ∀ i, i < m → (nsM 0 f_B) i ≤ 1000000), .tup [.agg (prC (bhX ⟨n, (nsA f_A), (nsM 0 f_A), (nsV 0 f_A), h, (ivf f_nd), (ivf f_pr), st, ro, pk, fr⟩ (psB n (nsA f_A) (nsM 0 f_A) (nsV 0 f_A) h (ivf f_nd) q (ivf f_pr) st ro pk fr) m (nsM 0 f_B) (nsV 0 f_B))), .int .i64 (bhE ⟨n, (nsA f_A), (nsM 0 f_A), (nsV 0 f_A), h, (ivf f_nd), (ivf f_pr), st, ro, pk, fr⟩ (psB n (nsA f_A) (nsM 0 f_A) (nsV 0 f_A) h (ivf f_nd) q (ivf f_pr) st ro pk fr) m (nsM 0 f_B) (nsV 0 f_B))])
  | _ => none
theorem behind_eq (n : Nat) (sz_A : Nat) (f_A : Nat → Nat → SV) (h : Nat) (sz_nd : Nat) (f_nd : Nat → Nat → SV) (q : Nat) (sz_pr : Nat) (f_pr : Nat → Nat → SV) (st : Int) (ro : Int) (pk : Int) (fr : Int) (m : Nat) (sz_B : Nat) (f_B : Nat → Nat → SV) : behindBase [.agg [.row n sz_A f_A, .row h sz_nd f_nd, .row q sz_pr f_pr, .int .i64 st, .int .i64 ro, .int .i64 pk, .int .i64 fr], .row m sz_B f_B] = some ((sz_A = 5 ∧ NestR n 5 0 2 f_A) ∧ (sz_nd = 1 ∧ IntR h 1 f_nd) ∧ (sz_pr = 1 ∧ IntR q 1 f_pr) ∧ (sz_B = 1 ∧ NestR m 1 0 1 f_B) ∧ (((n ≤ 1000000 ∧ ∀ i, i < n → (nsM 0 f_A) i ≤ 1000000) ∧ h ≤ 1000000 ∧ q ≤ 1000000) ∧ m ≤ 1000000 ∧ ∀ i, i < m → (nsM 0 f_B) i ≤ 1000000), .tup [.agg (prC (bhX ⟨n, (nsA f_A), (nsM 0 f_A), (nsV 0 f_A), h, (ivf f_nd), (ivf f_pr), st, ro, pk, fr⟩ (psB n (nsA f_A) (nsM 0 f_A) (nsV 0 f_A) h (ivf f_nd) q (ivf f_pr) st ro pk fr) m (nsM 0 f_B) (nsV 0 f_B))), .int .i64 (bhE ⟨n, (nsA f_A), (nsM 0 f_A), (nsV 0 f_A), h, (ivf f_nd), (ivf f_pr), st, ro, pk, fr⟩ (psB n (nsA f_A) (nsM 0 f_A) (nsV 0 f_A) h (ivf f_nd) q (ivf f_pr) st ro pk fr) m (nsM 0 f_B) (nsV 0 f_B))]) := rfl
theorem behind_base : NB Try.prog 17 behindBase := by
  intro args p v hq hp
  unfold behindBase at hq
  split at hq
  rotate_left
  · cases hq
  rename_i n sz_A f_A h sz_nd f_nd q sz_pr f_pr st ro pk fr m sz_B f_B
  cases hq
  obtain ⟨⟨rfl, i_A⟩, ⟨rfl, i_nd⟩, ⟨rfl, i_pr⟩, ⟨rfl, i_B⟩, pre⟩ := hp
  refine nb_of (C := cxn [] [(45, cloneIBase), (53, cloneLBase)] [(50, 118, readBase)] [(40, arePsBase), (51, playBase)] [(17, 13, p17_13), (17, 16, p17_16)] none) (cxn_ok ⟨cloneI_base, cloneL_base, trivial⟩ ⟨read_base, trivial⟩ ⟨arePs_base, play_base, trivial⟩) rfl (g := 17) (fn := Try.f17)
    (args' := [.agg [.row n 5 (nestF 0 2 (nsA f_A) (nsM 0 f_A) (nsV 0 f_A)), .row h 1 (rowF .i64 (ivf f_nd)), .row q 1 (rowF .i64 (ivf f_pr)), .int .i64 st, .int .i64 ro, .int .i64 pk, .int .i64 fr], .row m 1 (nestF 0 1 (nsA f_B) (nsM 0 f_B) (nsV 0 f_B))]) (fn_17) rfl 1000 (by
    simp only [BdL, Bd, and_self, and_true, true_and]
    exact ⟨⟨(fun i j hi hj => nest_bd i_A i j hi hj), (fun i j hi hj => by rw [i_nd i j hi hj]; trivial), (fun i j hi hj => by rw [i_pr i j hi hj]; trivial)⟩, (fun i j hi hj => nest_bd i_B i j hi hj)⟩) ⟨SameD.agg ⟨SameD.nest i_A, SameD.int i_nd, SameD.int i_pr, SameD.rfl' _, SameD.rfl' _, SameD.rfl' _, SameD.rfl' _, trivial⟩, SameD.nest i_B, trivial⟩ (by simp only [Bd, BdL, and_true]; exact prC_bd _ _ _) ?_
  generalize nsA f_A = A at *
  generalize nsM 0 f_A = M at *
  generalize nsV 0 f_A = V at *
  generalize ivf f_nd = nd at *
  generalize ivf f_pr = pr at *
  generalize nsA f_B = B at *
  generalize nsM 0 f_B = K at *
  generalize nsV 0 f_B = W at *
  simp only [rowF_eq]
  simp only [arePs_eq, play_eq, cloneI_eq, cloneL_eq, read_eq, p17_13, p17_16, Try.f52, catF_nil, nestF_eq, nestR_lit, nsM_lit, nsV_lit, psS, onI_ns, psB_ns, chF, chT_eta, plM_ns, plO_ns, Ok_ns, Try.f17, go_sem, ↓reduceIte, Nat.reduceAdd, Nat.reduceSub, Nat.reduceMul, Nat.reduceEqDiff, Nat.reduceLT, Nat.reduceLeDiff, Int.reduceToNat, Int.reduceLE, Int.reduceLT, Int.reduceEq, Int.reduceNeg, reduceCtorEq]
  obtain ⟨pre, pm, pK⟩ := pre
  generalize hb : psB n A M V h nd q pr st ro pk fr = b
  have bad : ∀ {D : PD} {m : Nat} {K : Nat → Nat} {W : Nat → Nat → Nat → Int} {e : Int}, e ≠ 0 → bhE D b m K W = e → SameD (.tup [.agg [.row 0 5 fun _ _ => .any, .row 0 1 fun _ _ => .any, .row 0 1 fun _ _ => .any, .int .i64 0, .int .i64 0, .int .i64 0, .int .i64 0], .int .i64 e]) (.tup [.agg (prC (bhX D b m K W)), .int .i64 (bhE D b m K W)]) := fun h0 h => by
    rw [bhX, h, if_neg h0]
    apply SameD.tup
    exact ⟨SameD.agg ⟨SameD.row0, SameD.row0, SameD.row0, SameD.rfl' _, SameD.rfl' _, SameD.rfl' _, SameD.rfl' _, trivial⟩, SameD.rfl' _, trivial⟩
  refine ⟨pre, fun c1 => ?_, fun c1 => ?_⟩
  · obtain rfl : b = false := by simpa using c1
    exact ⟨⟨fun _ _ _ _ => trivial, fun _ _ _ _ => trivial⟩, bad (by decide) rfl⟩
  obtain rfl : b = true := by simpa using c1
  obtain ⟨rfl, hOk⟩ := psB_iff.1 hb
  generalize hD : (⟨n, A, M, V, q, nd, pr, st, ro, pk, fr⟩ : PD) = D at hOk ⊢
  have d0 : n = D.n := by rw [← hD]
  have d1 : A = D.A := by rw [← hD]
  have d2 : M = D.M := by rw [← hD]
  have d3 : V = D.V := by rw [← hD]
  have d4 : q = D.h := by rw [← hD]
  have d5 : nd = D.nd := by rw [← hD]
  have d6 : pr = D.pr := by rw [← hD]
  have d7 : st = D.st := by rw [← hD]
  have d8 : ro = D.ro := by rw [← hD]
  have d9 : pk = D.pk := by rw [← hD]
  have d10 : fr = D.fr := by rw [← hD]
  clear hD
  subst d0 d1 d2 d3 d4 d5 d6 d7 d8 d9 d10
  have hn := hOk.n
  have hh := hOk.h
  refine ⟨⟨by omega, by omega, pm, pK⟩, fun c2 => ?_, fun c2 => ⟨fun c3 => ?_, fun c3 => ?_⟩⟩
  · exact ⟨⟨fun _ _ _ _ => trivial, fun _ _ _ _ => trivial⟩, bad (by decide) (by simp only [Bool.not_eq_true'] at c2; simp only [bhE, if_true, c2]; simp)⟩
  · exact ⟨⟨fun _ _ _ _ => trivial, fun _ _ _ _ => trivial⟩, bad (by decide) (by simp only [decide_eq_true_eq] at c3; simp only [bhE, if_true]; rw [if_neg (by omega)])⟩
  simp only [Bool.not_eq_false', decide_eq_false_iff_not] at c2 c3
  have hmh : m ≤ D.h := by omega
  have hch : ∀ i, i < m → chOk D (chT D.n (W i)) := fun i hi => chT_ok hOk c2 hi
  have hE : bhE D true m K W = (plM D (fun i => chT D.n (W i)) m).e := by simp only [bhE, if_true]; rw [if_pos ⟨hmh, c2⟩]
  have hpl := plM_ok hOk (C := fun i => chT D.n (W i)) m hmh hch
  have hbad := plM_bad (D := D) (C := fun i => chT D.n (W i)) m
  simp only [c2, if_true]
  refine ⟨⟨trivial, hOk, hmh, fun i hi => hch i hi⟩, ?_⟩
  have hX : (plM D (fun i => chT D.n (W i)) m).e = 0 → bhX D true m K W = bhP D m (plM D (fun i => chT D.n (W i)) m).s := fun h => by rw [bhX, hE, if_pos h]
  generalize plM D (fun i => chT D.n (W i)) m = r at hE hX hpl hbad ⊢
  by_cases he : r.e = 0
  rotate_left
  · obtain ⟨b1, b2, b3⟩ := hbad he
    simp only [plO, if_neg he, arePs_eq, play_eq, cloneI_eq, cloneL_eq, read_eq, p17_13, p17_16, Try.f52, catF_nil, nestF_eq, nestR_lit, nsM_lit, nsV_lit, psS, onI_ns, psB_ns, chF, chT_eta, plM_ns, plO_ns, Ok_ns, Try.f17, go_sem, ↓reduceIte, Nat.reduceAdd, Nat.reduceSub, Nat.reduceMul, Nat.reduceEqDiff, Nat.reduceLT, Nat.reduceLeDiff, Int.reduceToNat, Int.reduceLE, Int.reduceLT, Int.reduceEq, Int.reduceNeg, reduceCtorEq]
    have hd : decide (r.e = 0) = false := decide_eq_false he
    simp only [hd, go_sem, ↓reduceIte, Nat.reduceAdd, Nat.reduceSub, Nat.reduceMul, Nat.reduceEqDiff, Nat.reduceLT, Nat.reduceLeDiff, Int.reduceToNat, Int.reduceLE, Int.reduceLT, Int.reduceEq, Int.reduceNeg, reduceCtorEq]
    exact ⟨⟨fun _ _ _ _ => trivial, fun _ _ _ _ => trivial⟩, bad he hE⟩
  rw [hX he, hE, he]
  obtain ⟨p1, _, _⟩ := hpl he
  simp only [plO, he, if_true, arePs_eq, play_eq, cloneI_eq, cloneL_eq, read_eq, p17_13, p17_16, Try.f52, catF_nil, nestF_eq, nestR_lit, nsM_lit, nsV_lit, psS, onI_ns, psB_ns, chF, chT_eta, plM_ns, plO_ns, Ok_ns, Try.f17, go_sem, ↓reduceIte, Nat.reduceAdd, Nat.reduceSub, Nat.reduceMul, Nat.reduceEqDiff, Nat.reduceLT, Nat.reduceLeDiff, Int.reduceToNat, Int.reduceLE, Int.reduceLT, Int.reduceEq, Int.reduceNeg, reduceCtorEq]
  refine ⟨fun h0 => absurd h0 (by omega), ⟨by omega, by omega⟩, ?_⟩
  refine loop_ofH { k : Nat // k ≤ D.n } (fun k => [(51, .int .i64 (k.1 : Int)), (50, .int .i64 (D.n : Int)), (8, .ptr 2 0), (4, .ptr 1 0), (2, .ptr 0 0), (1, .row m 1 (nestF 0 1 B K W))])
    (fun h k => ⟨h.blks, setV h.vecs 5 (.live 1 54 5 D.n (nestF 0 2 (bhA D.A r.s.on.get k.1) D.M D.V))⟩) (fun k => D.n - k.1) (fun _ => ⟨rfl, by simp only [lenV_set]⟩) ⟨0, by omega⟩ (by simp only [bhA_0]; (apply sub_of <;> simp only [go_sem, ↓reduceIte, Nat.reduceAdd, Nat.reduceSub, Nat.reduceMul, Nat.reduceEqDiff, Nat.reduceLT, Nat.reduceLeDiff, Int.reduceToNat, Int.reduceLE, Int.reduceLT, Int.reduceEq, Int.reduceNeg, reduceCtorEq] <;> (try simp [catF])); all_goals (repeat' first | assumption | exact nestF_bd _ _ _ _ _ _ _ _ _ | exact nestF_bd1 _ _ _ _ _ _ _ _ _ | exact fun _ _ => nestF_bd1 _ _ _ _ _ _ _ _ _ | exact fun _ _ _ _ => nestF_bd1 _ _ _ _ _ _ _ _ _ | exact fun x hx => catF_one _ hx | refine And.intro ?_ ?_); all_goals exact fun i j _ _ => chF_bd _ _ _ _ i j) ?_
  rintro ⟨k, hk⟩
  rcases Nat.lt_or_ge k D.n with hkn | hkn
  · have n5 := fun y z => T3.nth5 r.s.on y z (show k < 3 by omega)
    simp only [n5, arePs_eq, play_eq, cloneI_eq, cloneL_eq, read_eq, p17_13, p17_16, Try.f52, catF_nil, nestF_eq, nestR_lit, nsM_lit, nsV_lit, psS, onI_ns, psB_ns, chF, chT_eta, plM_ns, plO_ns, Ok_ns, Try.f17, go_sem, ↓reduceIte, Nat.reduceAdd, Nat.reduceSub, Nat.reduceMul, Nat.reduceEqDiff, Nat.reduceLT, Nat.reduceLeDiff, Int.reduceToNat, Int.reduceLE, Int.reduceLT, Int.reduceEq, Int.reduceNeg, reduceCtorEq]
    have hw3 : IntKind.i64.wrap ((k : Int) + 1) = ((k + 1 : Nat) : Int) := by rw [wrap_id (by omega) (by omega)]; omega
    refine ⟨fun e1 => ?_, fun e1 => absurd (of_decide_eq_false e1) (by omega)⟩
    have hM := (hOk.M k hkn).2
    refine ⟨⟨by kernel_rfl, by kernel_rfl⟩, ⟨by omega, by omega⟩, by omega, ⟨by omega, by omega⟩, by omega, by omega, ⟨by omega, by omega⟩, by omega, ⟨by omega, by omega⟩, by omega, ⟨k + 1, by omega⟩, by simp only []; omega, ?_⟩
    apply sub_of <;> simp only [hw3, go_sem, ↓reduceIte, Nat.reduceAdd, Nat.reduceSub, Nat.reduceMul, Nat.reduceEqDiff, Nat.reduceLT, Nat.reduceLeDiff, Int.reduceToNat, Int.reduceLE, Int.reduceLT, Int.reduceEq, Int.reduceNeg, reduceCtorEq] <;> (try simp)
    · intro i j hi hj
      by_cases h0 : i = k ∧ j = 0
      · obtain ⟨rfl, rfl⟩ := h0
        rw [if_pos ⟨rfl, rfl⟩]
        simp only [nestF, nth, if_true]
      · rw [if_neg h0]
        exact bhA_next i j hi hj
    all_goals (repeat' first | assumption | exact nestF_bd _ _ _ _ _ _ _ _ _ | exact nestF_bd1 _ _ _ _ _ _ _ _ _ | exact fun _ _ => nestF_bd1 _ _ _ _ _ _ _ _ _ | exact fun _ _ _ _ => nestF_bd1 _ _ _ _ _ _ _ _ _ | exact fun x hx => catF_one _ hx | refine And.intro ?_ ?_)
    all_goals first | exact fun i j _ _ => chF_bd _ _ _ _ i j | exact ⟨fun i j _ _ => chF_bd _ _ _ _ i j, fun i j _ _ => nestF_bd1 _ _ _ _ _ _ _ i j⟩
  · obtain rfl : k = D.n := by omega
    have hd : decide ((D.n : Int) < (D.n : Int)) = false := decide_eq_false (by omega)
    simp only [hd, arePs_eq, play_eq, cloneI_eq, cloneL_eq, read_eq, p17_13, p17_16, Try.f52, catF_nil, nestF_eq, nestR_lit, nsM_lit, nsV_lit, psS, onI_ns, psB_ns, chF, chT_eta, plM_ns, plO_ns, Ok_ns, Try.f17, go_sem, ↓reduceIte, Nat.reduceAdd, Nat.reduceSub, Nat.reduceMul, Nat.reduceEqDiff, Nat.reduceLT, Nat.reduceLeDiff, Int.reduceToNat, Int.reduceLE, Int.reduceLT, Int.reduceEq, Int.reduceNeg, reduceCtorEq]
    refine ⟨⟨by kernel_rfl, by kernel_rfl⟩, ⟨by omega, by omega⟩, by omega, ⟨by omega, by omega⟩, by omega, ⟨fun i j _ _ => ?_, fun _ _ _ _ => trivial⟩, ?_⟩
    · exact nestF_bd1 0 0 0 2 (bhA D.A r.s.on.get D.n) D.M D.V i j
    · apply SameD.tup
      refine ⟨SameD.agg ⟨SameD.rowD fun i j hi hj => ?_, SameD.rfl' _, SameD.rfl' _, SameD.rfl' _, SameD.rfl' _, SameD.rfl' _, SameD.rfl' _, trivial⟩, SameD.rfl' _, trivial⟩
      have e : (if j = 0 then SV.row (D.M i) 2 fun a b => .int .i64 (D.V i a b) else .int .i64 (bhA D.A r.s.on.get D.n i j)) = nestF 0 2 (bhP D m r.s).A D.M D.V i j := by
        have : bhA D.A r.s.on.get D.n i j = (bhP D m r.s).A i j := by
          simp only [bhA, bhP]
          by_cases h4 : j = 4
          · rw [if_pos ⟨h4, hi⟩, if_pos h4]
          · rw [if_neg (fun h => h4 h.1), if_neg h4]
        simp only [nestF, this]
      rw [e]
      exact SameD.rfl' _
end Go.Eng
end

/- press: the rest of the cheapest plan. No program in sight. -/
section
namespace Go.Eng
open Go Go.RowKit Go.Proofs
set_option maxRecDepth 100000
set_option maxHeartbeats 4000000
attribute [local irreducible] OwnT DefS
theorem stepsP_zero {D : PD} {on c : T3} {s : Int} : ∀ {i : Nat}, i ≤ 3 → ∀ {a : PA}, stepsP D on c s i = some a → ∀ x, i ≤ x → x < 3 → a.on.get x = 0
  | 0, _, a, h, x, _, hx => by
    cases h
    rcases (by omega : x = 0 ∨ x = 1 ∨ x = 2) with rfl | rfl | rfl <;> rfl
  | i + 1, hi, a, h, x, h1, h2 => by
    simp only [stepsP] at h
    split at h
    · rename_i b hb
      have ih := stepsP_zero (by omega) hb x (by omega) h2
      unfold stepP at h
      split at h
      · split at h
        · cases h; exact ih
        · cases h
      · split at h
        · cases h
          simp only []
          rw [T3.get_set _ _ _ _ (by omega) h2, if_neg (by omega)]
          exact ih
        · cases h
    · cases h
end Go.Eng
end

/- press: cold is conserved, and how long each runs. No program in sight. -/
section
namespace Go.Eng
open Go Go.RowKit Go.Proofs
set_option maxRecDepth 100000
set_option maxHeartbeats 4000000
attribute [local irreducible] OwnT DefS
/-- What the first i compressors make. -/
def madeP (D : PD) (c : T3) : Nat → Int
  | 0 => 0
  | i + 1 => madeP D c i + (if c.get i = 0 then 0 else D.V i (c.get i - 1).toNat 1)
theorem made_bnd {D : PD} (hD : D.Ok) {c : T3} (hc : chOk D c) : ∀ i, i ≤ D.n → 0 ≤ madeP D c i ∧ madeP D c i ≤ 100 * i
  | 0, _ => by simp [madeP]
  | i + 1, hi => by
    have ih := made_bnd hD hc i (by omega)
    have h1 := hc i (by omega)
    simp only [madeP]
    split
    · omega
    · have := hD.cold i (c.get i - 1).toNat (by omega) (by omega)
      omega
theorem steps_made {D : PD} {on c : T3} {s : Int} : ∀ {i : Nat} {a : PA}, stepsP D on c s i = some a → a.sto = s + madeP D c i
  | 0, a, h => by cases h; simp [madeP]
  | i + 1, a, h => by
    simp only [stepsP] at h
    split at h
    · rename_i b hb
      have ih := steps_made hb
      unfold stepP at h
      split at h
      · rename_i hc
        split at h
        · cases h
          simp only [madeP, if_pos hc]
          omega
        · cases h
      · rename_i hc
        split at h
        · cases h
          simp only [madeP, if_neg hc]
          omega
        · cases h
    · cases h
theorem steps_on {D : PD} {on c : T3} {s : Int} : ∀ {i : Nat}, i ≤ 3 → ∀ {a : PA}, stepsP D on c s i = some a → ∀ j, j < i → a.on.get j = (if c.get j = 0 then 0 else on.get j + 1) ∧ (c.get j = 0 → on.get j = 0 ∨ D.A j 2 ≤ on.get j)
  | 0, _, _, _, j, hj => absurd hj (by omega)
  | i + 1, hi, a, h, j, hj => by
    simp only [stepsP] at h
    split at h
    · rename_i b hb
      have ih := steps_on (by omega) hb
      have hz := stepsP_zero (by omega) hb
      unfold stepP at h
      split at h
      · rename_i hc
        split at h
        · rename_i hl
          cases h
          rcases Nat.lt_or_ge j i with h1 | h1
          · exact ih j h1
          · obtain rfl : j = i := by omega
            rw [if_pos hc]
            exact ⟨hz j (Nat.le_refl _) (by omega), fun _ => hl⟩
        · cases h
      · rename_i hc
        split at h
        · cases h
          simp only []
          rw [T3.get_set _ _ _ _ (by omega) (by omega)]
          by_cases hji : j = i
          · subst hji
            rw [if_pos rfl, if_neg hc]
            exact ⟨rfl, fun h => absurd h hc⟩
          · rw [if_neg hji]; exact ih j (by omega)
        · cases h
    · cases h
theorem hour_made {D : PD} (hn : D.n ≤ 3) {s : PS} {hr : Nat} {c : T3} (he : (hourP D s hr c).e = 0) :
    (hourP D s hr c).s.sto = s.sto - D.nd hr 0 + madeP D c D.n ∧ (0 ≤ (hourP D s hr c).s.sto ∧ (hourP D s hr c).s.sto ≤ D.ro) ∧
    ∀ j, j < D.n → (hourP D s hr c).s.on.get j = (if c.get j = 0 then 0 else s.on.get j + 1) ∧ (c.get j = 0 → s.on.get j = 0 ∨ D.A j 2 ≤ s.on.get j) := by
  unfold hourP at he ⊢
  split at he
  · simp [badH] at he
  · rename_i a ha
    split at he
    · simp [badH] at he
    · split at he
      · simp [badH] at he
      · rename_i e1 e2
        simp only [if_neg e1, if_neg e2]
        exact ⟨steps_made ha, ⟨by omega, by omega⟩, fun j hj => steps_on hn ha j hj⟩
theorem plM_one {D : PD} {C : Nat → T3} {k : Nat} (h : (plM D C (k + 1)).e = 0) : (plM D C k).e = 0 ∧ (hourP D (plM D C k).s k (C k)).e = 0 ∧ (plM D C (k + 1)).s = (hourP D (plM D C k).s k (C k)).s := by
  simp only [plM, plStep] at h ⊢
  split at h
  · rename_i h0
    have hr := plM_hr k h0
    rw [hr] at h
    split at h
    · rename_i h1
      rw [if_pos h0, hr, if_pos h1]
      exact ⟨h0, h1, rfl⟩
    · rename_i h1; exact absurd h h1
  · rename_i h0; exact absurd h h0
theorem plM_pre {D : PD} {C : Nat → T3} : ∀ (m k : Nat), k ≤ m → (plM D C m).e = 0 → (plM D C k).e = 0
  | 0, k, hk, h => by obtain rfl : k = 0 := by omega
                      exact h
  | m + 1, k, hk, h => by
    rcases Nat.lt_or_ge m k with h1 | h1
    · obtain rfl : k = m + 1 := by omega
      exact h
    · exact plM_pre m k h1 (plM_one h).1
theorem plM_sto {D : PD} (hn : D.n ≤ 3) {C : Nat → T3} {k : Nat} (h : (plM D C (k + 1)).e = 0) :
    (plM D C (k + 1)).s.sto = (plM D C k).s.sto - D.nd k 0 + madeP D (C k) D.n ∧ 0 ≤ (plM D C (k + 1)).s.sto ∧ (plM D C (k + 1)).s.sto ≤ D.ro := by
  obtain ⟨h0, h1, h2⟩ := plM_one h
  rw [h2]
  exact ⟨(hour_made hn h1).1, (hour_made hn h1).2.1⟩
end Go.Eng
end

/- Ways through the regions whose order is drawn: brine, and TopCold. -/
section
namespace Go.Eng
def p4_37 : Plan := .quiet 0 (.quiet 1 (.quiet 2 (.quiet 3 (.quiet 4 (.quiet 5 (.quiet 6 (.quiet 7 (.quiet 8 (.loud 9 [0, 4, 5] (.loud 10 [] (.quiet 11 (.done))))))))))))
def p18_2 : Plan := .quiet 0 (.quiet 1 (.loud 2 [1] (.loud 3 [] (.quiet 4 (.loud 5 [] (.done))))))
def p18_4 : Plan := .quiet 0 (.quiet 1 (.loud 2 [1] (.loud 3 [] (.quiet 4 (.loud 5 [] (.done))))))
def p18_12 : Plan := .quiet 0 (.quiet 1 (.quiet 2 (.quiet 3 (.quiet 4 (.quiet 5 (.loud 6 [] (.done)))))))
def p18_15 : Plan := .quiet 0 (.quiet 1 (.quiet 2 (.quiet 3 (.quiet 4 (.quiet 5 (.quiet 6 (.quiet 7 (.quiet 8 (.loud 9 [6, 7] (.loud 10 [] (.quiet 11 (.loud 12 [] (.done)))))))))))))
def p56_3 : Plan := .quiet 0 (.quiet 1 (.quiet 2 (.quiet 3 (.quiet 4 (.quiet 5 (.quiet 6 (.loud 7 [] (.done))))))))
def p56_7 : Plan := .quiet 0 (.quiet 1 (.quiet 2 (.quiet 3 (.quiet 4 (.quiet 5 (.quiet 6 (.quiet 7 (.loud 8 [2, 3, 4] (.quiet 9 (.quiet 10 (.loud 11 [] (.done))))))))))))
def p103_2 : Plan := .quiet 0 (.quiet 1 (.quiet 2 (.quiet 3 (.quiet 4 (.quiet 5 (.quiet 6 (.quiet 7 (.quiet 8 (.quiet 9 (.quiet 10 (.quiet 11 (.quiet 12 (.loud 13 [] (.quiet 14 (.quiet 15 (.quiet 16 (.quiet 17 (.quiet 18 (.quiet 21 (.quiet 22 (.loud 19 [21, 22] (.quiet 20 (.quiet 23 (.quiet 24 (.quiet 25 (.done))))))))))))))))))))))))))
def p108_2 : Plan := .quiet 0 (.quiet 1 (.quiet 2 (.quiet 3 (.quiet 4 (.quiet 5 (.quiet 6 (.quiet 7 (.quiet 8 (.quiet 9 (.loud 10 [] (.done)))))))))))
def p108_4 : Plan := .quiet 0 (.quiet 1 (.quiet 2 (.quiet 3 (.quiet 4 (.quiet 5 (.quiet 6 (.quiet 7 (.quiet 8 (.quiet 9 (.quiet 10 (.quiet 11 (.quiet 12 (.quiet 13 (.quiet 14 (.quiet 15 (.quiet 16 (.quiet 17 (.quiet 18 (.loud 19 [] (.quiet 20 (.quiet 21 (.quiet 22 (.loud 23 [] (.done))))))))))))))))))))))))
def p109_2 : Plan := .quiet 0 (.quiet 1 (.quiet 2 (.quiet 3 (.quiet 4 (.quiet 5 (.quiet 6 (.quiet 7 (.quiet 8 (.loud 9 [] (.done))))))))))
def p109_3 : Plan := .quiet 0 (.quiet 1 (.quiet 2 (.quiet 3 (.quiet 4 (.quiet 5 (.quiet 6 (.quiet 7 (.quiet 8 (.quiet 9 (.quiet 10 (.quiet 11 (.quiet 12 (.loud 13 [] (.done))))))))))))))
def p109_4 : Plan := .quiet 0 (.quiet 1 (.quiet 2 (.quiet 3 (.quiet 4 (.quiet 5 (.quiet 6 (.quiet 7 (.quiet 8 (.quiet 9 (.quiet 10 (.loud 11 [] (.done))))))))))))
def p109_5 : Plan := .quiet 0 (.quiet 1 (.quiet 2 (.quiet 3 (.quiet 4 (.quiet 5 (.quiet 6 (.quiet 7 (.quiet 8 (.done)))))))))
def p109_7 : Plan := .quiet 0 (.quiet 1 (.quiet 2 (.quiet 3 (.quiet 4 (.quiet 5 (.quiet 6 (.quiet 7 (.quiet 8 (.quiet 9 (.quiet 10 (.quiet 11 (.quiet 12 (.quiet 13 (.quiet 14 (.quiet 15 (.loud 16 [] (.done)))))))))))))))))
end Go.Eng
end

/- A call that is handed nothing of the caller's own: what it leaves behind is the caller's own, by names behind the others. -/
section
namespace Go.Eng
open Go.RowKit
set_option linter.unusedVariables false
def tagU (L M : Nat) (old new : Option Tag) : Option Tag :=
  match old with
  | some t => some t
  | none => match new with
    | some (.blk i) => some (.blk (i + L))
    | some (.vec i) => some (.vec (i + M))
    | some .other => some .other
    | none => none
/-- The caller's ghost and the callee's, one behind the other. -/
def Env.grow (E E0 : Env) : Env :=
  { nb := E0.nb + E.nb, rho := fun i => if i < E.nb then E.rho i else E0.rho (i - E.nb), nv := E0.nv + E.nv, val := fun i ver => if i < E.nv then E.val i ver else E0.val (i - E.nv) ver, own := fun k => tagU E.nb E.nv (E.own k) (E0.own k) }
end Go.Eng
end

/- brine: one pipe without slugs: what is a brine. -/
section
namespace Go.Eng
open Go Go.RowKit Go.Proofs
set_option maxRecDepth 100000
set_option maxHeartbeats 4000000
attribute [local irreducible] OwnT DefS
def bwithinBase : BaseF := fun args => match args with
  | [.int .i64 n, .int .i64 lo, .int .i64 hi] => some (True, .bool (in3 n lo hi))
  | _ => none
theorem bwithin_eq (n : Int) (lo : Int) (hi : Int) : bwithinBase [.int .i64 n, .int .i64 lo, .int .i64 hi] = some (True, .bool (in3 n lo hi)) := rfl
theorem bwithin_base : Base Try.prog 59 bwithinBase := by
  intro args p v hq hp
  unfold bwithinBase at hq
  split at hq
  rotate_left
  · cases hq
  rename_i n lo hi
  cases hq
  refine base_of (C := cx [] [] [] [] none) (cx_ok trivial trivial) rfl (g := 59) (fn := Try.f59)
    (args' := [.int .i64 n, .int .i64 lo, .int .i64 hi]) (fn_59) rfl 1000 (by simp only [BdL, Bd, and_self, and_true, true_and]) ⟨SameD.rfl' _, SameD.rfl' _, SameD.rfl' _, trivial⟩ ?_
  simp only [Try.f59, go_sem, ↓reduceIte, Nat.reduceAdd, Nat.reduceSub, Nat.reduceMul, Nat.reduceEqDiff, Nat.reduceLT, Nat.reduceLeDiff, Int.reduceToNat, Int.reduceLE, Int.reduceLT, Int.reduceEq, Int.reduceNeg, reduceCtorEq]
  (repeat' refine And.intro (fun _ => ?_) (fun _ => ?_)) <;> simp_all [in3] <;> omega
def bheatBase : BaseF := fun args => match args with
  | [.int .i64 n] => some (True, .bool (in3 n 0 4294967296))
  | _ => none
theorem bheat_eq (n : Int) : bheatBase [.int .i64 n] = some (True, .bool (in3 n 0 4294967296)) := rfl
theorem bheat_base : Base Try.prog 100 bheatBase := by
  intro args p v hq hp
  unfold bheatBase at hq
  split at hq
  rotate_left
  · cases hq
  rename_i n
  cases hq
  refine base_of (C := cx [] [] [(59, bwithinBase)] [] none) (cx_ok trivial ⟨bwithin_base, trivial⟩) rfl (g := 100) (fn := Try.f100)
    (args' := [.int .i64 n]) (fn_100) rfl 1000 (by simp only [BdL, Bd, and_self, and_true, true_and]) ⟨SameD.rfl' _, trivial⟩ ?_
  simp only [bwithin_eq, Try.f100, go_sem, ↓reduceIte, Nat.reduceAdd, Nat.reduceSub, Nat.reduceMul, Nat.reduceEqDiff, Nat.reduceLT, Nat.reduceLeDiff, Int.reduceToNat, Int.reduceLE, Int.reduceLT, Int.reduceEq, Int.reduceNeg, reduceCtorEq]
def litresBase : BaseF := fun args => match args with
  | [.int .i64 n] => some (True, .bool (in3 n 1 1048576))
  | _ => none
theorem litres_eq (n : Int) : litresBase [.int .i64 n] = some (True, .bool (in3 n 1 1048576)) := rfl
theorem litres_base : Base Try.prog 129 litresBase := by
  intro args p v hq hp
  unfold litresBase at hq
  split at hq
  rotate_left
  · cases hq
  rename_i n
  cases hq
  refine base_of (C := cx [] [] [(59, bwithinBase)] [] none) (cx_ok trivial ⟨bwithin_base, trivial⟩) rfl (g := 129) (fn := Try.f129)
    (args' := [.int .i64 n]) (fn_129) rfl 1000 (by simp only [BdL, Bd, and_self, and_true, true_and]) ⟨SameD.rfl' _, trivial⟩ ?_
  simp only [bwithin_eq, Try.f129, go_sem, ↓reduceIte, Nat.reduceAdd, Nat.reduceSub, Nat.reduceMul, Nat.reduceEqDiff, Nat.reduceLT, Nat.reduceLeDiff, Int.reduceToNat, Int.reduceLE, Int.reduceLT, Int.reduceEq, Int.reduceNeg, reduceCtorEq]
def cloneSBase : BaseF := fun args => match args with
  | [.row n sz_v f_v] => some ((sz_v = 2 ∧ IntR n 2 f_v) ∧ (n ≤ 1000), .row n 2 (fun i j => .int .i64 ((ivf f_v) i j)))
  | _ => none
theorem cloneS_eq (n : Nat) (sz_v : Nat) (f_v : Nat → Nat → SV) : cloneSBase [.row n sz_v f_v] = some ((sz_v = 2 ∧ IntR n 2 f_v) ∧ (n ≤ 1000), .row n 2 (fun i j => .int .i64 ((ivf f_v) i j))) := rfl
theorem cloneS_base : BaseO Try.prog 104 61 cloneSBase := by
  intro args p v hq hp
  unfold cloneSBase at hq
  split at hq
  rotate_left
  · cases hq
  rename_i n sz_v f_v
  cases hq
  obtain ⟨⟨rfl, i_v⟩, pre⟩ := hp
  refine baseO_of (C := cx [] [] [] [] none) (cx_ok trivial trivial) rfl (g := 104) (fn := Try.f104)
    (args' := [.row n 2 (rowF .i64 (ivf f_v))]) (fn_104) rfl 1000 (by
    simp only [BdL, Bd, and_self, and_true, true_and]
    exact (fun i j hi hj => by rw [i_v i j hi hj]; trivial)) ⟨SameD.int i_v, trivial⟩ ?_
  generalize ivf f_v = v at *
  simp only [rowF_eq]
  simp only [Try.f104, go_sem, ↓reduceIte, Nat.reduceAdd, Nat.reduceSub, Nat.reduceMul, Nat.reduceEqDiff, Nat.reduceLT, Nat.reduceLeDiff, Int.reduceToNat, Int.reduceLE, Int.reduceLT, Int.reduceEq, Int.reduceNeg, reduceCtorEq]
  refine ⟨fun e => ⟨e.symm, fun i j hi => by omega⟩, ⟨by omega, by omega⟩, fun i j hi hj => by simp [catF]⟩
def bgI (x : Int) : Prop := -4611686018427387904 ≤ x ∧ x ≤ 4611686018427387903
def plusSBase : BaseF := fun args => match args with
  | [.agg [.int .i64 a, .int .i64 b], .agg [.int .i64 c, .int .i64 d]] => some ((bgI a ∧ bgI b ∧ bgI c ∧ bgI d), .agg [.int .i64 (a + c), .int .i64 (b + d)])
  | _ => none
theorem plusS_eq (a : Int) (b : Int) (c : Int) (d : Int) : plusSBase [.agg [.int .i64 a, .int .i64 b], .agg [.int .i64 c, .int .i64 d]] = some ((bgI a ∧ bgI b ∧ bgI c ∧ bgI d), .agg [.int .i64 (a + c), .int .i64 (b + d)]) := rfl
theorem plusS_base : Base Try.prog 136 plusSBase := by
  intro args p v hq hp
  unfold plusSBase at hq
  split at hq
  rotate_left
  · cases hq
  rename_i a b c d
  cases hq
  have pre := hp
  refine base_of (C := cx [] [] [] [] none) (cx_ok trivial trivial) rfl (g := 136) (fn := Try.f136)
    (args' := [.agg [.int .i64 a, .int .i64 b], .agg [.int .i64 c, .int .i64 d]]) (fn_136) rfl 1000 (by simp only [BdL, Bd, and_self, and_true, true_and]) ⟨SameD.rfl' _, SameD.rfl' _, trivial⟩ ?_
  obtain ⟨⟨a1, a2⟩, ⟨b1, b2⟩, ⟨c1, c2⟩, d1, d2⟩ := pre
  have w1 : IntKind.i64.wrap (a + c) = a + c := wrap_id (by omega) (by omega)
  have w2 : IntKind.i64.wrap (b + d) = b + d := wrap_id (by omega) (by omega)
  simp only [w1, w2, Try.f136, go_sem, ↓reduceIte, Nat.reduceAdd, Nat.reduceSub, Nat.reduceMul, Nat.reduceEqDiff, Nat.reduceLT, Nat.reduceLeDiff, Int.reduceToNat, Int.reduceLE, Int.reduceLT, Int.reduceEq, Int.reduceNeg, reduceCtorEq]
def pipe1Base : BaseF := fun args => match args with
  | [.agg [.int .i64 r, .row k sz_v f_v]] => some ((sz_v = 2 ∧ IntR k 2 f_v) ∧ (k = 0), .bool (in3 r 1 1048576))
  | _ => none
theorem pipe1_eq (r : Int) (k : Nat) (sz_v : Nat) (f_v : Nat → Nat → SV) : pipe1Base [.agg [.int .i64 r, .row k sz_v f_v]] = some ((sz_v = 2 ∧ IntR k 2 f_v) ∧ (k = 0), .bool (in3 r 1 1048576)) := rfl
theorem pipe1_base : Base Try.prog 103 pipe1Base := by
  intro args p v hq hp
  unfold pipe1Base at hq
  split at hq
  rotate_left
  · cases hq
  rename_i r k sz_v f_v
  cases hq
  obtain ⟨⟨rfl, i_v⟩, pre⟩ := hp
  refine base_of (C := cx [] [] [(129, litresBase)] [(103, 2, p103_2)] none) (cx_ok trivial ⟨litres_base, trivial⟩) rfl (g := 103) (fn := Try.f103)
    (args' := [.agg [.int .i64 r, .row k 2 (rowF .i64 (ivf f_v))]]) (fn_103) rfl 1000 (by
    simp only [BdL, Bd, and_self, and_true, true_and]
    exact (fun i j hi hj => by rw [i_v i j hi hj]; trivial)) ⟨SameD.agg ⟨SameD.rfl' _, SameD.int i_v, trivial⟩, trivial⟩ ?_
  generalize ivf f_v = v at *
  simp only [rowF_eq]
  subst pre
  have d16 : decide (((0 : Nat) : Int) ≤ 16) = true := by decide
  have d00 : decide ((0 : Int) < ((0 : Nat) : Int)) = false := by decide
  cases c1 : in3 r 1 1048576 with
  | false =>
    simp only [c1, Try.f130, Try.f142, Try.f131, litres_eq, p103_2, Try.f103, go_sem, ↓reduceIte, Nat.reduceAdd, Nat.reduceSub, Nat.reduceMul, Nat.reduceEqDiff, Nat.reduceLT, Nat.reduceLeDiff, Int.reduceToNat, Int.reduceLE, Int.reduceLT, Int.reduceEq, Int.reduceNeg, reduceCtorEq]
    exact ⟨by kernel_rfl, by kernel_rfl⟩
  | true =>
    simp only [c1, d16, Try.f130, Try.f142, Try.f131, litres_eq, p103_2, Try.f103, go_sem, ↓reduceIte, Nat.reduceAdd, Nat.reduceSub, Nat.reduceMul, Nat.reduceEqDiff, Nat.reduceLT, Nat.reduceLeDiff, Int.reduceToNat, Int.reduceLE, Int.reduceLT, Int.reduceEq, Int.reduceNeg, reduceCtorEq]
    refine ⟨⟨by kernel_rfl, by kernel_rfl⟩, ?_⟩
    refine loop_ofH Unit (fun _ => [(8, .int .i64 0), (7, .int .i64 ((0 : Nat) : Int)), (1, .func 128 []), (0, .row 0 2 fun i j => .int .i64 (v i j))]) (fun h0 _ => h0) (fun _ => 0) (fun _ => ⟨rfl, rfl⟩) () (by (apply sub_of <;> simp only [go_sem, ↓reduceIte, Nat.reduceAdd, Nat.reduceSub, Nat.reduceMul, Nat.reduceEqDiff, Nat.reduceLT, Nat.reduceLeDiff, Int.reduceToNat, Int.reduceLE, Int.reduceLT, Int.reduceEq, Int.reduceNeg, reduceCtorEq] <;> (try simp [catF]) <;> (try exact fun j _ => Bd_nth (by simp [BdL, Bd]) j) <;> (try exact bd_setL (by simp [bdAs, BdL, Bd])) <;> (try exact nestF_bd _ _ _ _ _ _ _ _ _)) <;> rfl) ?_
    intro _
    have hr := (in3_iff.1 c1).1
    have d0r : decide ((0 : Int) ≤ r) = true := decide_eq_true (by omega)
    simp only [d00, Try.f130, Try.f142, Try.f131, litres_eq, p103_2, Try.f103, go_sem, ↓reduceIte, Nat.reduceAdd, Nat.reduceSub, Nat.reduceMul, Nat.reduceEqDiff, Nat.reduceLT, Nat.reduceLeDiff, Int.reduceToNat, Int.reduceLE, Int.reduceLT, Int.reduceEq, Int.reduceNeg, reduceCtorEq]
    refine loop_ofH Unit (fun _ => [(7, .int .i64 0), (6, .int .i64 ((0 : Nat) : Int)), (5, .row 0 2 fun i j => .int .i64 (v i j)), (2, .ptr 1 0)]) (fun h0 _ => h0) (fun _ => 0) (fun _ => ⟨rfl, rfl⟩) () (by (apply sub_of <;> simp only [go_sem, ↓reduceIte, Nat.reduceAdd, Nat.reduceSub, Nat.reduceMul, Nat.reduceEqDiff, Nat.reduceLT, Nat.reduceLeDiff, Int.reduceToNat, Int.reduceLE, Int.reduceLT, Int.reduceEq, Int.reduceNeg, reduceCtorEq] <;> (try simp [catF]) <;> (try exact fun j _ => Bd_nth (by simp [BdL, Bd]) j) <;> (try exact bd_setL (by simp [bdAs, BdL, Bd])) <;> (try exact nestF_bd _ _ _ _ _ _ _ _ _)) <;> rfl) ?_
    intro _
    simp only [d00, d0r, Try.f130, Try.f142, Try.f131, litres_eq, p103_2, Try.f103, go_sem, ↓reduceIte, Nat.reduceAdd, Nat.reduceSub, Nat.reduceMul, Nat.reduceEqDiff, Nat.reduceLT, Nat.reduceLeDiff, Int.reduceToNat, Int.reduceLE, Int.reduceLT, Int.reduceEq, Int.reduceNeg, reduceCtorEq]
    trace_state
end Go.Eng
end

/- brine: what is a brine; one pipe without slugs. -/
section
namespace Go.Eng
open Go Go.RowKit Go.Proofs
set_option maxRecDepth 100000
set_option maxHeartbeats 4000000
attribute [local irreducible] OwnT DefS
def hasPipeBase : BaseF := fun args => match args with
  | [.row n sz_A f_A, .func g []] => some ((sz_A = 2 ∧ NestR n 2 1 2 f_A) ∧ (g = 102 ∧ n = 1 ∧ (nsM 1 f_A) 0 = 0), .bool (!in3 ((nsA f_A) 0 0) 1 1048576))
  | _ => none
theorem hasPipe_eq (n : Nat) (sz_A : Nat) (f_A : Nat → Nat → SV) (g : Nat) : hasPipeBase [.row n sz_A f_A, .func g []] = some ((sz_A = 2 ∧ NestR n 2 1 2 f_A) ∧ (g = 102 ∧ n = 1 ∧ (nsM 1 f_A) 0 = 0), .bool (!in3 ((nsA f_A) 0 0) 1 1048576)) := rfl
theorem hasPipe_base : Base Try.prog 101 hasPipeBase := by
  intro args p v hq hp
  unfold hasPipeBase at hq
  split at hq
  rotate_left
  · cases hq
  rename_i n sz_A f_A g
  cases hq
  obtain ⟨⟨rfl, i_A⟩, pre⟩ := hp
  refine base_of (C := cx [] [] [(103, pipe1Base)] [] none) (cx_ok trivial ⟨pipe1_base, trivial⟩) rfl (g := 101) (fn := Try.f101)
    (args' := [.row n 2 (nestF 1 2 (nsA f_A) (nsM 1 f_A) (nsV 1 f_A)), .func g []]) (fn_101) rfl 1000 (by
    simp only [BdL, Bd, and_self, and_true, true_and]
    exact (fun i j hi hj => nest_bd i_A i j hi hj)) ⟨SameD.nest i_A, SameD.rfl' _, trivial⟩ ?_
  generalize nsA f_A = A at *
  generalize nsM 1 f_A = M at *
  generalize nsV 1 f_A = V at *
  obtain ⟨rfl, rfl, hM⟩ := pre
  have m0 : decide (M 0 = 0) = true := decide_eq_true hM
  have g1 : decide (((0 : Nat) : Int) < ((1 : Nat) : Int)) = true := rfl
  have g0 : decide (((1 : Nat) : Int) < ((1 : Nat) : Int)) = false := rfl
  simp only [Try.f127, pipe1_eq, nestF11_0, nestF11_1, Try.f101, go_sem, ↓reduceIte, Nat.reduceAdd, Nat.reduceSub, Nat.reduceMul, Nat.reduceEqDiff, Nat.reduceLT, Nat.reduceLeDiff, Int.reduceToNat, Int.reduceLE, Int.reduceLT, Int.reduceEq, Int.reduceNeg, reduceCtorEq]
  cases c1 : in3 (A 0 0) 1 1048576 with
  | false =>
    refine loop_ofH Unit (fun b => [(8, .int .i64 ((0 : Nat) : Int)), (7, .int .i64 ((1 : Nat) : Int)), (1, .func 102 []), (0, .row 1 2 (nestF 1 2 A M V))]) (fun h _ => h) (fun _ => 0) (fun _ => ⟨rfl, rfl⟩) () (by (apply sub_of <;> simp only [go_sem, ↓reduceIte, Nat.reduceAdd, Nat.reduceSub, Nat.reduceMul, Nat.reduceEqDiff, Nat.reduceLT, Nat.reduceLeDiff, Int.reduceToNat, Int.reduceLE, Int.reduceLT, Int.reduceEq, Int.reduceNeg, reduceCtorEq] <;> (try simp [catF]) <;> (try exact fun j _ => Bd_nth (by simp [BdL, Bd]) j) <;> (try exact bd_setL (by simp [bdAs, BdL, Bd])) <;> (try exact nestF_bd _ _ _ _ _ _ _ _ _)); exact fun _ _ _ _ => nestF_bd1 _ _ _ _ _ _ _ _ _) ?_
    rintro ⟨⟩
    simp only [g1, c1, hM, Try.f102, Try.f127, pipe1_eq, nestF11_0, nestF11_1, Try.f101, go_sem, ↓reduceIte, Nat.reduceAdd, Nat.reduceSub, Nat.reduceMul, Nat.reduceEqDiff, Nat.reduceLT, Nat.reduceLeDiff, Int.reduceToNat, Int.reduceLE, Int.reduceLT, Int.reduceEq, Int.reduceNeg, reduceCtorEq]
    exact ⟨⟨by omega, by omega⟩, rfl⟩
  | true =>
    refine loop_ofH { b : Nat // b ≤ 1 } (fun b => [(8, .int .i64 (b.1 : Int)), (7, .int .i64 ((1 : Nat) : Int)), (1, .func 102 []), (0, .row 1 2 (nestF 1 2 A M V))]) (fun h _ => h) (fun b => 1 - b.1) (fun _ => ⟨rfl, rfl⟩) ⟨0, by omega⟩ (by (apply sub_of <;> simp only [go_sem, ↓reduceIte, Nat.reduceAdd, Nat.reduceSub, Nat.reduceMul, Nat.reduceEqDiff, Nat.reduceLT, Nat.reduceLeDiff, Int.reduceToNat, Int.reduceLE, Int.reduceLT, Int.reduceEq, Int.reduceNeg, reduceCtorEq] <;> (try simp [catF]) <;> (try exact fun j _ => Bd_nth (by simp [BdL, Bd]) j) <;> (try exact bd_setL (by simp [bdAs, BdL, Bd])) <;> (try exact nestF_bd _ _ _ _ _ _ _ _ _)); exact fun _ _ _ _ => nestF_bd1 _ _ _ _ _ _ _ _ _) ?_
    rintro ⟨b, hb⟩
    rcases (by omega : b = 0 ∨ b = 1) with rfl | rfl
    · simp only [g1, c1, hM, Try.f102, Try.f127, pipe1_eq, nestF11_0, nestF11_1, Try.f101, go_sem, ↓reduceIte, Nat.reduceAdd, Nat.reduceSub, Nat.reduceMul, Nat.reduceEqDiff, Nat.reduceLT, Nat.reduceLeDiff, Int.reduceToNat, Int.reduceLE, Int.reduceLT, Int.reduceEq, Int.reduceNeg, reduceCtorEq]
      refine ⟨⟨by omega, by omega⟩, ⟨1, by omega⟩, by simp only []; omega, ?_⟩
      have g3 : IntKind.i64.wrap (((0 : Nat) : Int) + 1) = ((1 : Nat) : Int) := rfl
      apply sub_of <;> simp only [g3, go_sem, ↓reduceIte, Nat.reduceAdd, Nat.reduceSub, Nat.reduceMul, Nat.reduceEqDiff, Nat.reduceLT, Nat.reduceLeDiff, Int.reduceToNat, Int.reduceLE, Int.reduceLT, Int.reduceEq, Int.reduceNeg, reduceCtorEq]
      all_goals first | exact fun _ _ _ _ => trivial | exact fun _ _ _ _ => nestF_bd1 _ _ _ _ _ _ _ _ _
    · simp only [g0, c1, Try.f102, Try.f127, pipe1_eq, nestF11_0, nestF11_1, Try.f101, go_sem, ↓reduceIte, Nat.reduceAdd, Nat.reduceSub, Nat.reduceMul, Nat.reduceEqDiff, Nat.reduceLT, Nat.reduceLeDiff, Int.reduceToNat, Int.reduceLE, Int.reduceLT, Int.reduceEq, Int.reduceNeg, reduceCtorEq]
      trace_state
def isBrine1Base : BaseF := fun args => match args with
  | [.agg [.int .i64 tv, .int .i64 th, .row n sz_A f_A, .int .i64 he, .int .i64 hr]] => some ((sz_A = 2 ∧ NestR n 2 1 2 f_A) ∧ (n = 1 ∧ (nsM 1 f_A) 0 = 0 ∧ in3 tv 0 1048576 = true ∧ in3 th 0 4294967296 = true ∧ 0 < tv ∧ in3 hr 0 4294967296 = true ∧ in3 he 0 hr = true ∧ in3 ((nsA f_A) 0 0) 1 1048576 = true), .bool true)
  | _ => none
theorem isBrine1_eq (tv : Int) (th : Int) (n : Nat) (sz_A : Nat) (f_A : Nat → Nat → SV) (he : Int) (hr : Int) : isBrine1Base [.agg [.int .i64 tv, .int .i64 th, .row n sz_A f_A, .int .i64 he, .int .i64 hr]] = some ((sz_A = 2 ∧ NestR n 2 1 2 f_A) ∧ (n = 1 ∧ (nsM 1 f_A) 0 = 0 ∧ in3 tv 0 1048576 = true ∧ in3 th 0 4294967296 = true ∧ 0 < tv ∧ in3 hr 0 4294967296 = true ∧ in3 he 0 hr = true ∧ in3 ((nsA f_A) 0 0) 1 1048576 = true), .bool true) := rfl
theorem isBrine1_base : Base Try.prog 54 isBrine1Base := by
  intro args p v hq hp
  unfold isBrine1Base at hq
  split at hq
  rotate_left
  · cases hq
  rename_i tv th n sz_A f_A he hr
  cases hq
  obtain ⟨⟨rfl, i_A⟩, pre⟩ := hp
  refine base_of (C := cx [] [] [(59, bwithinBase), (100, bheatBase), (101, hasPipeBase)] [] none) (cx_ok trivial ⟨bwithin_base, bheat_base, hasPipe_base, trivial⟩) rfl (g := 54) (fn := Try.f54)
    (args' := [.agg [.int .i64 tv, .int .i64 th, .row n 2 (nestF 1 2 (nsA f_A) (nsM 1 f_A) (nsV 1 f_A)), .int .i64 he, .int .i64 hr]]) (fn_54) rfl 1000 (by
    simp only [BdL, Bd, and_self, and_true, true_and]
    exact (fun i j hi hj => nest_bd i_A i j hi hj)) ⟨SameD.agg ⟨SameD.rfl' _, SameD.rfl' _, SameD.nest i_A, SameD.rfl' _, SameD.rfl' _, trivial⟩, trivial⟩ ?_
  generalize nsA f_A = A at *
  generalize nsM 1 f_A = M at *
  generalize nsV 1 f_A = V at *
  obtain ⟨rfl, hM, c1, c2, c3, c4, c5, c6⟩ := pre
  have d3 : decide (0 < tv) = true := decide_eq_true c3
  have d1 : in3 ((1 : Nat) : Int) 1 8 = true := rfl
  simp only [c1, c2, c4, c5, c6, d3, d1, hM, nsA_lit _ (show (0 : Nat) ≠ 1 by omega), bwithin_eq, bheat_eq, hasPipe_eq, nestR_lit, nsM_lit, nsV_lit, Try.f54, go_sem, ↓reduceIte, Nat.reduceAdd, Nat.reduceSub, Nat.reduceMul, Nat.reduceEqDiff, Nat.reduceLT, Nat.reduceLeDiff, Int.reduceToNat, Int.reduceLE, Int.reduceLT, Int.reduceEq, Int.reduceNeg, reduceCtorEq]
  trace_state
end Go.Eng
end

/- brine: Play of fills and chills; one pipe without slugs. -/
section
namespace Go.Eng
open Go Go.RowKit Go.Proofs
set_option maxRecDepth 100000
set_option maxHeartbeats 4000000
attribute [local irreducible] OwnT DefS
/-- The tank, the heat store, and what was summed up. -/
structure Br1 where
  tv : Int
  th : Int
  he : Int
  fv : Int
  fh : Int
  ch : Int
  ai : Int
def bstep (hr : Int) (s : Br1) (x : Nat → Int) : Br1 :=
  if x 0 = 3 then ⟨s.tv + x 2, s.th + x 3, s.he, s.fv + x 2, s.fh + x 3, s.ch, s.ai⟩
  else ⟨s.tv, s.th - x 3, min (s.he + x 3) hr, s.fv, s.fh, s.ch + x 3, s.ai + (s.he + x 3 - min (s.he + x 3) hr)⟩
def bst (hr : Int) (s : Br1) (x : Nat → Nat → Int) : Nat → Br1
  | 0 => s
  | j + 1 => bstep hr (bst hr s x j) (x j)
def bs0 (tv th he : Int) : Br1 := ⟨tv, th, he, 0, 0, 0, 0⟩
structure BOk (tv th he hr : Int) (m : Nat) (x : Nat → Nat → Int) : Prop where
  v : 0 < tv ∧ tv ≤ 1048576
  h : 0 ≤ th ∧ th ≤ 4294967296
  r : 0 ≤ hr ∧ hr ≤ 4294967296
  e : 0 ≤ he ∧ he ≤ hr
  m2 : m ≤ 256
  x : ∀ j, j < m → (x j 0 = 3 ∧ (1 ≤ x j 2 ∧ x j 2 ≤ 1048576) ∧ (0 ≤ x j 3 ∧ x j 3 ≤ 4294967296) ∧ (bst hr (bs0 tv th he) x j).tv + x j 2 ≤ 1048576) ∨ (x j 0 = 4 ∧ (0 ≤ x j 3 ∧ x j 3 ≤ 4294967296) ∧ x j 3 ≤ (bst hr (bs0 tv th he) x j).th)
structure BBd (hr : Int) (j : Int) (s : Br1) : Prop where
  tv : 0 ≤ s.tv ∧ s.tv ≤ 1048576
  th : 0 ≤ s.th ∧ s.th ≤ 4294967296 * (j + 1)
  he : 0 ≤ s.he ∧ s.he ≤ hr
  fv : 0 ≤ s.fv ∧ s.fv ≤ 1048576 * j
  fh : 0 ≤ s.fh ∧ s.fh ≤ 4294967296 * j
  ch : 0 ≤ s.ch ∧ s.ch ≤ 4294967296 * j
  ai : 0 ≤ s.ai ∧ s.ai ≤ 8589934592 * j
theorem BOk.bd {tv th he hr : Int} {m : Nat} {x : Nat → Nat → Int} (h : BOk tv th he hr m x) : ∀ j : Nat, j ≤ m → BBd hr (j : Int) (bst hr (bs0 tv th he) x j)
  | 0, _ => by
    have h1 := h.v
    have h2 := h.h
    have h3 := h.e
    refine ⟨?_, ?_, ?_, ?_, ?_, ?_, ?_⟩ <;> simp only [bst, bs0] <;> omega
  | j + 1, hj => by
    have ih := h.bd j (by omega)
    have hr := h.r
    have hx := h.x j hj
    obtain ⟨⟨a1, a2⟩, ⟨b1, b2⟩, ⟨c1, c2⟩, ⟨d1, d2⟩, ⟨e1, e2⟩, ⟨f1, f2⟩, ⟨g1, g2⟩⟩ := ih
    refine ⟨?_, ?_, ?_, ?_, ?_, ?_, ?_⟩ <;> simp only [bst, bstep] <;> rcases hx with ⟨k, _⟩ | ⟨k, _⟩
    all_goals first
      | (rw [if_pos k]; simp only []; omega)
      | (rw [if_neg (by omega)]; simp only []; omega)
theorem def55_none (h : HS) (e : Nat) : DefS Try.prog 55 [.ptr e 0] none h (fun p' h' => p' = none ∧ h' = h) := by
  refine defS_of_run (C := cx [] [] [] [] (some [])) (cx_ok trivial trivial) (g := 55) (fn := Try.f55) fn_55 rfl rfl rfl 1000 1000 ?_
  simp only [Try.f55, go_sem, ↓reduceIte, Nat.reduceAdd, Nat.reduceSub, Nat.reduceMul, Nat.reduceEqDiff, Nat.reduceLT, Nat.reduceLeDiff, Int.reduceToNat, Int.reduceLE, Int.reduceLT, Int.reduceEq, Int.reduceNeg, reduceCtorEq]
def bpK (A00 hr : Int) (n : Nat) (s : Br1) (o : Out) (h' : HS) : Prop :=
  ∃ p, o = .ret (.tup [.agg [.int .i64 s.tv, .int .i64 s.th, p, .int .i64 s.he, .int .i64 hr], .agg [.int .i64 0, .int .i64 0, .int .i64 0, .int .i64 s.fv, .int .i64 s.fh, .int .i64 s.ch, .int .i64 s.ai, .int .i64 0, .int .i64 0], .int .i64 (n : Int), .int .i64 0])
def bplB (hr : Int) (s : Br1) : Blk := .live 157 [.int .i64 s.tv, .int .i64 s.th, .any, .int .i64 s.he, .int .i64 hr, .int .i64 0, .int .i64 0, .int .i64 0, .int .i64 s.fv, .int .i64 s.fh, .int .i64 s.ch, .int .i64 s.ai, .int .i64 0, .int .i64 0]
theorem bplay_calls {A : Nat → Nat → Int} {M : Nat → Nat} {V : Nat → Nat → Nat → Int} (hM : M 0 = 0) (hA : in3 (A 0 0) 1 1048576 = true) {tv th he hr : Int} {m : Nat} {x : Nat → Nat → Int} (ok : BOk tv th he hr m x) :
    CallsS Try.prog 18 [.agg [.int .i64 tv, .int .i64 th, .row 1 2 (nestF 1 2 A M V), .int .i64 he, .int .i64 hr], .row m 4 (fun i j => .int .i64 (x i j))] ⟨[], []⟩ (bpK (A 0 0) hr m (bst hr (bs0 tv th he) x m)) := by
  refine calls_of_defer (C := cx [] [(104, 61, cloneSBase)] [(54, isBrine1Base), (59, bwithinBase), (100, bheatBase), (129, litresBase), (136, plusSBase)] [(18, 2, p18_2), (18, 4, p18_4), (18, 12, p18_12), (18, 15, p18_15), (56, 3, p56_3), (56, 7, p56_7), (108, 2, p108_2), (108, 4, p108_4), (109, 2, p109_2), (109, 3, p109_3), (109, 4, p109_4), (109, 5, p109_5), (109, 7, p109_7)] (some [4, 5, 6, 7])) (cx_ok ⟨cloneS_base, trivial⟩ ⟨isBrine1_base, bwithin_base, bheat_base, litres_base, plusS_base, trivial⟩) (g := 18) (fn := Try.f18) (fn_18) rfl rfl 1000 1000 ?_
  have hm2 := ok.m2
  have hm : decide (256 < (m : Int)) = false := decide_eq_false (by omega)
  have q1 : in3 tv 0 1048576 = true := in3_iff.2 (by have := ok.v; omega)
  have q2 : in3 th 0 4294967296 = true := in3_iff.2 ok.h
  have q3 := ok.v.1
  have q4 : in3 hr 0 4294967296 = true := in3_iff.2 ok.r
  have q5 : in3 he 0 hr = true := in3_iff.2 ok.e
  simp only [hm, hM, hA, q1, q2, q3, q4, q5, nestR_lit, nsM_lit, nsV_lit, nsA_lit _ (show (0 : Nat) ≠ 1 by omega), nestF11_0, nestF11_1, isBrine1_eq, cloneS_eq, Try.f18, Try.f56, Try.f57, p56_3, p56_7, go_sem, ↓reduceIte, Nat.reduceAdd, Nat.reduceSub, Nat.reduceMul, Nat.reduceEqDiff, Nat.reduceLT, Nat.reduceLeDiff, Int.reduceToNat, Int.reduceLE, Int.reduceLT, Int.reduceEq, Int.reduceNeg, reduceCtorEq]
  have g1 : decide (((0 : Nat) : Int) < ((1 : Nat) : Int)) = true := rfl
  have g0 : decide (((1 : Nat) : Int) < ((1 : Nat) : Int)) = false := rfl
  refine ⟨by omega, ⟨by kernel_rfl, by kernel_rfl⟩, ?_⟩
  refine loop_ofG { b : Nat // b ≤ 1 } (fun b => [(28, .int .i64 (b.1 : Int)), (27, .int .i64 ((1 : Nat) : Int)), (26, .row 1 2 (nestF 1 2 A M V)), (3, .ptr 5 0)]) (fun h b => if b.1 = 0 then h else ⟨[.dead, .live 67 [.int .i64 0, .int .i64 0, .any, .int .i64 0, .int .i64 0], .live 76 [.int .i64 0, .int .i64 0, .int .i64 0, .int .i64 0, .int .i64 0, .int .i64 0, .int .i64 0, .int .i64 0, .int .i64 0], .live 27 [.int .i64 0], .dead, .live 157 [.int .i64 tv, .int .i64 th, .any, .int .i64 he, .int .i64 hr, .int .i64 0, .int .i64 0, .int .i64 0, .int .i64 0, .int .i64 0, .int .i64 0, .int .i64 0, .int .i64 0, .int .i64 0]], [.dead, .dead]⟩) (fun b => 1 - b.1) (fun b => by split <;> exact ⟨Nat.le_refl _, Nat.le_refl _⟩) ⟨0, by omega⟩ (by
    simp only [if_true]
    (apply sub_of <;> simp only [go_sem, ↓reduceIte, Nat.reduceAdd, Nat.reduceSub, Nat.reduceMul, Nat.reduceEqDiff, Nat.reduceLT, Nat.reduceLeDiff, Int.reduceToNat, Int.reduceLE, Int.reduceLT, Int.reduceEq, Int.reduceNeg, reduceCtorEq] <;> (try simp [catF]) <;> (try exact fun j _ => Bd_nth (by simp [BdL, Bd]) j) <;> (try exact bd_setL (by simp [bdAs, BdL, Bd])) <;> (try exact nestF_bd _ _ _ _ _ _ _ _ _))
    all_goals first
      | exact fun _ _ _ _ => nestF_bd1 _ _ _ _ _ _ _ _ _
      | (intro i j hi hj
         subst hi
         show Bd 6 2 (nestF 1 2 A M V 0 j)
         exact nestF_bd1 _ _ _ _ _ _ _ _ _)) ?_
  rintro ⟨b, hb⟩
  rcases (by omega : b = 0 ∨ b = 1) with rfl | rfl
  · simp only [if_true, g1, cloneS_eq, nestF11_0, nestF11_1, Try.f18, Try.f56, Try.f57, p56_3, p56_7, go_sem, ↓reduceIte, Nat.reduceAdd, Nat.reduceSub, Nat.reduceMul, Nat.reduceEqDiff, Nat.reduceLT, Nat.reduceLeDiff, Int.reduceToNat, Int.reduceLE, Int.reduceLT, Int.reduceEq, Int.reduceNeg, reduceCtorEq]
    refine ⟨⟨by omega, by omega⟩, ⟨by kernel_rfl, by kernel_rfl⟩, by omega, ⟨by omega, by omega⟩, ⟨1, by omega⟩, by simp only []; omega, ?_⟩
    have g3 : IntKind.i64.wrap (((0 : Nat) : Int) + 1) = ((1 : Nat) : Int) := rfl
    have z1 : ((1 : Nat) = 0) = False := by simp
    simp only [z1, if_false]
    apply sub_of <;> simp only [g3, go_sem, ↓reduceIte, Nat.reduceAdd, Nat.reduceSub, Nat.reduceMul, Nat.reduceEqDiff, Nat.reduceLT, Nat.reduceLeDiff, Int.reduceToNat, Int.reduceLE, Int.reduceLT, Int.reduceEq, Int.reduceNeg, reduceCtorEq]
    · exact fun _ _ _ _ => trivial
    · exact fun _ _ _ _ => nestF_bd1 _ _ _ _ _ _ _ _ _
  have z1 : ((1 : Nat) = 0) = False := by simp
  simp only [z1, if_false, g0, cloneS_eq, Try.f18, Try.f56, Try.f57, p56_3, p56_7, go_sem, ↓reduceIte, Nat.reduceAdd, Nat.reduceSub, Nat.reduceMul, Nat.reduceEqDiff, Nat.reduceLT, Nat.reduceLeDiff, Int.reduceToNat, Int.reduceLE, Int.reduceLT, Int.reduceEq, Int.reduceNeg, reduceCtorEq]
  refine loop_ofH { j : Nat // j ≤ m } (fun j => [(30, .int .i64 (j.1 : Int)), (29, .int .i64 (m : Int)), (28, .row m 4 fun i j => .int .i64 (x i j)), (9, .ptr 7 0), (8, .ptr 5 0), (7, .ptr 3 0), (6, .int .i64 (j.1 : Int)), (5, .ptr 2 0), (4, .ptr 1 0)])
    (fun _ j => ⟨[.dead, .live 67 [.int .i64 0, .int .i64 0, .any, .int .i64 0, .int .i64 0], .live 76 [.int .i64 0, .int .i64 0, .int .i64 0, .int .i64 0, .int .i64 0, .int .i64 0, .int .i64 0, .int .i64 0, .int .i64 0], .live 27 [.int .i64 0], .dead, bplB hr (bst hr (bs0 tv th he) x j.1), .dead, .live 154 [.func 105 [], .func 106 [], .func 107 [], .func 108 [], .func 109 [], .func 110 []]], [.dead, .dead]⟩)
    (fun j => m - j.1) (fun _ => ⟨rfl, rfl⟩) ⟨0, by omega⟩ ?_ ?_
  · apply sub_of <;> simp only [bst, bs0, bplB, go_sem, ↓reduceIte, Nat.reduceAdd, Nat.reduceSub, Nat.reduceMul, Nat.reduceEqDiff, Nat.reduceLT, Nat.reduceLeDiff, Int.reduceToNat, Int.reduceLE, Int.reduceLT, Int.reduceEq, Int.reduceNeg, reduceCtorEq]
    · exact ⟨rfl, fun _ _ _ _ => trivial, rfl⟩
    · exact fun _ _ _ _ => trivial
  rintro ⟨j, hj⟩
  have bd := ok.bd j hj
  simp only at hj ⊢
  by_cases jm : j < m
  rotate_left
  · obtain rfl : j = m := by omega
    have e1 : decide ((j : Int) < (j : Int)) = false := decide_eq_false (by omega)
    simp only [e1, bplB, p18_15, Try.f18, go_sem, ↓reduceIte, Nat.reduceAdd, Nat.reduceSub, Nat.reduceMul, Nat.reduceEqDiff, Nat.reduceLT, Nat.reduceLeDiff, Int.reduceToNat, Int.reduceLE, Int.reduceLT, Int.reduceEq, Int.reduceNeg, reduceCtorEq]
    refine ⟨⟨by kernel_rfl, by kernel_rfl⟩, defS_mono (def55_none _ 3) ?_⟩
    rintro p' h' ⟨rfl, rfl⟩
    simp only [Try.f18, go_sem, ↓reduceIte, Nat.reduceAdd, Nat.reduceSub, Nat.reduceMul, Nat.reduceEqDiff, Nat.reduceLT, Nat.reduceLeDiff, Int.reduceToNat, Int.reduceLE, Int.reduceLT, Int.reduceEq, Int.reduceNeg, reduceCtorEq]
    exact ⟨_, rfl⟩
  have e1 : decide ((j : Int) < (m : Int)) = true := decide_eq_true (by omega)
  have d256 := ok.x j jm
  obtain ⟨s, hs⟩ : ∃ s, bst hr (bs0 tv th he) x j = s := ⟨_, rfl⟩
  rw [hs] at d256 bd
  have w1 : IntKind.i64.wrap ((j : Int) + 1) = ((j + 1 : Nat) : Int) := by rw [wrap_id (by omega) (by omega)]; omega
  have hn : bst hr (bs0 tv th he) x (j + 1) = bstep hr s (x j) := by simp only [bst, hs]
  obtain ⟨⟨u1, u2⟩, ⟨u3, u4⟩, ⟨u5, u6⟩, ⟨u7, u8⟩, ⟨u9, u10⟩, ⟨u11, u12⟩, u13, u14⟩ := bd
  have hr1 := ok.r
  rcases d256 with ⟨k, ⟨a1, a2⟩, ⟨b1, b2⟩, c1⟩ | ⟨k, ⟨b1, b2⟩, c1⟩
  · have j1 : in3 3 0 5 = true := rfl
    have j2 : in3 (x j 2) 1 1048576 = true := in3_iff.2 ⟨a1, a2⟩
    have j3 : in3 (x j 3) 0 4294967296 = true := in3_iff.2 ⟨b1, b2⟩
    have v1 : IntKind.i64.wrap (s.tv + x j 2) = s.tv + x j 2 := wrap_id (by omega) (by omega)
    have v2 : decide (s.tv + x j 2 ≤ 1048576) = true := decide_eq_true c1
    simp only [hs, e1, k, j1, j2, j3, v1, v2, bplB, bwithin_eq, litres_eq, bheat_eq, plusS_eq, p18_12, p108_2, p108_4, Try.f18, Try.f58, Try.f108, go_sem, ↓reduceIte, Nat.reduceAdd, Nat.reduceSub, Nat.reduceMul, Nat.reduceEqDiff, Nat.reduceLT, Nat.reduceLeDiff, Int.reduceToNat, Int.reduceLE, Int.reduceLT, Int.reduceEq, Int.reduceNeg, reduceCtorEq]
    refine ⟨⟨by omega, by omega⟩, ⟨by kernel_rfl, by kernel_rfl⟩, by decide, ⟨by kernel_rfl, by kernel_rfl⟩, ⟨by kernel_rfl, by kernel_rfl⟩, ?_, ?_, ⟨j + 1, by omega⟩, by simp only []; omega, ?_⟩
    · simp only [bgI]; omega
    · simp only [bgI]; omega
    apply sub_of <;> simp only [w1, hn, bstep, k, if_true, go_sem, ↓reduceIte, Nat.reduceAdd, Nat.reduceSub, Nat.reduceMul, Nat.reduceEqDiff, Nat.reduceLT, Nat.reduceLeDiff, Int.reduceToNat, Int.reduceLE, Int.reduceLT, Int.reduceEq, Int.reduceNeg, reduceCtorEq]
    all_goals exact fun _ _ _ _ => trivial
  · have j1 : in3 4 0 5 = true := rfl
    have j3 : in3 (x j 3) 0 4294967296 = true := in3_iff.2 ⟨b1, b2⟩
    have v2 : decide (x j 3 ≤ s.th) = true := decide_eq_true c1
    have v3 : IntKind.i64.wrap (s.th - x j 3) = s.th - x j 3 := wrap_id (by omega) (by omega)
    have v4 : IntKind.i64.wrap (s.ch + x j 3) = s.ch + x j 3 := wrap_id (by omega) (by omega)
    have v5 : IntKind.i64.wrap (s.he + x j 3) = s.he + x j 3 := wrap_id (by omega) (by omega)
    have v6 : IntKind.i64.wrap (s.he + x j 3 - min (s.he + x j 3) hr) = s.he + x j 3 - min (s.he + x j 3) hr := wrap_id (by omega) (by omega)
    have v7 : IntKind.i64.wrap (s.ai + (s.he + x j 3 - min (s.he + x j 3) hr)) = s.ai + (s.he + x j 3 - min (s.he + x j 3) hr) := wrap_id (by omega) (by omega)
    have z43 : ((4 : Int) = 3) = False := by simp
    simp only [hs, e1, k, j1, j3, v2, v3, v4, v5, v6, v7, bplB, bwithin_eq, litres_eq, bheat_eq, plusS_eq, p18_12, p109_2, p109_3, p109_4, p109_5, p109_7, Try.f18, Try.f58, Try.f109, go_sem, ↓reduceIte, Nat.reduceAdd, Nat.reduceSub, Nat.reduceMul, Nat.reduceEqDiff, Nat.reduceLT, Nat.reduceLeDiff, Int.reduceToNat, Int.reduceLE, Int.reduceLT, Int.reduceEq, Int.reduceNeg, reduceCtorEq]
    refine ⟨⟨by omega, by omega⟩, ⟨by kernel_rfl, by kernel_rfl⟩, by decide, ⟨by kernel_rfl, by kernel_rfl⟩, ⟨by kernel_rfl, by kernel_rfl⟩, ⟨by kernel_rfl, by kernel_rfl⟩, ⟨by kernel_rfl, by kernel_rfl⟩, ⟨by kernel_rfl, by kernel_rfl⟩, ⟨j + 1, by omega⟩, by simp only []; omega, ?_⟩
    apply sub_of <;> simp only [w1, hn, bstep, k, z43, if_false, go_sem, ↓reduceIte, Nat.reduceAdd, Nat.reduceSub, Nat.reduceMul, Nat.reduceEqDiff, Nat.reduceLT, Nat.reduceLeDiff, Int.reduceToNat, Int.reduceLE, Int.reduceLT, Int.reduceEq, Int.reduceNeg, reduceCtorEq]
    all_goals exact fun _ _ _ _ => trivial
/-- As a contract: the pipes that come back are not told. -/
theorem any_calls {P : Program} {g : Nat} {args args' : List SV} {K : Out → HS → Prop} {v : SV} (h1 : BdL 0 0 args) (hs : SameL args args') (hv : Fl v) (hc : CallsS P g args' ⟨[], []⟩ K)
    (hk : ∀ o h', K o h' → ∃ u, o = .ret u ∧ SameD u v) : BdL 0 0 args ∧ CallsS P g args ⟨[], []⟩ (fun o h' => ∃ u, o = .ret u ∧ ((Fl u ∧ SameD u v) ∨ FzT h' u v)) := by
  refine ⟨h1, fun E w vals hr hd => ?_⟩
  refine ((calls_congr hs hc) E w vals hr hd).mono ?_
  rintro e w' ⟨o, h', E', hk', hr', hx, hout⟩
  obtain ⟨u, rfl, hu⟩ := hk o h' hk'
  refine ⟨.ret v, h', E', ⟨v, rfl, .inl ⟨hv, SameD.rfl' _⟩⟩, hr', hx, ?_⟩
  cases e with
  | returned val => exact hu.out _ _ _ hout
  | panicked _ => exact hout.elim
  | outgrown => exact hout.elim
def bplS (hr : Int) (n : Nat) (s : Br1) : SV := .tup [.agg [.int .i64 s.tv, .int .i64 s.th, .any, .int .i64 s.he, .int .i64 hr], .agg [.int .i64 0, .int .i64 0, .int .i64 0, .int .i64 s.fv, .int .i64 s.fh, .int .i64 s.ch, .int .i64 s.ai, .int .i64 0, .int .i64 0], .int .i64 (n : Int), .int .i64 0]
def bplayBase : BaseF := fun args => match args with
  | [.agg [.int .i64 tv, .int .i64 th, .row n sz_A f_A, .int .i64 he, .int .i64 hr], .row m sz_x f_x] => some ((sz_A = 2 ∧ NestR n 2 1 2 f_A) ∧ (sz_x = 4 ∧ IntR m 4 f_x) ∧ (n = 1 ∧ (nsM 1 f_A) 0 = 0 ∧ in3 ((nsA f_A) 0 0) 1 1048576 = true ∧ BOk tv th he hr m (ivf f_x)), bplS hr m (bst hr (bs0 tv th he) (ivf f_x) m))
  | _ => none
theorem bplay_eq (tv : Int) (th : Int) (n : Nat) (sz_A : Nat) (f_A : Nat → Nat → SV) (he : Int) (hr : Int) (m : Nat) (sz_x : Nat) (f_x : Nat → Nat → SV) : bplayBase [.agg [.int .i64 tv, .int .i64 th, .row n sz_A f_A, .int .i64 he, .int .i64 hr], .row m sz_x f_x] = some ((sz_A = 2 ∧ NestR n 2 1 2 f_A) ∧ (sz_x = 4 ∧ IntR m 4 f_x) ∧ (n = 1 ∧ (nsM 1 f_A) 0 = 0 ∧ in3 ((nsA f_A) 0 0) 1 1048576 = true ∧ BOk tv th he hr m (ivf f_x)), bplS hr m (bst hr (bs0 tv th he) (ivf f_x) m)) := rfl
theorem bplay_base : Base Try.prog 18 bplayBase := by
  intro args p v hq hp
  unfold bplayBase at hq
  split at hq
  rotate_left
  · cases hq
  rename_i tv th n sz_A f_A he hr m sz_x f_x
  cases hq
  obtain ⟨⟨rfl, i_A⟩, ⟨rfl, i_x⟩, pre⟩ := hp
  refine any_calls (K := bpK ((nsA f_A) 0 0) hr m (bst hr (bs0 tv th he) (ivf f_x) m)) (g := 18) (args' := [.agg [.int .i64 tv, .int .i64 th, .row n 2 (nestF 1 2 (nsA f_A) (nsM 1 f_A) (nsV 1 f_A)), .int .i64 he, .int .i64 hr], .row m 4 (rowF .i64 (ivf f_x))]) (by
    simp only [BdL, Bd, and_self, and_true, true_and]
    exact ⟨(fun i j hi hj => nest_bd i_A i j hi hj), (fun i j hi hj => by rw [i_x i j hi hj]; trivial)⟩) ⟨SameD.agg ⟨SameD.rfl' _, SameD.rfl' _, SameD.nest i_A, SameD.rfl' _, SameD.rfl' _, trivial⟩, SameD.int i_x, trivial⟩ (by simp only [bplS, Fl, FlL, Fl1, ScL, Sc, and_self]) ?_ ?_
  · obtain ⟨rfl, p2, p3, p4⟩ := pre
    exact bplay_calls p2 p3 p4
  · rintro o h' ⟨p, rfl⟩
    exact ⟨_, rfl, SameD.tup ⟨SameD.agg ⟨SameD.rfl' _, SameD.rfl' _, ⟨fun _ _ _ _ => .any _⟩, SameD.rfl' _, SameD.rfl' _, trivial⟩, SameD.rfl' _, SameD.rfl' _, SameD.rfl' _, trivial⟩⟩
end Go.Eng
end

/- TopCold: what is in the tank behind each hour. No program in sight. -/
section
namespace Go.Eng
open Go Go.RowKit Go.Proofs
set_option maxRecDepth 100000
set_option maxHeartbeats 4000000
attribute [local irreducible] OwnT DefS
/-- The cold of an hour. -/
def coP (D : PD) (C : Nat → T3) (k : Nat) : Int := madeP D (C k) D.n
def suN (D : PD) : Nat → Int
  | 0 => 0
  | k + 1 => suN D k + D.nd k 0
def suC (D : PD) (C : Nat → T3) : Nat → Int
  | 0 => 0
  | k + 1 => suC D C k + coP D C k
/-- In each hour as much is filled in as is needed, and as much taken out as is made. -/
def evC (D : PD) (C : Nat → T3) : Nat → Nat → Int := fun a b =>
  if b = 0 then (if a % 2 = 0 then 3 else 4)
  else if b = 2 then (if a % 2 = 0 then 1 else 0)
  else if b = 3 then (if a % 2 = 0 then D.nd (a / 2) 0 else coP D C (a / 2))
  else 0
theorem evC_0 (D : PD) (C : Nat → T3) (k : Nat) : evC D C (2 * k) 0 = 3 ∧ evC D C (2 * k) 1 = 0 ∧ evC D C (2 * k) 2 = 1 ∧ evC D C (2 * k) 3 = D.nd k 0 := by
  have h1 : 2 * k % 2 = 0 := by omega
  have h2 : 2 * k / 2 = k := by omega
  simp [evC, h1, h2]
theorem evC_1 (D : PD) (C : Nat → T3) (k : Nat) : evC D C (2 * k + 1) 0 = 4 ∧ evC D C (2 * k + 1) 1 = 0 ∧ evC D C (2 * k + 1) 2 = 0 ∧ evC D C (2 * k + 1) 3 = coP D C k := by
  have h1 : (2 * k + 1) % 2 = 1 := by omega
  have h2 : (2 * k + 1) / 2 = k := by omega
  simp [evC, h1, h2]
theorem bst_two {hr : Int} {s : Br1} {D : PD} {C : Nat → T3} (k : Nat) : bst hr s (evC D C) (2 * k + 1) = ⟨(bst hr s (evC D C) (2 * k)).tv + 1, (bst hr s (evC D C) (2 * k)).th + D.nd k 0, (bst hr s (evC D C) (2 * k)).he, (bst hr s (evC D C) (2 * k)).fv + 1, (bst hr s (evC D C) (2 * k)).fh + D.nd k 0, (bst hr s (evC D C) (2 * k)).ch, (bst hr s (evC D C) (2 * k)).ai⟩ ∧
    bst hr s (evC D C) (2 * (k + 1)) = bstep hr (bst hr s (evC D C) (2 * k + 1)) (evC D C (2 * k + 1)) := by
  obtain ⟨h1, h2, h3, h4⟩ := evC_0 D C k
  constructor
  · simp only [bst, bstep, h1, h3, h4, if_true]
  · rfl
/-- The tank behind k hours. -/
structure Tnk (D : PD) (C : Nat → T3) (t0 : Int) (hr : Int) (k : Nat) (s : Br1) : Prop where
  tv : s.tv = 100 + k
  th : s.th = t0 + D.st - (plM D C k).s.sto
  fv : s.fv = k
  fh : s.fh = suN D k
  ch : s.ch = suC D C k
  ai : s.ai + s.he = suC D C k
theorem tnk {D : PD} (hD : D.Ok) {C : Nat → T3} {m : Nat} (hm : m ≤ D.h) (hc : ∀ i, i < m → chOk D (C i)) (he : (plM D C m).e = 0) {t0 hr : Int} : ∀ k, k ≤ m → Tnk D C t0 hr k (bst hr (bs0 100 t0 0) (evC D C) (2 * k))
  | 0, _ => by
    refine ⟨?_, ?_, ?_, ?_, ?_, ?_⟩ <;> simp only [Nat.mul_zero, bst, bs0, plM, begP, suN, suC] <;> omega
  | k + 1, hk => by
    obtain ⟨i1, i2, i3, i4, i5, i6⟩ := tnk hD hm hc he (t0 := t0) (hr := hr) k (by omega)
    have hn := hD.n
    obtain ⟨s1, s2, s3⟩ := plM_sto (D := D) hn.2 (plM_pre m (k + 1) hk he)
    obtain ⟨b1, b2⟩ := bst_two (hr := hr) (s := bs0 100 t0 0) (D := D) (C := C) k
    obtain ⟨h1, h2, h3, h4⟩ := evC_1 D C k
    rw [b2, b1]
    simp only [bstep, h1, h4, show ((4 : Int) = 3) = False by simp, if_false]
    have hco : coP D C k = madeP D (C k) D.n := rfl
    refine ⟨?_, ?_, ?_, ?_, ?_, ?_⟩ <;> simp only [suN, suC] <;> omega
theorem su_bd {D : PD} (hD : D.Ok) {C : Nat → T3} {m : Nat} (hm : m ≤ D.h) (hc : ∀ i, i < m → chOk D (C i)) : ∀ k, k ≤ m → (0 ≤ suN D k ∧ suN D k ≤ 300 * k) ∧ 0 ≤ suC D C k ∧ suC D C k ≤ 300 * k
  | 0, _ => by simp [suN, suC]
  | k + 1, hk => by
    have ih := su_bd hD hm hc k (by omega)
    have h1 := hD.nd k (by omega)
    have h2 := made_bnd hD (hc k (by omega)) D.n (Nat.le_refl _)
    have hn := hD.n
    have hco : coP D C k = madeP D (C k) D.n := rfl
    simp only [suN, suC]
    omega
/-- What is stored: what was, and what was made, less what was needed. -/
theorem sto_su {D : PD} (hD : D.Ok) {C : Nat → T3} : ∀ k, (plM D C k).e = 0 → (plM D C k).s.sto = D.st + suC D C k - suN D k
  | 0, _ => by simp [plM, begP, suC, suN]
  | k + 1, h => by
    have hn := hD.n
    obtain ⟨s1, _, _⟩ := plM_sto (D := D) hn.2 h
    have ih := sto_su hD k (plM_one h).1
    have hco : coP D C k = madeP D (C k) D.n := rfl
    simp only [suC, suN]
    omega
/-- All these events may be. -/
theorem bok {D : PD} (hD : D.Ok) {C : Nat → T3} {m : Nat} (hm : m ≤ D.h) (hc : ∀ i, i < m → chOk D (C i)) (he : (plM D C m).e = 0) {heat hr : Int} (hh : 0 ≤ heat ∧ heat ≤ 65535) (hr0 : 0 ≤ hr ∧ hr ≤ 4294967296) (k : Nat) (hk : k ≤ m) :
    BOk 100 (100 + heat) 0 hr (2 * k) (evC D C) := by
  have hmh := hD.h
  refine ⟨by omega, by omega, hr0, by omega, by omega, fun j hj => ?_⟩
  obtain ⟨i, hi⟩ : ∃ i, j = 2 * i ∨ j = 2 * i + 1 := ⟨j / 2, by omega⟩
  have him : i < m := by omega
  have hst := (plM_ok hD (C := C) i (by omega) (fun a ha => hc a (by omega)) (plM_pre m i (by omega) he)).1.2.1
  have hn := hD.n
  obtain ⟨s1, s2, s3⟩ := plM_sto (D := D) hn.2 (plM_pre m (i + 1) him he)
  obtain ⟨t1, t2, t3, t4, t5, t6⟩ := tnk hD hm hc he (t0 := 100 + heat) (hr := hr) i (by omega)
  have hnd := hD.nd i (by omega)
  have hmd := made_bnd hD (hc i him) D.n (Nat.le_refl _)
  have hst0 := hD.st
  have hro := hD.ro
  rcases hi with rfl | rfl
  · obtain ⟨h1, h2, h3, h4⟩ := evC_0 D C i
    rw [h1, h3, h4, t1]
    exact .inl ⟨rfl, by omega, by omega, by omega⟩
  · obtain ⟨h1, h2, h3, h4⟩ := evC_1 D C i
    have hco : coP D C i = madeP D (C i) D.n := rfl
    rw [h1, h4, (bst_two i).1]
    simp only []
    rw [t2, hco]
    exact .inr ⟨trivial, by omega, by omega⟩
theorem bst_cg {hr : Int} {s : Br1} {x y : Nat → Nat → Int} : ∀ k, (∀ j, j < k → ∀ b, b < 4 → x j b = y j b) → bst hr s x k = bst hr s y k
  | 0, _ => rfl
  | k + 1, h => by
    have ih := bst_cg (hr := hr) (s := s) k (fun j hj => h j (by omega))
    simp only [bst, bstep, ih, h k (Nat.lt_succ_self k) 0 (by omega), h k (Nat.lt_succ_self k) 2 (by omega), h k (Nat.lt_succ_self k) 3 (by omega)]
theorem BOk_cg {tv th he hr : Int} {m : Nat} {x y : Nat → Nat → Int} (h : ∀ j, j < m → ∀ b, b < 4 → x j b = y j b) (ok : BOk tv th he hr m y) : BOk tv th he hr m x := by
  obtain ⟨h1, h2, h3, h4, h5, h6⟩ := ok
  refine ⟨h1, h2, h3, h4, h5, fun j hj => ?_⟩
  rw [bst_cg j (fun a ha => h a (by omega)), h j hj 0 (by omega), h j hj 2 (by omega), h j hj 3 (by omega)]
  exact h6 j hj
/-- Events as they lie in memory. -/
theorem ev_key {D : PD} {C : Nat → T3} {k : Nat} {t0 hr : Int} {G : Nat → Nat → SV} (hG : ∀ i, i < k → ∀ j, j < 4 → G i j = .int .i64 (evC D C i j)) (ok : BOk 100 t0 0 hr k (evC D C)) :
    IntR k 4 G ∧ BOk 100 t0 0 hr k (ivf G) ∧ bst hr (bs0 100 t0 0) (ivf G) k = bst hr (bs0 100 t0 0) (evC D C) k := by
  have hi : ∀ i, i < k → ∀ j, j < 4 → ivf G i j = evC D C i j := fun i hi j hj => by
    show iv (G i j) = _
    rw [hG i hi j hj]; rfl
  exact ⟨fun i j hi' hj => by rw [hG i hi' j hj]; rfl, BOk_cg hi ok, bst_cg k hi⟩
theorem ev_cat {D : PD} {C : Nat → T3} {x : Nat} {N : Int} (hN : N = coP D C x) (i : Nat) (hi : i < 2 * x + 2) (j : Nat) (hj : j < 4) :
    catF (2 * x) (fun a b => SV.int .i64 (evC D C a b)) (cellAt [.int .i64 3, .int .i64 0, .int .i64 1, .int .i64 (D.nd x 0), .int .i64 4, .int .i64 0, .int .i64 0, .int .i64 N] 4) i j = .int .i64 (evC D C i j) := by
  subst hN
  unfold catF
  by_cases h : i < 2 * x
  · rw [if_pos h]
  · rw [if_neg h]
    obtain ⟨a1, a2, a3, a4⟩ := evC_0 D C x
    obtain ⟨b1, b2, b3, b4⟩ := evC_1 D C x
    rcases (by omega : i = 2 * x ∨ i = 2 * x + 1) with rfl | rfl
    · rw [Nat.sub_self]
      rcases (by omega : j = 0 ∨ j = 1 ∨ j = 2 ∨ j = 3) with rfl | rfl | rfl | rfl
      · rw [a1]; rfl
      · rw [a2]; rfl
      · rw [a3]; rfl
      · rw [a4]; rfl
    · rw [show 2 * x + 1 - 2 * x = 1 by omega]
      rcases (by omega : j = 0 ∨ j = 1 ∨ j = 2 ∨ j = 3) with rfl | rfl | rfl | rfl
      · rw [b1]; rfl
      · rw [b2]; rfl
      · rw [b3]; rfl
      · rw [b4]; rfl
theorem frz_int {d : Nat} {h : HS} {k : IntKind} {x : Int} {v : SV} (e : v = .int k x) : frzF (d + 1) h v = .int k x := by subst e; rfl
/-- One pipe without slugs, as it lies in memory. -/
theorem pipe_nest (d : Nat) (h : HS) : NestR 1 2 1 2 (fun _ j => frzF (d + 1) h (nth [.int .i64 10, .nils 61 2] j)) := fun i hi =>
  ⟨fun j hj hj1 => by obtain rfl : j = 0 := by omega
                      rfl, fun _ => ⟨.inl rfl, fun a b ha hb => absurd ha (by omega)⟩⟩
end Go.Eng
end
