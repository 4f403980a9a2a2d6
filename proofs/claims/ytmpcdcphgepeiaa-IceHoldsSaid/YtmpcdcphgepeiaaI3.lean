/-
  A part of the symbolic machine, of its soundness, and of what functions compute. No condition.
-/
import Derived.Test.YtmpcdcphgepeiaaI2
set_option linter.unusedSimpArgs false
set_option linter.unusedVariables false
/- Thin: both. -/
section
namespace Go.Eng
open Go Go.RowKit Go.Proofs
set_option maxRecDepth 100000
set_option maxHeartbeats 4000000
attribute [local irreducible] OwnT DefS
def thinP (z : Nat → Int) (c : Int) : Bool := decide (z 0 < z 3 + c)
def thinC (z : Nat → Nat → Int) (c : Int) : Nat → Nat
  | 0 => 0
  | i + 1 => if thinP (z i) c = true then thinC z c i + 1 else thinC z c i
def thinA (z : Nat → Nat → Int) (c : Int) : Nat → Nat → Nat → Int
  | 0 => fun _ _ => 0
  | i + 1 => if thinP (z i) c = true then (fun k j => if k < thinC z c i then thinA z c i k j else (i : Int)) else thinA z c i
theorem thinC_le (z : Nat → Nat → Int) (c : Int) : ∀ i, thinC z c i ≤ i
  | 0 => by simp [thinC]
  | i + 1 => by have := thinC_le z c i; simp only [thinC]; split <;> omega
structure TOut where
  n : Nat
  a : Nat → Nat → Int
  e : Int
def thinO (n : Nat) (z : Nat → Nat → Int) (c : Int) : TOut := if rinkB n z = true then (if in3 c 0 20000 = true then ⟨thinC z c n, thinA z c n, 0⟩ else ⟨0, fun _ _ => 0, 2⟩) else ⟨0, fun _ _ => 0, 1⟩
def tTup (o : TOut) : SV := .tup [.row o.n 1 fun i j => .int .i64 (o.a i j), .int .i64 o.e]
def thinR (n : Nat) (z : Nat → Nat → Int) (c : Int) : SV := tTup (thinO n z c)
theorem tsnoc {q : Nat} {a : Nat → Nat → Int} {i : Int} {x y : Nat} (hx : x < q + 1) (hy : y < 1) : catF q (fun i j => SV.int .i64 (a i j)) (oneF [.int .i64 i]) x y = .int .i64 (if x < q then a x y else i) := by
  unfold catF oneF
  have hy0 : y = 0 := by omega
  subst hy0
  split <;> rfl
def thinBase : BaseF := fun args => match args with
  | [.row n sz_z f_z, .int .i64 c] => some ((sz_z = 4 ∧ IntR n 4 f_z), thinR n (fun i j => iv (f_z i j)) c)
  | _ => none
theorem thin_eq (n : Nat) (z : Nat → Nat → Int) (c : Int) : thinBase [.row n 4 (fun i j => .int .i64 (z i j)), .int .i64 c] = some ((4 = 4 ∧ IntR n 4 (fun i j => .int .i64 (z i j))), thinR n z c) := rfl
theorem thin_base : BaseO Try.prog 29 3 thinBase := by
  intro args p v hq hp
  unfold thinBase at hq
  split at hq
  rotate_left
  · cases hq
  rename_i n sz_z f_z c
  cases hq
  obtain ⟨rfl, i_z⟩ := hp
  refine baseO_of (C := cx [] [] [(37, rinkBase), (39, inBase)] [] none) (cx_ok trivial ⟨isRink_base, in2_base, trivial⟩) rfl (g := 29) (fn := Try.f29)
    (args' := [.row n 4 (rowF .i64 (fun i j => iv (f_z i j))), .int .i64 c]) (fn_29) rfl 1000 (by simp only [BdL, Bd, and_self, and_true, true_and]; exact fun i j hi hj => by rw [i_z i j hi hj]; trivial) ⟨SameD.int i_z, SameD.rfl' _, trivial⟩ ?_
  generalize (fun i j => iv (f_z i j)) = z
  simp only [rowF_eq]
  simp only [rink_eq, in_eq, Try.f29, go_sem, ↓reduceIte, Nat.reduceAdd, Nat.reduceSub, Nat.reduceMul, Nat.reduceEqDiff, Nat.reduceLT, Nat.reduceLeDiff, Int.reduceToNat, Int.reduceLE, Int.reduceLT, Int.reduceEq, Int.reduceNeg, reduceCtorEq]
  refine ⟨fun c1 => ?_, fun c1 => ⟨fun c2 => ?_, fun c2 => ?_⟩⟩
  · simp at c1
    rw [show thinR n z c = tTup ⟨0, fun _ _ => 0, 1⟩ by simp [thinR, thinO, c1]]
    simp only [tTup, go_sem, ↓reduceIte, Nat.reduceAdd, Nat.reduceSub, Nat.reduceMul, Nat.reduceEqDiff, Nat.reduceLT, Nat.reduceLeDiff, Int.reduceToNat, Int.reduceLE, Int.reduceLT, Int.reduceEq, Int.reduceNeg, reduceCtorEq]
    simp
  · simp at c1 c2
    rw [show thinR n z c = tTup ⟨0, fun _ _ => 0, 2⟩ by simp [thinR, thinO, c1, c2]]
    simp only [tTup, go_sem, ↓reduceIte, Nat.reduceAdd, Nat.reduceSub, Nat.reduceMul, Nat.reduceEqDiff, Nat.reduceLT, Nat.reduceLeDiff, Int.reduceToNat, Int.reduceLE, Int.reduceLT, Int.reduceEq, Int.reduceNeg, reduceCtorEq]
    simp
  simp at c1 c2
  have hb := rinkB_iff.1 c1
  have hc := in3_iff.1 c2
  rw [show thinR n z c = tTup ⟨thinC z c n, thinA z c n, 0⟩ by simp [thinR, thinO, c1, c2]]
  refine loop_of { i : Nat // i ≤ n } (fun i => [(19, .int .i64 (i.1 : Int)), (18, .int .i64 (n : Int)), (17, .row n 4 fun i j => .int .i64 (z i j)), (6, .vec 1 (thinC z c i.1)), (1, .int .i64 c)])
    (fun i => ⟨[], [.dead, .live (thinC z c i.1) 3 1 (thinC z c i.1) fun k j => .int .i64 (thinA z c i.1 k j)]⟩) (fun i => n - i.1) (fun _ => ⟨rfl, rfl⟩) ⟨0, by omega⟩ (by apply sub_of <;> simp only [thinC, go_sem, ↓reduceIte, Nat.reduceAdd, Nat.reduceSub, Nat.reduceMul, Nat.reduceEqDiff, Nat.reduceLT, Nat.reduceLeDiff, Int.reduceToNat, Int.reduceLE, Int.reduceLT, Int.reduceEq, Int.reduceNeg, reduceCtorEq] <;> (try simp [catF])) ?_
  rintro ⟨i, hi⟩
  simp only [rink_eq, in_eq, Try.f29, go_sem, ↓reduceIte, Nat.reduceAdd, Nat.reduceSub, Nat.reduceMul, Nat.reduceEqDiff, Nat.reduceLT, Nat.reduceLeDiff, Int.reduceToNat, Int.reduceLE, Int.reduceLT, Int.reduceEq, Int.reduceNeg, reduceCtorEq]
  have hle := thinC_le z c i
  refine ⟨fun d1 => ?_, fun d1 => ?_⟩
  · simp only [decide_eq_true_eq] at d1
    have hok := okZ_iff.1 (hb.2 i (by omega))
    have hw2 : IntKind.i64.wrap ((i : Int) + 1) = ((i + 1 : Nat) : Int) := by rw [wrap_id (by omega) (by omega)]; omega
    repeat' (first | refine And.intro ?_ ?_ | intro _)
    all_goals try (first | (show planOk _ _ = true; kernel_rfl) | (show keepOk _ _ = true; kernel_rfl) | exact True.intro)
    all_goals try omega
    · rename_i d2
      simp only [decide_eq_true_eq] at d2
      rw [wrap_id (by omega) (by omega)] at d2
      have hp : thinP (z i) c = true := by simp [thinP]; omega
      refine ⟨⟨i + 1, by omega⟩, by simp only []; omega, ?_⟩
      apply sub_of <;> simp only [hw2, thinC, thinA, hp, go_sem, ↓reduceIte, Nat.reduceAdd, Nat.reduceSub, Nat.reduceMul, Nat.reduceEqDiff, Nat.reduceLT, Nat.reduceLeDiff, Int.reduceToNat, Int.reduceLE, Int.reduceLT, Int.reduceEq, Int.reduceNeg, reduceCtorEq] <;> (try simp)
      exact fun a ha => tsnoc ha (by omega)
    · rename_i d2
      simp only [decide_eq_false_iff_not] at d2
      rw [wrap_id (by omega) (by omega)] at d2
      have hp : thinP (z i) c = false := by simp [thinP]; omega
      refine ⟨⟨i + 1, by omega⟩, by simp only []; omega, ?_⟩
      apply sub_of <;> simp only [hw2, thinC, thinA, hp, Bool.false_eq_true, go_sem, ↓reduceIte, Nat.reduceAdd, Nat.reduceSub, Nat.reduceMul, Nat.reduceEqDiff, Nat.reduceLT, Nat.reduceLeDiff, Int.reduceToNat, Int.reduceLE, Int.reduceLT, Int.reduceEq, Int.reduceNeg, reduceCtorEq] <;> (try simp)
  · simp only [decide_eq_false_iff_not] at d1
    have e : i = n := by omega
    subst e
    simp only [tTup, go_sem, ↓reduceIte, Nat.reduceAdd, Nat.reduceSub, Nat.reduceMul, Nat.reduceEqDiff, Nat.reduceLT, Nat.reduceLeDiff, Int.reduceToNat, Int.reduceLE, Int.reduceLT, Int.reduceEq, Int.reduceNeg, reduceCtorEq]
    simp
def rthinBase : BaseF := fun args => match args with
  | [.row n sz_z f_z, .int .i64 c] => some ((sz_z = 4 ∧ IntR n 4 f_z), thinR n (fun i j => iv (f_z i j)) c)
  | _ => none
theorem rthin_eq (n : Nat) (z : Nat → Nat → Int) (c : Int) : rthinBase [.row n 4 (fun i j => .int .i64 (z i j)), .int .i64 c] = some ((4 = 4 ∧ IntR n 4 (fun i j => .int .i64 (z i j))), thinR n z c) := rfl
theorem rthin_base : BaseO Try.prog 30 3 rthinBase := by
  intro args p v hq hp
  unfold rthinBase at hq
  split at hq
  rotate_left
  · cases hq
  rename_i n sz_z f_z c
  cases hq
  obtain ⟨rfl, i_z⟩ := hp
  refine baseO_of (C := cx [] [] [(16, rinkBase), (49, inBase)] [(30, 9, p30_9)] none) (cx_ok trivial ⟨rink_base, in_base, trivial⟩) rfl (g := 30) (fn := Try.f30)
    (args' := [.row n 4 (rowF .i64 (fun i j => iv (f_z i j))), .int .i64 c]) (fn_30) rfl 1000 (by simp only [BdL, Bd, and_self, and_true, true_and]; exact fun i j hi hj => by rw [i_z i j hi hj]; trivial) ⟨SameD.int i_z, SameD.rfl' _, trivial⟩ ?_
  generalize (fun i j => iv (f_z i j)) = z
  simp only [rowF_eq]
  simp only [rink_eq, in_eq, p30_9, Try.f30, go_sem, ↓reduceIte, Nat.reduceAdd, Nat.reduceSub, Nat.reduceMul, Nat.reduceEqDiff, Nat.reduceLT, Nat.reduceLeDiff, Int.reduceToNat, Int.reduceLE, Int.reduceLT, Int.reduceEq, Int.reduceNeg, reduceCtorEq]
  refine ⟨fun c1 => ?_, fun c1 => ⟨fun c2 => ?_, fun c2 => ?_⟩⟩
  · simp at c1
    rw [show thinR n z c = tTup ⟨0, fun _ _ => 0, 1⟩ by simp [thinR, thinO, c1]]
    simp only [tTup, go_sem, ↓reduceIte, Nat.reduceAdd, Nat.reduceSub, Nat.reduceMul, Nat.reduceEqDiff, Nat.reduceLT, Nat.reduceLeDiff, Int.reduceToNat, Int.reduceLE, Int.reduceLT, Int.reduceEq, Int.reduceNeg, reduceCtorEq]
    simp
  · simp at c1 c2
    rw [show thinR n z c = tTup ⟨0, fun _ _ => 0, 2⟩ by simp [thinR, thinO, c1, c2]]
    simp only [tTup, go_sem, ↓reduceIte, Nat.reduceAdd, Nat.reduceSub, Nat.reduceMul, Nat.reduceEqDiff, Nat.reduceLT, Nat.reduceLeDiff, Int.reduceToNat, Int.reduceLE, Int.reduceLT, Int.reduceEq, Int.reduceNeg, reduceCtorEq]
    simp
  simp at c1 c2
  have hb := rinkB_iff.1 c1
  have hc := in3_iff.1 c2
  rw [show thinR n z c = tTup ⟨thinC z c n, thinA z c n, 0⟩ by simp [thinR, thinO, c1, c2]]
  refine loop_of { i : Nat // i ≤ n } (fun i => [(7, .int .i64 (i.1 : Int)), (6, .vec 1 (thinC z c i.1)), (1, .int .i64 c), (0, .row n 4 fun i j => .int .i64 (z i j))])
    (fun i => ⟨[], [.dead, .live (thinC z c i.1) 3 1 (thinC z c i.1) fun k j => .int .i64 (thinA z c i.1 k j)]⟩) (fun i => n - i.1) (fun _ => ⟨rfl, rfl⟩) ⟨0, by omega⟩ (by apply sub_of <;> simp only [thinC, go_sem, ↓reduceIte, Nat.reduceAdd, Nat.reduceSub, Nat.reduceMul, Nat.reduceEqDiff, Nat.reduceLT, Nat.reduceLeDiff, Int.reduceToNat, Int.reduceLE, Int.reduceLT, Int.reduceEq, Int.reduceNeg, reduceCtorEq] <;> (try simp [catF])) ?_
  rintro ⟨i, hi⟩
  simp only [rink_eq, in_eq, p30_9, Try.f30, go_sem, ↓reduceIte, Nat.reduceAdd, Nat.reduceSub, Nat.reduceMul, Nat.reduceEqDiff, Nat.reduceLT, Nat.reduceLeDiff, Int.reduceToNat, Int.reduceLE, Int.reduceLT, Int.reduceEq, Int.reduceNeg, reduceCtorEq]
  have hle := thinC_le z c i
  refine ⟨fun d1 => ?_, fun d1 => ?_⟩
  · simp only [decide_eq_true_eq] at d1
    have hok := okZ_iff.1 (hb.2 i (by omega))
    have hw2 : IntKind.i64.wrap ((i : Int) + 1) = ((i + 1 : Nat) : Int) := by rw [wrap_id (by omega) (by omega)]; omega
    repeat' (first | refine And.intro ?_ ?_ | intro _)
    all_goals try (first | (show planOk _ _ = true; kernel_rfl) | (show keepOk _ _ = true; kernel_rfl) | exact True.intro)
    all_goals try omega
    · rename_i d2
      simp only [decide_eq_true_eq] at d2
      rw [wrap_id (by omega) (by omega)] at d2
      have hp : thinP (z i) c = true := by simp [thinP]; omega
      refine ⟨⟨i + 1, by omega⟩, by simp only []; omega, ?_⟩
      apply sub_of <;> simp only [hw2, thinC, thinA, hp, go_sem, ↓reduceIte, Nat.reduceAdd, Nat.reduceSub, Nat.reduceMul, Nat.reduceEqDiff, Nat.reduceLT, Nat.reduceLeDiff, Int.reduceToNat, Int.reduceLE, Int.reduceLT, Int.reduceEq, Int.reduceNeg, reduceCtorEq] <;> (try simp)
      exact fun a ha => tsnoc ha (by omega)
    · rename_i d2
      simp only [decide_eq_false_iff_not] at d2
      rw [wrap_id (by omega) (by omega)] at d2
      have hp : thinP (z i) c = false := by simp [thinP]; omega
      refine ⟨⟨i + 1, by omega⟩, by simp only []; omega, ?_⟩
      apply sub_of <;> simp only [hw2, thinC, thinA, hp, Bool.false_eq_true, go_sem, ↓reduceIte, Nat.reduceAdd, Nat.reduceSub, Nat.reduceMul, Nat.reduceEqDiff, Nat.reduceLT, Nat.reduceLeDiff, Int.reduceToNat, Int.reduceLE, Int.reduceLT, Int.reduceEq, Int.reduceNeg, reduceCtorEq] <;> (try simp)
  · simp only [decide_eq_false_iff_not] at d1
    have e : i = n := by omega
    subst e
    simp only [tTup, go_sem, ↓reduceIte, Nat.reduceAdd, Nat.reduceSub, Nat.reduceMul, Nat.reduceEqDiff, Nat.reduceLT, Nat.reduceLeDiff, Int.reduceToNat, Int.reduceLE, Int.reduceLT, Int.reduceEq, Int.reduceNeg, reduceCtorEq]
    simp
theorem thin_at (n : Nat) (z : Nat → Nat → Int) (c : Int) : thinBase [.row n 4 (fun i j => .int .i64 (z i j)), .int .i64 c] = some (4 = 4 ∧ IntR n 4 (fun i j => .int .i64 (z i j)), tTup (thinO n z c)) := rfl
theorem rthin_at (n : Nat) (z : Nat → Nat → Int) (c : Int) : rthinBase [.row n 4 (fun i j => .int .i64 (z i j)), .int .i64 c] = some (4 = 4 ∧ IntR n 4 (fun i j => .int .i64 (z i j)), tTup (thinO n z c)) := rfl
def manyB (m : Int) (most : Int) : Bool := (decide (most < m) && decide (m ≤ 256)) || decide (261 < m)
def manyBase : BaseF := fun args => match args with
  | [.row m sz_l f_l, .int .i64 most] => some ((sz_l = 5 ∧ IntR m 5 f_l), .bool (manyB m most))
  | _ => none
theorem many_eq (m : Nat) (l : Nat → Nat → Int) (most : Int) : manyBase [.row m 5 (fun i j => .int .i64 (l i j)), .int .i64 most] = some ((5 = 5 ∧ IntR m 5 (fun i j => .int .i64 (l i j))), .bool (manyB m most)) := rfl
theorem many_base : Base Try.prog 27 manyBase := by
  intro args p v hq hp
  unfold manyBase at hq
  split at hq
  rotate_left
  · cases hq
  rename_i m sz_l f_l most
  cases hq
  obtain ⟨rfl, i_l⟩ := hp
  refine base_of (C := cx [] [] [] [] none) (cx_ok trivial trivial) rfl (g := 27) (fn := Try.f27)
    (args' := [.row m 5 (rowF .i64 (fun i j => iv (f_l i j))), .int .i64 most]) (fn_27) rfl 1000 (by simp only [BdL, Bd, and_self, and_true, true_and]; exact fun i j hi hj => by rw [i_l i j hi hj]; trivial) ⟨SameD.int i_l, SameD.rfl' _, trivial⟩ ?_
  generalize (fun i j => iv (f_l i j)) = l
  simp only [rowF_eq]
  simp only [Try.f27, go_sem, ↓reduceIte, Nat.reduceAdd, Nat.reduceSub, Nat.reduceMul, Nat.reduceEqDiff, Nat.reduceLT, Nat.reduceLeDiff, Int.reduceToNat, Int.reduceLE, Int.reduceLT, Int.reduceEq, Int.reduceNeg, reduceCtorEq]
  have e : ∀ b : Bool, b = manyB m most → SV.bool b = SV.bool (manyB m most) := fun b h => by rw [h]
  repeat' (first | refine And.intro ?_ ?_ | intro _)
  all_goals (apply e; unfold manyB; simp only [decide_eq_true_eq, decide_eq_false_iff_not] at *; rw [Bool.eq_iff_iff]; simp; try omega)
end Go.Eng
end

/- IcePlays: its call returns true. -/
section
namespace Go.Eng
open Go Go.RowKit Go.Proofs
set_option maxRecDepth 100000
set_option maxHeartbeats 4000000
attribute [local irreducible] OwnT DefS
theorem playT_n (n m : Nat) (z l : Nat → Nat → Int) : (playT n m z l).n ≤ 24 := by
  unfold playT
  split
  · rename_i h
    have := (rinkB_iff.1 h).1.2
    split
    · unfold playO
      cases evRun (n : Int) l m 0 ⟨z, fun _ => 0⟩ with
      | inl x => simp [pRes, pErr]
      | inr y => simpa [pRes] using this
    · simp [pErr]
  · simp [pErr]
theorem thinO_n (n : Nat) (z : Nat → Nat → Int) (c : Int) : (thinO n z c).n ≤ 24 := by
  unfold thinO
  split
  · rename_i h
    have := (rinkB_iff.1 h).1.2
    have := thinC_le z c n
    split <;> simp <;> omega
  · simp
theorem sameB_self (n : Nat) (a : Nat → Nat → Int) : sameB n n a a = true := by
  simp only [sameB, decide_true, Bool.true_and]
  exact allU_iff.2 fun i _ => by simp [same1]
theorem intsB_self (n : Nat) (a : Nat → Nat → Int) : intsB n n a a = true := by
  simp only [intsB, decide_true, Bool.true_and]
  exact allU_iff.2 fun i _ => by simp
def icePlaysBase : BaseF := fun args => match args with
  | [.row n sz_z f_z, .row m sz_l f_l, .int .i64 c] => some ((sz_z = 4 ∧ IntR n 4 f_z) ∧ (sz_l = 5 ∧ IntR m 5 f_l), .bool true)
  | _ => none
theorem icePlays_eq (n : Nat) (z : Nat → Nat → Int) (m : Nat) (l : Nat → Nat → Int) (c : Int) : icePlaysBase [.row n 4 (fun i j => .int .i64 (z i j)), .row m 5 (fun i j => .int .i64 (l i j)), .int .i64 c] = some ((4 = 4 ∧ IntR n 4 (fun i j => .int .i64 (z i j))) ∧ (5 = 5 ∧ IntR m 5 (fun i j => .int .i64 (l i j))), .bool true) := rfl
theorem icePlays_base : Base Try.prog 8 icePlaysBase := by
  intro args p v hq hp
  unfold icePlaysBase at hq
  split at hq
  rotate_left
  · cases hq
  rename_i n sz_z f_z m sz_l f_l c
  cases hq
  obtain ⟨⟨rfl, i_z⟩, ⟨rfl, i_l⟩⟩ := hp
  refine base_of (C := cx [] [(19, 37, playBase), (28, 37, tplayBase), (29, 3, thinBase), (30, 3, rthinBase)] [(27, manyBase), (13, aliveBase), (25, sameBase), (31, intsBase)] [] none) (cx_ok ⟨play_base, tplay_base, thin_base, rthin_base, trivial⟩ ⟨many_base, alive_base, same_base, ints_base, trivial⟩) rfl (g := 8) (fn := Try.f8)
    (args' := [.row n 4 (rowF .i64 (fun i j => iv (f_z i j))), .row m 5 (rowF .i64 (fun i j => iv (f_l i j))), .int .i64 c]) (fn_8) rfl 1000 (by simp only [BdL, Bd, and_self, and_true, true_and]; exact ⟨fun i j hi hj => by rw [i_z i j hi hj]; trivial, fun i j hi hj => by rw [i_l i j hi hj]; trivial⟩) ⟨SameD.int i_z, SameD.int i_l, SameD.rfl' _, trivial⟩ ?_
  generalize (fun i j => iv (f_z i j)) = z
  generalize (fun i j => iv (f_l i j)) = l
  simp only [rowF_eq]
  simp only [many_eq, alive_eq, same_eq, ints_eq, play_at, tplay_at, thin_at, rthin_at, pTup, tTup, sameB_self, intsB_self, Try.f8, go_sem, ↓reduceIte, Nat.reduceAdd, Nat.reduceSub, Nat.reduceMul, Nat.reduceEqDiff, Nat.reduceLT, Nat.reduceLeDiff, Int.reduceToNat, Int.reduceLE, Int.reduceLT, Int.reduceEq, Int.reduceNeg, reduceCtorEq]
  exact ⟨fun _ => trivial, fun _ => ⟨fun _ => trivial, fun _ => ⟨by have := playT_n n m z l; omega, by have := thinO_n n z c; omega⟩⟩⟩
end Go.Eng
end
