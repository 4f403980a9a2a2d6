/-
  A part of the symbolic machine, of its soundness, and of what functions compute. No condition.
-/
import Derived.Test.YtnomakoomapdbaaA1
set_option linter.unusedSimpArgs false
set_option linter.unusedVariables false
/- air: Run. -/
section
namespace Go.Eng
open Go Go.RowKit Go.Proofs
set_option maxRecDepth 100000
set_option maxHeartbeats 4000000
attribute [local irreducible] OwnT DefS
def of1Base : BaseF := fun args => match args with
  | [.agg [.func g [], .int .i64 w, .int .i64 ca, .int .i64 ou, .int .i64 dr, .int .i64 de]] => some (True, .int .i64 ca)
  | _ => none
theorem of1_eq (g : Nat) (w : Int) (ca : Int) (ou : Int) (dr : Int) (de : Int) : of1Base [.agg [.func g [], .int .i64 w, .int .i64 ca, .int .i64 ou, .int .i64 dr, .int .i64 de]] = some (True, .int .i64 ca) := rfl
theorem of1_base : Base Try.prog 39 of1Base := by
  intro args p v hq hp
  unfold of1Base at hq
  split at hq
  rotate_left
  · cases hq
  rename_i g w ca ou dr de
  cases hq
  refine base_of (C := cx [] [] [] [] none) (cx_ok trivial trivial) rfl (g := 39) (fn := Try.f39)
    (args' := [.agg [.func g [], .int .i64 w, .int .i64 ca, .int .i64 ou, .int .i64 dr, .int .i64 de]]) (fn_39) rfl 1000 (by simp only [BdL, Bd, and_self, and_true, true_and]) ⟨SameD.agg ⟨SameD.rfl' _, SameD.rfl' _, SameD.rfl' _, SameD.rfl' _, SameD.rfl' _, SameD.rfl' _, trivial⟩, trivial⟩ ?_
  simp only [Try.f39, go_sem, ↓reduceIte, Nat.reduceAdd, Nat.reduceSub, Nat.reduceMul, Nat.reduceEqDiff, Nat.reduceLT, Nat.reduceLeDiff, Int.reduceToNat, Int.reduceLE, Int.reduceLT, Int.reduceEq, Int.reduceNeg, reduceCtorEq]
def of2Base : BaseF := fun args => match args with
  | [.agg [.func g [], .int .i64 w, .int .i64 ca, .int .i64 ou, .int .i64 dr, .int .i64 de]] => some (True, .int .i64 ou)
  | _ => none
theorem of2_eq (g : Nat) (w : Int) (ca : Int) (ou : Int) (dr : Int) (de : Int) : of2Base [.agg [.func g [], .int .i64 w, .int .i64 ca, .int .i64 ou, .int .i64 dr, .int .i64 de]] = some (True, .int .i64 ou) := rfl
theorem of2_base : Base Try.prog 40 of2Base := by
  intro args p v hq hp
  unfold of2Base at hq
  split at hq
  rotate_left
  · cases hq
  rename_i g w ca ou dr de
  cases hq
  refine base_of (C := cx [] [] [] [] none) (cx_ok trivial trivial) rfl (g := 40) (fn := Try.f40)
    (args' := [.agg [.func g [], .int .i64 w, .int .i64 ca, .int .i64 ou, .int .i64 dr, .int .i64 de]]) (fn_40) rfl 1000 (by simp only [BdL, Bd, and_self, and_true, true_and]) ⟨SameD.agg ⟨SameD.rfl' _, SameD.rfl' _, SameD.rfl' _, SameD.rfl' _, SameD.rfl' _, SameD.rfl' _, trivial⟩, trivial⟩ ?_
  simp only [Try.f40, go_sem, ↓reduceIte, Nat.reduceAdd, Nat.reduceSub, Nat.reduceMul, Nat.reduceEqDiff, Nat.reduceLT, Nat.reduceLeDiff, Int.reduceToNat, Int.reduceLE, Int.reduceLT, Int.reduceEq, Int.reduceNeg, reduceCtorEq]
def of3Base : BaseF := fun args => match args with
  | [.agg [.func g [], .int .i64 w, .int .i64 ca, .int .i64 ou, .int .i64 dr, .int .i64 de]] => some (True, .int .i64 dr)
  | _ => none
theorem of3_eq (g : Nat) (w : Int) (ca : Int) (ou : Int) (dr : Int) (de : Int) : of3Base [.agg [.func g [], .int .i64 w, .int .i64 ca, .int .i64 ou, .int .i64 dr, .int .i64 de]] = some (True, .int .i64 dr) := rfl
theorem of3_base : Base Try.prog 41 of3Base := by
  intro args p v hq hp
  unfold of3Base at hq
  split at hq
  rotate_left
  · cases hq
  rename_i g w ca ou dr de
  cases hq
  refine base_of (C := cx [] [] [] [] none) (cx_ok trivial trivial) rfl (g := 41) (fn := Try.f41)
    (args' := [.agg [.func g [], .int .i64 w, .int .i64 ca, .int .i64 ou, .int .i64 dr, .int .i64 de]]) (fn_41) rfl 1000 (by simp only [BdL, Bd, and_self, and_true, true_and]) ⟨SameD.agg ⟨SameD.rfl' _, SameD.rfl' _, SameD.rfl' _, SameD.rfl' _, SameD.rfl' _, SameD.rfl' _, trivial⟩, trivial⟩ ?_
  simp only [Try.f41, go_sem, ↓reduceIte, Nat.reduceAdd, Nat.reduceSub, Nat.reduceMul, Nat.reduceEqDiff, Nat.reduceLT, Nat.reduceLeDiff, Int.reduceToNat, Int.reduceLE, Int.reduceLT, Int.reduceEq, Int.reduceNeg, reduceCtorEq]
def of4Base : BaseF := fun args => match args with
  | [.agg [.func g [], .int .i64 w, .int .i64 ca, .int .i64 ou, .int .i64 dr, .int .i64 de]] => some (True, .int .i64 de)
  | _ => none
theorem of4_eq (g : Nat) (w : Int) (ca : Int) (ou : Int) (dr : Int) (de : Int) : of4Base [.agg [.func g [], .int .i64 w, .int .i64 ca, .int .i64 ou, .int .i64 dr, .int .i64 de]] = some (True, .int .i64 de) := rfl
theorem of4_base : Base Try.prog 42 of4Base := by
  intro args p v hq hp
  unfold of4Base at hq
  split at hq
  rotate_left
  · cases hq
  rename_i g w ca ou dr de
  cases hq
  refine base_of (C := cx [] [] [] [] none) (cx_ok trivial trivial) rfl (g := 42) (fn := Try.f42)
    (args' := [.agg [.func g [], .int .i64 w, .int .i64 ca, .int .i64 ou, .int .i64 dr, .int .i64 de]]) (fn_42) rfl 1000 (by simp only [BdL, Bd, and_self, and_true, true_and]) ⟨SameD.agg ⟨SameD.rfl' _, SameD.rfl' _, SameD.rfl' _, SameD.rfl' _, SameD.rfl' _, SameD.rfl' _, trivial⟩, trivial⟩ ?_
  simp only [Try.f42, go_sem, ↓reduceIte, Nat.reduceAdd, Nat.reduceSub, Nat.reduceMul, Nat.reduceEqDiff, Nat.reduceLT, Nat.reduceLeDiff, Int.reduceToNat, Int.reduceLE, Int.reduceLT, Int.reduceEq, Int.reduceNeg, reduceCtorEq]
def of5Base : BaseF := fun args => match args with
  | [.agg [.func g [], .int .i64 w, .int .i64 ca, .int .i64 ou, .int .i64 dr, .int .i64 de]] => some (True, .int .i64 w)
  | _ => none
theorem of5_eq (g : Nat) (w : Int) (ca : Int) (ou : Int) (dr : Int) (de : Int) : of5Base [.agg [.func g [], .int .i64 w, .int .i64 ca, .int .i64 ou, .int .i64 dr, .int .i64 de]] = some (True, .int .i64 w) := rfl
theorem of5_base : Base Try.prog 43 of5Base := by
  intro args p v hq hp
  unfold of5Base at hq
  split at hq
  rotate_left
  · cases hq
  rename_i g w ca ou dr de
  cases hq
  refine base_of (C := cx [] [] [] [] none) (cx_ok trivial trivial) rfl (g := 43) (fn := Try.f43)
    (args' := [.agg [.func g [], .int .i64 w, .int .i64 ca, .int .i64 ou, .int .i64 dr, .int .i64 de]]) (fn_43) rfl 1000 (by simp only [BdL, Bd, and_self, and_true, true_and]) ⟨SameD.agg ⟨SameD.rfl' _, SameD.rfl' _, SameD.rfl' _, SameD.rfl' _, SameD.rfl' _, SameD.rfl' _, trivial⟩, trivial⟩ ?_
  simp only [Try.f43, go_sem, ↓reduceIte, Nat.reduceAdd, Nat.reduceSub, Nat.reduceMul, Nat.reduceEqDiff, Nat.reduceLT, Nat.reduceLeDiff, Int.reduceToNat, Int.reduceLE, Int.reduceLT, Int.reduceEq, Int.reduceNeg, reduceCtorEq]
def runRBase : BaseF := fun args => match args with
  | [.agg [.int .i64 R, .row n sz_T f_T, .row m sz_H f_H, .int .i64 bl, .int .i64 bh], .agg [.int .i64 wl, .int .i64 wh], .row k sz_l f_l] => some ((sz_T = 1 ∧ IntR n 1 f_T) ∧ (sz_H = 1 ∧ IntR m 1 f_H) ∧ (sz_l = 8 ∧ IntR k 8 f_l), rTup (airRun R n m (ivf f_T) (ivf f_H) bl bh wl wh k (ivf f_l)))
  | _ => none
theorem runR_eq (R : Int) (n : Nat) (sz_T : Nat) (f_T : Nat → Nat → SV) (m : Nat) (sz_H : Nat) (f_H : Nat → Nat → SV) (bl : Int) (bh : Int) (wl : Int) (wh : Int) (k : Nat) (sz_l : Nat) (f_l : Nat → Nat → SV) : runRBase [.agg [.int .i64 R, .row n sz_T f_T, .row m sz_H f_H, .int .i64 bl, .int .i64 bh], .agg [.int .i64 wl, .int .i64 wh], .row k sz_l f_l] = some ((sz_T = 1 ∧ IntR n 1 f_T) ∧ (sz_H = 1 ∧ IntR m 1 f_H) ∧ (sz_l = 8 ∧ IntR k 8 f_l), rTup (airRun R n m (ivf f_T) (ivf f_H) bl bh wl wh k (ivf f_l))) := rfl
theorem runR_base : Base Try.prog 14 runRBase := by
  intro args p v hq hp
  unfold runRBase at hq
  split at hq
  rotate_left
  · cases hq
  rename_i R n sz_T f_T m sz_H f_H bl bh wl wh k sz_l f_l
  cases hq
  obtain ⟨⟨rfl, i_T⟩, ⟨rfl, i_H⟩, ⟨rfl, i_l⟩⟩ := hp
  refine base_of (C := cx [] [] [(21, validBase), (44, leastSBase), (45, greatSBase), (46, plus3Base)] [(14, 3, p14_3), (14, 7, p14_7), (14, 9, p14_9), (14, 10, p14_10)] none) (cx_ok trivial ⟨valid_base, leastS_base, greatS_base, plus3_base, trivial⟩) rfl (g := 14) (fn := Try.f14)
    (args' := [.agg [.int .i64 R, .row n 1 (rowF .i64 (ivf f_T)), .row m 1 (rowF .i64 (ivf f_H)), .int .i64 bl, .int .i64 bh], .agg [.int .i64 wl, .int .i64 wh], .row k 8 (rowF .i64 (ivf f_l))]) (fn_14) rfl 1000 (by
    simp only [BdL, Bd, and_self, and_true, true_and]
    exact ⟨⟨(fun i j hi hj => by rw [i_T i j hi hj]; trivial), (fun i j hi hj => by rw [i_H i j hi hj]; trivial)⟩, (fun i j hi hj => by rw [i_l i j hi hj]; trivial)⟩) ⟨SameD.agg ⟨SameD.rfl' _, SameD.int i_T, SameD.int i_H, SameD.rfl' _, SameD.rfl' _, trivial⟩, SameD.rfl' _, SameD.int i_l, trivial⟩ ?_
  generalize ivf f_T = T
  generalize ivf f_H = H
  generalize ivf f_l = l
  simp only [rowF_eq]
  simp only [valid_eq, leastS_eq, greatS_eq, plus3_eq, p14_3, p14_7, p14_9, p14_10, rTup, flwA, Try.f14, go_sem, ↓reduceIte, Nat.reduceAdd, Nat.reduceSub, Nat.reduceMul, Nat.reduceEqDiff, Nat.reduceLT, Nat.reduceLeDiff, Int.reduceToNat, Int.reduceLE, Int.reduceLT, Int.reduceEq, Int.reduceNeg, reduceCtorEq]
  refine ⟨fun c1 => ⟨⟨by kernel_rfl, by kernel_rfl⟩, ?_⟩, fun c1 => ?_⟩
  · simp only [Bool.not_eq_true'] at c1; simp [airRun, c1]
  simp only [Bool.not_eq_false'] at c1
  obtain ⟨v1, v2, v3, v4⟩ := valid_iff.1 c1
  have hA := (airB_iff.1 v1).1
  have hlo := fun i (hi : i ≤ k) => atL_bd v1 v4 (w := wl) (by omega) i hi
  have hhi := fun i (hi : i ≤ k) => atH_bd v1 v4 (w := wh) (by omega) i hi
  have hout : airRun R n m T H bl bh wl wh k l = ⟨atL R n T H bl l wl k, atH R n T H bh l wh k, 0⟩ := by simp [airRun, c1]
  rw [hout]
  refine loop_ofH { i : Nat // i ≤ k } (fun i => [(10, .int .i64 (i.1 : Int)), (9, .ptr 4 0), (8, .int .i64 0), (7, .ptr 3 0), (6, .ptr 2 0), (4, .ptr 1 0), (3, .ptr 0 0), (2, .row k 8 fun i j => .int .i64 (l i j))])
    (fun h i => ⟨[getB h.blks 0, .live 24 [.int .i64 (atL R n T H bl l wl i.1).w, .int .i64 (atH R n T H bh l wh i.1).w], getB h.blks 2, getB h.blks 3, .live 34 [.int .i64 (atL R n T H bl l wl i.1).ca, .int .i64 (atH R n T H bh l wh i.1).ca, .int .i64 (atL R n T H bl l wl i.1).ou, .int .i64 (atH R n T H bh l wh i.1).ou, .int .i64 (atL R n T H bl l wl i.1).dr, .int .i64 (atH R n T H bh l wh i.1).dr, .int .i64 (atL R n T H bl l wl i.1).de, .int .i64 (atH R n T H bh l wh i.1).de]], []⟩) (fun i => k - i.1) (fun _ => ⟨rfl, rfl⟩) ⟨0, by omega⟩ (by apply sub_of <;> simp only [go_sem, ↓reduceIte, Nat.reduceAdd, Nat.reduceSub, Nat.reduceMul, Nat.reduceEqDiff, Nat.reduceLT, Nat.reduceLeDiff, Int.reduceToNat, Int.reduceLE, Int.reduceLT, Int.reduceEq, Int.reduceNeg, reduceCtorEq] <;> (try simp [atL, atH]) <;> (try simp) <;> (try exact fun j _ => Bd_nth (by simp [BdL, Bd]) j) <;> (try exact bd_setL (by simp [bdAs, BdL, Bd]))) ?_
  rintro ⟨i, hi⟩
  simp only [valid_eq, leastS_eq, greatS_eq, plus3_eq, p14_3, p14_7, p14_9, p14_10, rTup, flwA, Try.f14, go_sem, ↓reduceIte, Nat.reduceAdd, Nat.reduceSub, Nat.reduceMul, Nat.reduceEqDiff, Nat.reduceLT, Nat.reduceLeDiff, Int.reduceToNat, Int.reduceLE, Int.reduceLT, Int.reduceEq, Int.reduceNeg, reduceCtorEq]
  have hw3 : IntKind.i64.wrap ((i : Int) + 1) = ((i + 1 : Nat) : Int) := by rw [wrap_id (by omega) (by omega)]; omega
  refine ⟨fun e1 => ?_, fun e1 => ?_⟩
  · simp only [decide_eq_true_eq] at e1
    have ik : i < k := by omega
    obtain ⟨a1, a2, a3, a4, a5⟩ := hlo i hi
    obtain ⟨b1, b2, b3, b4, b5⟩ := hhi i hi
    obtain ⟨a1', a2', a3', a4', a5'⟩ := hlo (i + 1) ik
    obtain ⟨b1', b2', b3', b4', b5'⟩ := hhi (i + 1) ik
    have sL := okS_sp (R := R) (bl := bl) (bh := bh) (v4 i ik) a1
    have sH := okS_sp (R := R) (bl := bl) (bh := bh) (v4 i ik) b1
    have u0 : IntKind.i64.wrap ((atL R n T H bl l wl i).ca + (lowF R n T H bl (atL R n T H bl l wl i).w (l i 0) (l i 1) (l i 2) (l i 3) (l i 5) (l i 7)).came) = (atL R n T H bl l wl (i + 1)).ca := wrap_id (x := (atL R n T H bl l wl (i + 1)).ca) (by omega) (by omega)
    have t0 : IntKind.i64.wrap ((atH R n T H bh l wh i).ca + (lowF R n T H bh (atH R n T H bh l wh i).w (l i 0) (l i 1) (l i 2) (l i 4) (l i 6) (l i 7)).came) = (atH R n T H bh l wh (i + 1)).ca := wrap_id (x := (atH R n T H bh l wh (i + 1)).ca) (by omega) (by omega)
    have u1 : IntKind.i64.wrap ((atL R n T H bl l wl i).ou + (lowF R n T H bl (atL R n T H bl l wl i).w (l i 0) (l i 1) (l i 2) (l i 3) (l i 5) (l i 7)).out) = (atL R n T H bl l wl (i + 1)).ou := wrap_id (x := (atL R n T H bl l wl (i + 1)).ou) (by omega) (by omega)
    have t1 : IntKind.i64.wrap ((atH R n T H bh l wh i).ou + (lowF R n T H bh (atH R n T H bh l wh i).w (l i 0) (l i 1) (l i 2) (l i 4) (l i 6) (l i 7)).out) = (atH R n T H bh l wh (i + 1)).ou := wrap_id (x := (atH R n T H bh l wh (i + 1)).ou) (by omega) (by omega)
    have u2 : IntKind.i64.wrap ((atL R n T H bl l wl i).dr + (lowF R n T H bl (atL R n T H bl l wl i).w (l i 0) (l i 1) (l i 2) (l i 3) (l i 5) (l i 7)).dried) = (atL R n T H bl l wl (i + 1)).dr := wrap_id (x := (atL R n T H bl l wl (i + 1)).dr) (by omega) (by omega)
    have t2 : IntKind.i64.wrap ((atH R n T H bh l wh i).dr + (lowF R n T H bh (atH R n T H bh l wh i).w (l i 0) (l i 1) (l i 2) (l i 4) (l i 6) (l i 7)).dried) = (atH R n T H bh l wh (i + 1)).dr := wrap_id (x := (atH R n T H bh l wh (i + 1)).dr) (by omega) (by omega)
    have u3 : IntKind.i64.wrap ((atL R n T H bl l wl i).de + (lowF R n T H bl (atL R n T H bl l wl i).w (l i 0) (l i 1) (l i 2) (l i 3) (l i 5) (l i 7)).dew) = (atL R n T H bl l wl (i + 1)).de := wrap_id (x := (atL R n T H bl l wl (i + 1)).de) (by omega) (by omega)
    have t3 : IntKind.i64.wrap ((atH R n T H bh l wh i).de + (lowF R n T H bh (atH R n T H bh l wh i).w (l i 0) (l i 1) (l i 2) (l i 4) (l i 6) (l i 7)).dew) = (atH R n T H bh l wh (i + 1)).de := wrap_id (x := (atH R n T H bh l wh (i + 1)).de) (by omega) (by omega)
    simp only [u0, u1, u2, u3, t0, t1, t2, t3]
    repeat' with_reducible refine And.intro ?_ ?_
    all_goals first
      | exact v1 | exact sL | exact sH | (show planOk _ _ = true; kernel_rfl) | (show keepOk _ _ = true; kernel_rfl) | omega
      | (refine ⟨⟨i + 1, by omega⟩, by simp only []; omega, ?_⟩
         apply sub_of <;> simp only [hw3, go_sem, ↓reduceIte, Nat.reduceAdd, Nat.reduceSub, Nat.reduceMul, Nat.reduceEqDiff, Nat.reduceLT, Nat.reduceLeDiff, Int.reduceToNat, Int.reduceLE, Int.reduceLT, Int.reduceEq, Int.reduceNeg, reduceCtorEq] <;> (try simp [atL, atH, stL, stH]) <;> (try simp) <;> (try exact fun j _ => Bd_nth (by simp [BdL, Bd]) j) <;> (try exact bd_setL (by simp [bdAs, BdL, Bd])))
  · simp only [decide_eq_false_iff_not] at e1
    obtain rfl : i = k := by omega
    exact ⟨⟨by kernel_rfl, by kernel_rfl⟩, rfl⟩
def runPBase : BaseF := fun args => match args with
  | [.agg [.int .i64 R, .row n sz_T f_T, .row m sz_H f_H, .int .i64 bl, .int .i64 bh], .agg [.int .i64 wl, .int .i64 wh], .row k sz_l f_l] => some ((sz_T = 1 ∧ IntR n 1 f_T) ∧ (sz_H = 1 ∧ IntR m 1 f_H) ∧ (sz_l = 8 ∧ IntR k 8 f_l), rTup (airRun R n m (ivf f_T) (ivf f_H) bl bh wl wh k (ivf f_l)))
  | _ => none
theorem runP_eq (R : Int) (n : Nat) (sz_T : Nat) (f_T : Nat → Nat → SV) (m : Nat) (sz_H : Nat) (f_H : Nat → Nat → SV) (bl : Int) (bh : Int) (wl : Int) (wh : Int) (k : Nat) (sz_l : Nat) (f_l : Nat → Nat → SV) : runPBase [.agg [.int .i64 R, .row n sz_T f_T, .row m sz_H f_H, .int .i64 bl, .int .i64 bh], .agg [.int .i64 wl, .int .i64 wh], .row k sz_l f_l] = some ((sz_T = 1 ∧ IntR n 1 f_T) ∧ (sz_H = 1 ∧ IntR m 1 f_H) ∧ (sz_l = 8 ∧ IntR k 8 f_l), rTup (airRun R n m (ivf f_T) (ivf f_H) bl bh wl wh k (ivf f_l))) := rfl
theorem runP_base : Base Try.prog 13 runPBase := by
  intro args p v hq hp
  unfold runPBase at hq
  split at hq
  rotate_left
  · cases hq
  rename_i R n sz_T f_T m sz_H f_H bl bh wl wh k sz_l f_l
  cases hq
  obtain ⟨⟨rfl, i_T⟩, ⟨rfl, i_H⟩, ⟨rfl, i_l⟩⟩ := hp
  refine base_of (C := cx [] [] [(32, areValidBase), (65, stepBase), (39, of1Base), (40, of2Base), (41, of3Base), (42, of4Base), (43, of5Base)] [(13, 2, p13_2), (13, 11, p13_11), (38, 1, p38_1), (64, 0, p64_0), (64, 4, p64_4), (64, 6, p64_6)] none) (cx_ok trivial ⟨areValid_base, step_base, of1_base, of2_base, of3_base, of4_base, of5_base, trivial⟩) rfl (g := 13) (fn := Try.f13)
    (args' := [.agg [.int .i64 R, .row n 1 (rowF .i64 (ivf f_T)), .row m 1 (rowF .i64 (ivf f_H)), .int .i64 bl, .int .i64 bh], .agg [.int .i64 wl, .int .i64 wh], .row k 8 (rowF .i64 (ivf f_l))]) (fn_13) rfl 1000 (by
    simp only [BdL, Bd, and_self, and_true, true_and]
    exact ⟨⟨(fun i j hi hj => by rw [i_T i j hi hj]; trivial), (fun i j hi hj => by rw [i_H i j hi hj]; trivial)⟩, (fun i j hi hj => by rw [i_l i j hi hj]; trivial)⟩) ⟨SameD.agg ⟨SameD.rfl' _, SameD.int i_T, SameD.int i_H, SameD.rfl' _, SameD.rfl' _, trivial⟩, SameD.rfl' _, SameD.int i_l, trivial⟩ ?_
  generalize ivf f_T = T
  generalize ivf f_H = H
  generalize ivf f_l = l
  simp only [rowF_eq]
  simp only [areValid_eq, step_eq, of1_eq, of2_eq, of3_eq, of4_eq, of5_eq, p13_2, p13_11, p38_1, p64_0, p64_4, p64_6, rTup, flwA, crs, Try.f36, Try.f37, Try.f38, Try.f64, Try.f13, go_sem, ↓reduceIte, Nat.reduceAdd, Nat.reduceSub, Nat.reduceMul, Nat.reduceEqDiff, Nat.reduceLT, Nat.reduceLeDiff, Int.reduceToNat, Int.reduceLE, Int.reduceLT, Int.reduceEq, Int.reduceNeg, reduceCtorEq]
  refine ⟨by simp, ?_⟩
  refine ⟨fun c1 => ⟨⟨by kernel_rfl, by kernel_rfl⟩, ?_⟩, fun c1 => ?_⟩
  · simp only [Bool.not_eq_true'] at c1; simp [airRun, c1]
  simp only [Bool.not_eq_false'] at c1
  obtain ⟨v1, v2, v3, v4⟩ := valid_iff.1 c1
  have hA := (airB_iff.1 v1).1
  have hlo := fun i (hi : i ≤ k) => atL_bd v1 v4 (w := wl) (by omega) i hi
  have hhi := fun i (hi : i ≤ k) => atH_bd v1 v4 (w := wh) (by omega) i hi
  have hout : airRun R n m T H bl bh wl wh k l = ⟨atL R n T H bl l wl k, atH R n T H bh l wh k, 0⟩ := by simp [airRun, c1]
  rw [hout]
  refine ⟨⟨by kernel_rfl, by kernel_rfl⟩, ?_⟩
  refine loop_ofH { i : Nat // i ≤ k } (fun i => [(18, .int .i64 (i.1 : Int)), (17, .int .i64 (k : Int)), (16, .row k 8 fun i j => .int .i64 (l i j)), (6, .meth 65 [.agg [.func 63 [], .int .i64 (atH R n T H bh l wh i.1).w, .int .i64 (atH R n T H bh l wh i.1).ca, .int .i64 (atH R n T H bh l wh i.1).ou, .int .i64 (atH R n T H bh l wh i.1).dr, .int .i64 (atH R n T H bh l wh i.1).de]]), (5, .meth 65 [.agg [.func 62 [], .int .i64 (atL R n T H bl l wl i.1).w, .int .i64 (atL R n T H bl l wl i.1).ca, .int .i64 (atL R n T H bl l wl i.1).ou, .int .i64 (atL R n T H bl l wl i.1).dr, .int .i64 (atL R n T H bl l wl i.1).de]]), (3, .ptr 8 0), (0, .yield 10)])
    (fun h i => { h with blks := setB h.blks 6 (.live 75 [.func 62 [], .int .i64 (atL R n T H bl l wl i.1).w, .int .i64 (atL R n T H bl l wl i.1).ca, .int .i64 (atL R n T H bl l wl i.1).ou, .int .i64 (atL R n T H bl l wl i.1).dr, .int .i64 (atL R n T H bl l wl i.1).de, .func 63 [], .int .i64 (atH R n T H bh l wh i.1).w, .int .i64 (atH R n T H bh l wh i.1).ca, .int .i64 (atH R n T H bh l wh i.1).ou, .int .i64 (atH R n T H bh l wh i.1).dr, .int .i64 (atH R n T H bh l wh i.1).de]) }) (fun i => k - i.1) (fun _ => ⟨lenB_set _ _ _, rfl⟩) ⟨0, by omega⟩ (by apply sub_of <;> simp only [go_sem, ↓reduceIte, Nat.reduceAdd, Nat.reduceSub, Nat.reduceMul, Nat.reduceEqDiff, Nat.reduceLT, Nat.reduceLeDiff, Int.reduceToNat, Int.reduceLE, Int.reduceLT, Int.reduceEq, Int.reduceNeg, reduceCtorEq] <;> (try simp [atL, atH]) <;> (try simp) <;> (try exact fun j _ => Bd_nth (by simp [BdL, Bd]) j) <;> (try exact bd_setL (by simp [bdAs, BdL, Bd]))) ?_
  rintro ⟨i, hi⟩
  simp only [areValid_eq, step_eq, of1_eq, of2_eq, of3_eq, of4_eq, of5_eq, p13_2, p13_11, p38_1, p64_0, p64_4, p64_6, rTup, flwA, crs, Try.f36, Try.f37, Try.f38, Try.f64, Try.f13, go_sem, ↓reduceIte, Nat.reduceAdd, Nat.reduceSub, Nat.reduceMul, Nat.reduceEqDiff, Nat.reduceLT, Nat.reduceLeDiff, Int.reduceToNat, Int.reduceLE, Int.reduceLT, Int.reduceEq, Int.reduceNeg, reduceCtorEq]
  have hw3 : IntKind.i64.wrap ((i : Int) + 1) = ((i + 1 : Nat) : Int) := by rw [wrap_id (by omega) (by omega)]; omega
  refine ⟨fun e1 => ?_, fun e1 => ?_⟩
  · simp only [decide_eq_true_eq] at e1
    have ik : i < k := by omega
    obtain ⟨a1, a2, a3, a4, a5⟩ := hlo i hi
    obtain ⟨b1, b2, b3, b4, b5⟩ := hhi i hi
    obtain ⟨a1', a2', a3', a4', a5'⟩ := hlo (i + 1) ik
    obtain ⟨b1', b2', b3', b4', b5'⟩ := hhi (i + 1) ik
    have sL := okS_sp (R := R) (bl := bl) (bh := bh) (v4 i ik) a1
    have sH := okS_sp (R := R) (bl := bl) (bh := bh) (v4 i ik) b1
    have m1 : smB (atL R n T H bl l wl i).ca ∧ smB (atL R n T H bl l wl i).ou ∧ smB (atL R n T H bl l wl i).dr ∧ smB (atL R n T H bl l wl i).de := by unfold smB; omega
    have m2 : smB (atH R n T H bh l wh i).ca ∧ smB (atH R n T H bh l wh i).ou ∧ smB (atH R n T H bh l wh i).dr ∧ smB (atH R n T H bh l wh i).de := by unfold smB; omega
    have p1 := And.intro (show True ∨ False from .inl trivial) (And.intro v1 (And.intro sL m1))
    have p2 := And.intro (show False ∨ True from .inr trivial) (And.intro v1 (And.intro sH m2))
    refine ⟨⟨by omega, by omega⟩, ⟨by kernel_rfl, by kernel_rfl⟩, p1, p2, ⟨p1, p2⟩, ⟨by kernel_rfl, by kernel_rfl⟩, ⟨i + 1, by omega⟩, by simp only []; omega, ?_⟩
    apply sub_of <;> simp only [hw3, go_sem, ↓reduceIte, Nat.reduceAdd, Nat.reduceSub, Nat.reduceMul, Nat.reduceEqDiff, Nat.reduceLT, Nat.reduceLeDiff, Int.reduceToNat, Int.reduceLE, Int.reduceLT, Int.reduceEq, Int.reduceNeg, reduceCtorEq] <;> (try simp [atL, atH, stL, stH]) <;> (try simp) <;> (try exact fun j _ => Bd_nth (by simp [BdL, Bd]) j) <;> (try exact bd_setL (by simp [bdAs, BdL, Bd]))
  · simp only [decide_eq_false_iff_not] at e1
    obtain rfl : i = k := by omega
    repeat' with_reducible refine And.intro ?_ ?_
    all_goals first | (show planOk _ _ = true; kernel_rfl) | (show keepOk _ _ = true; kernel_rfl) | rfl
end Go.Eng
end

/- air: Fog and Rust. -/
section
namespace Go.Eng
open Go Go.RowKit Go.Proofs
set_option maxRecDepth 100000
set_option maxHeartbeats 4000000
attribute [local irreducible] OwnT DefS
/-- The first index that is so: -1 if none is. -/
def fogA (p : Nat → Bool) : Nat → Int
  | 0 => -1
  | i + 1 => if fogA p i < 0 ∧ p i = true then (i : Int) else fogA p i
theorem fogA_rng (p : Nat → Bool) : ∀ i, -1 ≤ fogA p i ∧ fogA p i < i
  | 0 => by simp [fogA]
  | i + 1 => by
    have := fogA_rng p i
    simp only [fogA]
    split <;> omega
def cntP (p : Nat → Bool) : Nat → Int
  | 0 => 0
  | i + 1 => cntP p i + (if p i = true then 1 else 0)
theorem cntP_rng (p : Nat → Bool) : ∀ i, 0 ≤ cntP p i ∧ cntP p i ≤ i
  | 0 => by simp [cntP]
  | i + 1 => by
    have := cntP_rng p i
    simp only [cntP]
    split <;> omega
section
variable (R : Int) (n : Nat) (T H : Nat → Nat → Int) (bl bh : Int)
def dewL (l : Nat → Nat → Int) (w : Int) : Nat → Bool := fun i => decide (0 < (atL R n T H bl l w (i + 1)).de)
def dewH (l : Nat → Nat → Int) (w : Int) : Nat → Bool := fun i => decide (0 < (atH R n T H bh l w (i + 1)).de)
def rusL (l : Nat → Nat → Int) (w lim : Int) : Nat → Bool := fun i => decide (lim * holdV R n T H (l i 0) < (atL R n T H bl l w (i + 1)).w * 1000)
def rusH (l : Nat → Nat → Int) (w lim : Int) : Nat → Bool := fun i => decide (lim * holdV R n T H (l i 0) < (atH R n T H bh l w (i + 1)).w * 1000)
end
def thr (v : Int × Int × Int) : SV := .tup [.int .i64 v.1, .int .i64 v.2.1, .int .i64 v.2.2]
def spn (v : Int × Int × Int) : SV := .tup [.agg [.int .i64 v.1, .int .i64 v.2.1], .int .i64 v.2.2]
def airFog (R : Int) (n m : Nat) (T H : Nat → Nat → Int) (bl bh wl wh : Int) (k : Nat) (l : Nat → Nat → Int) : Int × Int × Int :=
  if validB R n m T H bl bh wl wh k l = true then (if fogA (dewH R n T H bh l wh) k < 0 then (0, 0, 4) else (fogA (dewL R n T H bl l wl) k, fogA (dewH R n T H bh l wh) k, 0)) else (0, 0, 1)
def airRust (R : Int) (n m : Nat) (T H : Nat → Nat → Int) (bl bh wl wh : Int) (k : Nat) (l : Nat → Nat → Int) (lim : Int) : Int × Int × Int :=
  if validB R n m T H bl bh wl wh k l = true then (if in3 lim 0 1000 = true then (cntP (rusL R n T H bl l wl lim) k, cntP (rusH R n T H bh l wh lim) k, 0) else (0, 0, 2)) else (0, 0, 1)
/-- Dew in all so far, and dew in a step: the same first step. -/
theorem fog_same {q : Nat → Bool} {d : Nat → Int} {e : Nat → Int} (h0 : d 0 = 0) (k : Nat) (hs : ∀ i, i < k → d (i + 1) = d i + e i ∧ 0 ≤ e i) (hq : ∀ i, i < k → q i = decide (0 < e i)) : ∀ i, i ≤ k → fogA (fun i => decide (0 < d (i + 1))) i = fogA q i ∧ (fogA q i < 0 → d i = 0)
  | 0, _ => ⟨rfl, fun _ => h0⟩
  | i + 1, hi => by
    obtain ⟨h1, h2⟩ := fog_same h0 k hs hq i (by omega)
    obtain ⟨h3, h4⟩ := hs i (by omega)
    have h5 := hq i (by omega)
    simp only [fogA, h1, h5, decide_eq_true_eq]
    by_cases hn : fogA q i < 0
    · have := h2 hn
      by_cases he : 0 < e i
      · rw [if_pos ⟨hn, by omega⟩, if_pos ⟨hn, he⟩]
        exact ⟨rfl, fun h => by omega⟩
      · rw [if_neg (by omega), if_neg (by omega)]
        exact ⟨rfl, fun _ => by omega⟩
    · rw [if_neg (by omega), if_neg (by omega)]
      exact ⟨rfl, fun h => absurd h hn⟩
theorem fog0 {p : Nat → Bool} {d : Nat → Int} {k : Nat} (hp : ∀ i, p i = decide (0 < d (i + 1))) (h0 : d 0 = 0) (hd : ∀ i, i ≤ k → 0 ≤ d i) : ∀ i, i ≤ k → fogA p i < 0 → d i = 0
  | 0, _, _ => h0
  | i + 1, hi, h => by
    simp only [fogA, hp, decide_eq_true_eq] at h
    have := hd (i + 1) hi
    by_cases hf : fogA p i < 0
    · by_cases hq : 0 < d (i + 1)
      · rw [if_pos ⟨hf, hq⟩] at h; omega
      · omega
    · rw [if_neg (by omega)] at h; exact absurd h hf
theorem spl_intro {q : Bool} {A B : Prop} (h1 : q = true → A) (h2 : q = false → B) : spl q A B := ⟨h1, h2⟩
def countBase : BaseF := fun args => match args with
  | [.row n sz_p f_p] => some ((sz_p = 1 ∧ BoolR n f_p) ∧ (n ≤ 1000000), .int .i64 (cntP (bvf f_p) n))
  | _ => none
theorem count_eq (n : Nat) (sz_p : Nat) (f_p : Nat → Nat → SV) : countBase [.row n sz_p f_p] = some ((sz_p = 1 ∧ BoolR n f_p) ∧ (n ≤ 1000000), .int .i64 (cntP (bvf f_p) n)) := rfl
theorem count_base : Base Try.prog 48 countBase := by
  intro args p v hq hp
  unfold countBase at hq
  split at hq
  rotate_left
  · cases hq
  rename_i n sz_p f_p
  cases hq
  obtain ⟨⟨rfl, i_p⟩, pre⟩ := hp
  refine base_of (C := cx [] [] [] [] none) (cx_ok trivial trivial) rfl (g := 48) (fn := Try.f48)
    (args' := [.row n 1 (fun i _ => .bool (bvf f_p i))]) (fn_48) rfl 1000 (by
    simp only [BdL, Bd, and_self, and_true, true_and]
    exact (fun i j hi hj => by rw [i_p i j hi hj]; trivial)) ⟨SameD.boolR i_p, trivial⟩ ?_
  generalize bvf f_p = p at *
  simp only [Try.f48, go_sem, ↓reduceIte, Nat.reduceAdd, Nat.reduceSub, Nat.reduceMul, Nat.reduceEqDiff, Nat.reduceLT, Nat.reduceLeDiff, Int.reduceToNat, Int.reduceLE, Int.reduceLT, Int.reduceEq, Int.reduceNeg, reduceCtorEq]
  refine loop_ofH { i : Nat // i ≤ n } (fun i => [(8, .int .i64 (i.1 : Int)), (7, .int .i64 (n : Int)), (6, .row n 1 fun i _ => .bool (p i)), (3, .int .i64 (cntP p i.1))]) (fun h _ => h) (fun i => n - i.1) (fun _ => ⟨rfl, rfl⟩) ⟨0, by omega⟩ (by (apply sub_of <;> simp only [go_sem, ↓reduceIte, Nat.reduceAdd, Nat.reduceSub, Nat.reduceMul, Nat.reduceEqDiff, Nat.reduceLT, Nat.reduceLeDiff, Int.reduceToNat, Int.reduceLE, Int.reduceLT, Int.reduceEq, Int.reduceNeg, reduceCtorEq] <;> (try simp [catF]) <;> (try exact fun j _ => Bd_nth (by simp [BdL, Bd]) j) <;> (try exact bd_setL (by simp [bdAs, BdL, Bd]))) <;> rfl) ?_
  rintro ⟨i, hi⟩
  simp only [Try.f48, go_sem, ↓reduceIte, Nat.reduceAdd, Nat.reduceSub, Nat.reduceMul, Nat.reduceEqDiff, Nat.reduceLT, Nat.reduceLeDiff, Int.reduceToNat, Int.reduceLE, Int.reduceLT, Int.reduceEq, Int.reduceNeg, reduceCtorEq]
  have hw3 : IntKind.i64.wrap ((i : Int) + 1) = ((i + 1 : Nat) : Int) := by rw [wrap_id (by omega) (by omega)]; omega
  have hc := cntP_rng p i
  have hw4 : IntKind.i64.wrap (cntP p i + 1) = cntP p i + 1 := wrap_id (by omega) (by omega)
  refine ⟨fun e1 => ⟨by simp only [decide_eq_true_eq] at e1; omega, fun e2 => ?_, fun e2 => ?_⟩, fun e1 => ?_⟩
  · simp only [decide_eq_true_eq] at e1
    refine ⟨⟨i + 1, by omega⟩, by simp only []; omega, ?_⟩
    apply sub_of <;> simp only [hw3, hw4, go_sem, ↓reduceIte, Nat.reduceAdd, Nat.reduceSub, Nat.reduceMul, Nat.reduceEqDiff, Nat.reduceLT, Nat.reduceLeDiff, Int.reduceToNat, Int.reduceLE, Int.reduceLT, Int.reduceEq, Int.reduceNeg, reduceCtorEq] <;> (try simp [cntP, e2])
  · simp only [decide_eq_true_eq] at e1
    refine ⟨⟨i + 1, by omega⟩, by simp only []; omega, ?_⟩
    apply sub_of <;> simp only [hw3, hw4, go_sem, ↓reduceIte, Nat.reduceAdd, Nat.reduceSub, Nat.reduceMul, Nat.reduceEqDiff, Nat.reduceLT, Nat.reduceLeDiff, Int.reduceToNat, Int.reduceLE, Int.reduceLT, Int.reduceEq, Int.reduceNeg, reduceCtorEq] <;> (try simp [cntP, e2])
  · simp only [decide_eq_false_iff_not] at e1
    obtain rfl : i = n := by omega
    rfl
def fogRBase : BaseF := fun args => match args with
  | [.agg [.int .i64 R, .row n sz_T f_T, .row m sz_H f_H, .int .i64 bl, .int .i64 bh], .agg [.int .i64 wl, .int .i64 wh], .row k sz_l f_l] => some ((sz_T = 1 ∧ IntR n 1 f_T) ∧ (sz_H = 1 ∧ IntR m 1 f_H) ∧ (sz_l = 8 ∧ IntR k 8 f_l), thr (airFog R n m (ivf f_T) (ivf f_H) bl bh wl wh k (ivf f_l)))
  | _ => none
theorem fogR_eq (R : Int) (n : Nat) (sz_T : Nat) (f_T : Nat → Nat → SV) (m : Nat) (sz_H : Nat) (f_H : Nat → Nat → SV) (bl : Int) (bh : Int) (wl : Int) (wh : Int) (k : Nat) (sz_l : Nat) (f_l : Nat → Nat → SV) : fogRBase [.agg [.int .i64 R, .row n sz_T f_T, .row m sz_H f_H, .int .i64 bl, .int .i64 bh], .agg [.int .i64 wl, .int .i64 wh], .row k sz_l f_l] = some ((sz_T = 1 ∧ IntR n 1 f_T) ∧ (sz_H = 1 ∧ IntR m 1 f_H) ∧ (sz_l = 8 ∧ IntR k 8 f_l), thr (airFog R n m (ivf f_T) (ivf f_H) bl bh wl wh k (ivf f_l))) := rfl
theorem fogR_base : Base Try.prog 16 fogRBase := by
  intro args p v hq hp
  unfold fogRBase at hq
  split at hq
  rotate_left
  · cases hq
  rename_i R n sz_T f_T m sz_H f_H bl bh wl wh k sz_l f_l
  cases hq
  obtain ⟨⟨rfl, i_T⟩, ⟨rfl, i_H⟩, ⟨rfl, i_l⟩⟩ := hp
  refine base_of (C := cx [] [] [(21, validBase), (44, leastSBase), (45, greatSBase)] [(16, 7, p16_7)] none) (cx_ok trivial ⟨valid_base, leastS_base, greatS_base, trivial⟩) rfl (g := 16) (fn := Try.f16)
    (args' := [.agg [.int .i64 R, .row n 1 (rowF .i64 (ivf f_T)), .row m 1 (rowF .i64 (ivf f_H)), .int .i64 bl, .int .i64 bh], .agg [.int .i64 wl, .int .i64 wh], .row k 8 (rowF .i64 (ivf f_l))]) (fn_16) rfl 1000 (by
    simp only [BdL, Bd, and_self, and_true, true_and]
    exact ⟨⟨(fun i j hi hj => by rw [i_T i j hi hj]; trivial), (fun i j hi hj => by rw [i_H i j hi hj]; trivial)⟩, (fun i j hi hj => by rw [i_l i j hi hj]; trivial)⟩) ⟨SameD.agg ⟨SameD.rfl' _, SameD.int i_T, SameD.int i_H, SameD.rfl' _, SameD.rfl' _, trivial⟩, SameD.rfl' _, SameD.int i_l, trivial⟩ ?_
  generalize ivf f_T = T
  generalize ivf f_H = H
  generalize ivf f_l = l
  simp only [rowF_eq]
  simp only [valid_eq, leastS_eq, greatS_eq, p16_7, thr, flwA, Try.f16, go_sem, ↓reduceIte, Nat.reduceAdd, Nat.reduceSub, Nat.reduceMul, Nat.reduceEqDiff, Nat.reduceLT, Nat.reduceLeDiff, Int.reduceToNat, Int.reduceLE, Int.reduceLT, Int.reduceEq, Int.reduceNeg, reduceCtorEq]
  refine ⟨fun c1 => ?_, fun c1 => ?_⟩
  · simp only [Bool.not_eq_true'] at c1; simp [airFog, c1]
  simp only [Bool.not_eq_false'] at c1
  obtain ⟨v1, v2, v3, v4⟩ := valid_iff.1 c1
  have hA := (airB_iff.1 v1).1
  have hlo := fun i (hi : i ≤ k) => atL_bd v1 v4 (w := wl) (by omega) i hi
  have hhi := fun i (hi : i ≤ k) => atH_bd v1 v4 (w := wh) (by omega) i hi
  refine loop_ofH { i : Nat // i ≤ k } (fun i => [(11, .int .i64 (i.1 : Int)), (10, .int .i64 (fogA (dewH R n T H bh l wh) i.1)), (9, .int .i64 (fogA (dewL R n T H bl l wl) i.1)), (4, .ptr 1 0), (3, .ptr 0 0), (2, .row k 8 fun i j => .int .i64 (l i j))])
    (fun h i => { h with blks := setB h.blks 1 (.live 24 [.int .i64 (atL R n T H bl l wl i.1).w, .int .i64 (atH R n T H bh l wh i.1).w]) }) (fun i => k - i.1) (fun _ => ⟨lenB_set _ _ _, rfl⟩) ⟨0, by omega⟩ (by apply sub_of <;> simp only [go_sem, ↓reduceIte, Nat.reduceAdd, Nat.reduceSub, Nat.reduceMul, Nat.reduceEqDiff, Nat.reduceLT, Nat.reduceLeDiff, Int.reduceToNat, Int.reduceLE, Int.reduceLT, Int.reduceEq, Int.reduceNeg, reduceCtorEq] <;> (try simp [atL, atH, fogA]) <;> (try simp) <;> (try exact fun j _ => Bd_nth (by simp [BdL, Bd]) j) <;> (try exact bd_setL (by simp [bdAs, BdL, Bd]))) ?_
  rintro ⟨i, hi⟩
  simp only [valid_eq, leastS_eq, greatS_eq, p16_7, thr, flwA, Try.f16, go_sem, ↓reduceIte, Nat.reduceAdd, Nat.reduceSub, Nat.reduceMul, Nat.reduceEqDiff, Nat.reduceLT, Nat.reduceLeDiff, Int.reduceToNat, Int.reduceLE, Int.reduceLT, Int.reduceEq, Int.reduceNeg, reduceCtorEq]
  have hw3 : IntKind.i64.wrap ((i : Int) + 1) = ((i + 1 : Nat) : Int) := by rw [wrap_id (by omega) (by omega)]; omega
  refine ⟨fun e1 => ?_, fun e1 => ?_⟩
  · simp only [decide_eq_true_eq] at e1
    have ik : i < k := by omega
    obtain ⟨a1, a2, a3, a4, a5⟩ := hlo i hi
    obtain ⟨b1, b2, b3, b4, b5⟩ := hhi i hi
    obtain ⟨a1', a2', a3', a4', a5'⟩ := hlo (i + 1) ik
    obtain ⟨b1', b2', b3', b4', b5'⟩ := hhi (i + 1) ik
    have sL := okS_sp (R := R) (bl := bl) (bh := bh) (v4 i ik) a1
    have sH := okS_sp (R := R) (bl := bl) (bh := bh) (v4 i ik) b1
    have r1 := fogA_rng (dewL R n T H bl l wl) i
    have r2 := fogA_rng (dewH R n T H bh l wh) i
    have z1 : fogA (dewL R n T H bl l wl) i < 0 → (atL R n T H bl l wl i).de = 0 := fog0 (p := dewL R n T H bl l wl) (d := fun i => (atL R n T H bl l wl i).de) (k := k) (fun _ => rfl) rfl (fun i hi => (hlo i hi).2.2.2.2.1) i hi
    have z2 : fogA (dewH R n T H bh l wh) i < 0 → (atH R n T H bh l wh i).de = 0 := fog0 (p := dewH R n T H bh l wh) (d := fun i => (atH R n T H bh l wh i).de) (k := k) (fun _ => rfl) rfl (fun i hi => (hhi i hi).2.2.2.2.1) i hi
    have y1 : (atL R n T H bl l wl (i + 1)).de = (atL R n T H bl l wl i).de + (lowF R n T H bl (atL R n T H bl l wl i).w (l i 0) (l i 1) (l i 2) (l i 3) (l i 5) (l i 7)).dew := rfl
    have y2 : (atH R n T H bh l wh (i + 1)).de = (atH R n T H bh l wh i).de + (lowF R n T H bh (atH R n T H bh l wh i).w (l i 0) (l i 1) (l i 2) (l i 4) (l i 6) (l i 7)).dew := rfl
    have g1 : ((fogA (dewL R n T H bl l wl) i < 0 ∧ (atL R n T H bl l wl i).de = 0 ∧ 0 < (lowF R n T H bl (atL R n T H bl l wl i).w (l i 0) (l i 1) (l i 2) (l i 3) (l i 5) (l i 7)).dew) ∧ fogA (dewL R n T H bl l wl) (i + 1) = i) ∨ ((0 ≤ fogA (dewL R n T H bl l wl) i ∨ ((atL R n T H bl l wl i).de = 0 ∧ (lowF R n T H bl (atL R n T H bl l wl i).w (l i 0) (l i 1) (l i 2) (l i 3) (l i 5) (l i 7)).dew ≤ 0)) ∧ fogA (dewL R n T H bl l wl) (i + 1) = fogA (dewL R n T H bl l wl) i) := by
      simp only [fogA, dewL, decide_eq_true_eq, y1]
      by_cases h : fogA (dewL R n T H bl l wl) i < 0
      · have := z1 h
        by_cases h' : 0 < (lowF R n T H bl (atL R n T H bl l wl i).w (l i 0) (l i 1) (l i 2) (l i 3) (l i 5) (l i 7)).dew
        · rw [if_pos ⟨h, by omega⟩]; exact .inl ⟨⟨h, this, h'⟩, rfl⟩
        · rw [if_neg (by omega)]; exact .inr ⟨.inr ⟨this, by omega⟩, rfl⟩
      · rw [if_neg (by intro h'; exact h h'.1)]; exact .inr ⟨.inl (by omega), rfl⟩
    have g2 : ((fogA (dewH R n T H bh l wh) i < 0 ∧ (atH R n T H bh l wh i).de = 0 ∧ 0 < (lowF R n T H bh (atH R n T H bh l wh i).w (l i 0) (l i 1) (l i 2) (l i 4) (l i 6) (l i 7)).dew) ∧ fogA (dewH R n T H bh l wh) (i + 1) = i) ∨ ((0 ≤ fogA (dewH R n T H bh l wh) i ∨ ((atH R n T H bh l wh i).de = 0 ∧ (lowF R n T H bh (atH R n T H bh l wh i).w (l i 0) (l i 1) (l i 2) (l i 4) (l i 6) (l i 7)).dew ≤ 0)) ∧ fogA (dewH R n T H bh l wh) (i + 1) = fogA (dewH R n T H bh l wh) i) := by
      simp only [fogA, dewH, decide_eq_true_eq, y2]
      by_cases h : fogA (dewH R n T H bh l wh) i < 0
      · have := z2 h
        by_cases h' : 0 < (lowF R n T H bh (atH R n T H bh l wh i).w (l i 0) (l i 1) (l i 2) (l i 4) (l i 6) (l i 7)).dew
        · rw [if_pos ⟨h, by omega⟩]; exact .inl ⟨⟨h, this, h'⟩, rfl⟩
        · rw [if_neg (by omega)]; exact .inr ⟨.inr ⟨this, by omega⟩, rfl⟩
      · rw [if_neg (by intro h'; exact h h'.1)]; exact .inr ⟨.inl (by omega), rfl⟩
    clear z1 z2 r1 r2
    repeat' first | with_reducible refine And.intro ?_ ?_ | with_reducible refine spl_intro (fun _ => ?_) (fun _ => ?_)
    all_goals first | exact v1 | exact sL | exact sH | (show planOk _ _ = true; kernel_rfl) | (show keepOk _ _ = true; kernel_rfl) | omega | skip
    all_goals
      simp only [decide_eq_true_eq, decide_eq_false_iff_not] at *
      rcases g1 with ⟨g1, q1⟩ | ⟨g1, q1⟩ <;> rcases g2 with ⟨g2, q2⟩ | ⟨g2, q2⟩ <;> first
        | (exfalso; omega)
        | (refine ⟨⟨i + 1, by omega⟩, by simp only []; omega, ?_⟩
           apply sub_of <;> simp only [hw3, q1, q2, go_sem, ↓reduceIte, Nat.reduceAdd, Nat.reduceSub, Nat.reduceMul, Nat.reduceEqDiff, Nat.reduceLT, Nat.reduceLeDiff, Int.reduceToNat, Int.reduceLE, Int.reduceLT, Int.reduceEq, Int.reduceNeg, reduceCtorEq] <;> (try simp only [atL, atH, stL, stH, true_and, and_true]) <;> (try simp) <;> (try exact fun j _ => Bd_nth (by simp [BdL, Bd]) j) <;> (try exact bd_setL (by simp [bdAs, BdL, Bd])))
  · simp only [decide_eq_false_iff_not] at e1
    obtain rfl : i = k := by omega
    refine ⟨fun e2 => ?_, fun e2 => ?_⟩
    · simp only [decide_eq_true_eq] at e2; simp [airFog, c1, e2]
    · simp only [decide_eq_false_iff_not] at e2; simp [airFog, c1, e2]
def fogPBase : BaseF := fun args => match args with
  | [.agg [.int .i64 R, .row n sz_T f_T, .row m sz_H f_H, .int .i64 bl, .int .i64 bh], .agg [.int .i64 wl, .int .i64 wh], .row k sz_l f_l] => some ((sz_T = 1 ∧ IntR n 1 f_T) ∧ (sz_H = 1 ∧ IntR m 1 f_H) ∧ (sz_l = 8 ∧ IntR k 8 f_l), thr (airFog R n m (ivf f_T) (ivf f_H) bl bh wl wh k (ivf f_l)))
  | _ => none
theorem fogP_eq (R : Int) (n : Nat) (sz_T : Nat) (f_T : Nat → Nat → SV) (m : Nat) (sz_H : Nat) (f_H : Nat → Nat → SV) (bl : Int) (bh : Int) (wl : Int) (wh : Int) (k : Nat) (sz_l : Nat) (f_l : Nat → Nat → SV) : fogPBase [.agg [.int .i64 R, .row n sz_T f_T, .row m sz_H f_H, .int .i64 bl, .int .i64 bh], .agg [.int .i64 wl, .int .i64 wh], .row k sz_l f_l] = some ((sz_T = 1 ∧ IntR n 1 f_T) ∧ (sz_H = 1 ∧ IntR m 1 f_H) ∧ (sz_l = 8 ∧ IntR k 8 f_l), thr (airFog R n m (ivf f_T) (ivf f_H) bl bh wl wh k (ivf f_l))) := rfl
theorem fogP_base : Base Try.prog 15 fogPBase := by
  intro args p v hq hp
  unfold fogPBase at hq
  split at hq
  rotate_left
  · cases hq
  rename_i R n sz_T f_T m sz_H f_H bl bh wl wh k sz_l f_l
  cases hq
  obtain ⟨⟨rfl, i_T⟩, ⟨rfl, i_H⟩, ⟨rfl, i_l⟩⟩ := hp
  refine base_of (C := cx [] [] [(32, areValidBase), (65, stepBase)] [(15, 13, p15_13), (64, 0, p64_0), (64, 4, p64_4), (64, 6, p64_6)] none) (cx_ok trivial ⟨areValid_base, step_base, trivial⟩) rfl (g := 15) (fn := Try.f15)
    (args' := [.agg [.int .i64 R, .row n 1 (rowF .i64 (ivf f_T)), .row m 1 (rowF .i64 (ivf f_H)), .int .i64 bl, .int .i64 bh], .agg [.int .i64 wl, .int .i64 wh], .row k 8 (rowF .i64 (ivf f_l))]) (fn_15) rfl 1000 (by
    simp only [BdL, Bd, and_self, and_true, true_and]
    exact ⟨⟨(fun i j hi hj => by rw [i_T i j hi hj]; trivial), (fun i j hi hj => by rw [i_H i j hi hj]; trivial)⟩, (fun i j hi hj => by rw [i_l i j hi hj]; trivial)⟩) ⟨SameD.agg ⟨SameD.rfl' _, SameD.int i_T, SameD.int i_H, SameD.rfl' _, SameD.rfl' _, trivial⟩, SameD.rfl' _, SameD.int i_l, trivial⟩ ?_
  generalize ivf f_T = T
  generalize ivf f_H = H
  generalize ivf f_l = l
  simp only [rowF_eq]
  simp only [areValid_eq, step_eq, p15_13, p64_0, p64_4, p64_6, thr, crs, Try.f36, Try.f37, Try.f64, Try.f15, go_sem, ↓reduceIte, Nat.reduceAdd, Nat.reduceSub, Nat.reduceMul, Nat.reduceEqDiff, Nat.reduceLT, Nat.reduceLeDiff, Int.reduceToNat, Int.reduceLE, Int.reduceLT, Int.reduceEq, Int.reduceNeg, reduceCtorEq]
  refine ⟨by simp, ?_⟩
  refine ⟨fun c1 => ?_, fun c1 => ?_⟩
  · simp only [Bool.not_eq_true'] at c1; simp [airFog, c1]
  simp only [Bool.not_eq_false'] at c1
  obtain ⟨v1, v2, v3, v4⟩ := valid_iff.1 c1
  have hA := (airB_iff.1 v1).1
  have hlo := fun i (hi : i ≤ k) => atL_bd v1 v4 (w := wl) (by omega) i hi
  have hhi := fun i (hi : i ≤ k) => atH_bd v1 v4 (w := wh) (by omega) i hi
  refine ⟨⟨by kernel_rfl, by kernel_rfl⟩, ?_⟩
  refine loop_ofH { i : Nat // i ≤ k } (fun i => [(18, .int .i64 (i.1 : Int)), (17, .int .i64 (k : Int)), (16, .row k 8 fun i j => .int .i64 (l i j)), (6, .meth 65 [.agg [.func 63 [], .int .i64 (atH R n T H bh l wh i.1).w, .int .i64 (atH R n T H bh l wh i.1).ca, .int .i64 (atH R n T H bh l wh i.1).ou, .int .i64 (atH R n T H bh l wh i.1).dr, .int .i64 (atH R n T H bh l wh i.1).de]]), (5, .meth 65 [.agg [.func 62 [], .int .i64 (atL R n T H bl l wl i.1).w, .int .i64 (atL R n T H bl l wl i.1).ca, .int .i64 (atL R n T H bl l wl i.1).ou, .int .i64 (atL R n T H bl l wl i.1).dr, .int .i64 (atL R n T H bl l wl i.1).de]]), (3, .ptr 7 0), (0, .yield 9)])
    (fun h i => { h with blks := setB (setB h.blks 2 (.live 3 [.int .i64 (fogA (dewL R n T H bl l wl) i.1)])) 3 (.live 3 [.int .i64 (fogA (dewH R n T H bh l wh) i.1)]) }) (fun i => k - i.1) (fun _ => ⟨(lenB_set _ _ _).trans (lenB_set _ _ _), rfl⟩) ⟨0, by omega⟩ (by apply sub_of <;> simp only [go_sem, ↓reduceIte, Nat.reduceAdd, Nat.reduceSub, Nat.reduceMul, Nat.reduceEqDiff, Nat.reduceLT, Nat.reduceLeDiff, Int.reduceToNat, Int.reduceLE, Int.reduceLT, Int.reduceEq, Int.reduceNeg, reduceCtorEq] <;> (try simp [atL, atH, fogA]) <;> (try simp) <;> (try exact fun j _ => Bd_nth (by simp [BdL, Bd]) j) <;> (try exact bd_setL (by simp [bdAs, BdL, Bd]))) ?_
  rintro ⟨i, hi⟩
  simp only [areValid_eq, step_eq, p15_13, p64_0, p64_4, p64_6, thr, crs, Try.f36, Try.f37, Try.f64, Try.f15, go_sem, ↓reduceIte, Nat.reduceAdd, Nat.reduceSub, Nat.reduceMul, Nat.reduceEqDiff, Nat.reduceLT, Nat.reduceLeDiff, Int.reduceToNat, Int.reduceLE, Int.reduceLT, Int.reduceEq, Int.reduceNeg, reduceCtorEq]
  have hw3 : IntKind.i64.wrap ((i : Int) + 1) = ((i + 1 : Nat) : Int) := by rw [wrap_id (by omega) (by omega)]; omega
  refine ⟨fun e1 => ?_, fun e1 => ?_⟩
  · simp only [decide_eq_true_eq] at e1
    have ik : i < k := by omega
    obtain ⟨a1, a2, a3, a4, a5⟩ := hlo i hi
    obtain ⟨b1, b2, b3, b4, b5⟩ := hhi i hi
    obtain ⟨a1', a2', a3', a4', a5'⟩ := hlo (i + 1) ik
    obtain ⟨b1', b2', b3', b4', b5'⟩ := hhi (i + 1) ik
    have sL := okS_sp (R := R) (bl := bl) (bh := bh) (v4 i ik) a1
    have sH := okS_sp (R := R) (bl := bl) (bh := bh) (v4 i ik) b1
    have m1 : smB (atL R n T H bl l wl i).ca ∧ smB (atL R n T H bl l wl i).ou ∧ smB (atL R n T H bl l wl i).dr ∧ smB (atL R n T H bl l wl i).de := by unfold smB; omega
    have m2 : smB (atH R n T H bh l wh i).ca ∧ smB (atH R n T H bh l wh i).ou ∧ smB (atH R n T H bh l wh i).dr ∧ smB (atH R n T H bh l wh i).de := by unfold smB; omega
    have p1 := And.intro (show True ∨ False from .inl trivial) (And.intro v1 (And.intro sL m1))
    have p2 := And.intro (show False ∨ True from .inr trivial) (And.intro v1 (And.intro sH m2))
    have r1 := fogA_rng (dewL R n T H bl l wl) i
    have r2 := fogA_rng (dewH R n T H bh l wh) i
    have z1 : fogA (dewL R n T H bl l wl) i < 0 → (atL R n T H bl l wl i).de = 0 := fog0 (p := dewL R n T H bl l wl) (d := fun i => (atL R n T H bl l wl i).de) (k := k) (fun _ => rfl) rfl (fun i hi => (hlo i hi).2.2.2.2.1) i hi
    have z2 : fogA (dewH R n T H bh l wh) i < 0 → (atH R n T H bh l wh i).de = 0 := fog0 (p := dewH R n T H bh l wh) (d := fun i => (atH R n T H bh l wh i).de) (k := k) (fun _ => rfl) rfl (fun i hi => (hhi i hi).2.2.2.2.1) i hi
    have y1 : (atL R n T H bl l wl (i + 1)).de = (atL R n T H bl l wl i).de + (lowF R n T H bl (atL R n T H bl l wl i).w (l i 0) (l i 1) (l i 2) (l i 3) (l i 5) (l i 7)).dew := rfl
    have y2 : (atH R n T H bh l wh (i + 1)).de = (atH R n T H bh l wh i).de + (lowF R n T H bh (atH R n T H bh l wh i).w (l i 0) (l i 1) (l i 2) (l i 4) (l i 6) (l i 7)).dew := rfl
    have g1 : ((fogA (dewL R n T H bl l wl) i < 0 ∧ (atL R n T H bl l wl i).de = 0 ∧ 0 < (lowF R n T H bl (atL R n T H bl l wl i).w (l i 0) (l i 1) (l i 2) (l i 3) (l i 5) (l i 7)).dew) ∧ fogA (dewL R n T H bl l wl) (i + 1) = i) ∨ ((0 ≤ fogA (dewL R n T H bl l wl) i ∨ ((atL R n T H bl l wl i).de = 0 ∧ (lowF R n T H bl (atL R n T H bl l wl i).w (l i 0) (l i 1) (l i 2) (l i 3) (l i 5) (l i 7)).dew ≤ 0)) ∧ fogA (dewL R n T H bl l wl) (i + 1) = fogA (dewL R n T H bl l wl) i) := by
      simp only [fogA, dewL, decide_eq_true_eq, y1]
      by_cases h : fogA (dewL R n T H bl l wl) i < 0
      · have := z1 h
        by_cases h' : 0 < (lowF R n T H bl (atL R n T H bl l wl i).w (l i 0) (l i 1) (l i 2) (l i 3) (l i 5) (l i 7)).dew
        · rw [if_pos ⟨h, by omega⟩]; exact .inl ⟨⟨h, this, h'⟩, rfl⟩
        · rw [if_neg (by omega)]; exact .inr ⟨.inr ⟨this, by omega⟩, rfl⟩
      · rw [if_neg (by intro h'; exact h h'.1)]; exact .inr ⟨.inl (by omega), rfl⟩
    have g2 : ((fogA (dewH R n T H bh l wh) i < 0 ∧ (atH R n T H bh l wh i).de = 0 ∧ 0 < (lowF R n T H bh (atH R n T H bh l wh i).w (l i 0) (l i 1) (l i 2) (l i 4) (l i 6) (l i 7)).dew) ∧ fogA (dewH R n T H bh l wh) (i + 1) = i) ∨ ((0 ≤ fogA (dewH R n T H bh l wh) i ∨ ((atH R n T H bh l wh i).de = 0 ∧ (lowF R n T H bh (atH R n T H bh l wh i).w (l i 0) (l i 1) (l i 2) (l i 4) (l i 6) (l i 7)).dew ≤ 0)) ∧ fogA (dewH R n T H bh l wh) (i + 1) = fogA (dewH R n T H bh l wh) i) := by
      simp only [fogA, dewH, decide_eq_true_eq, y2]
      by_cases h : fogA (dewH R n T H bh l wh) i < 0
      · have := z2 h
        by_cases h' : 0 < (lowF R n T H bh (atH R n T H bh l wh i).w (l i 0) (l i 1) (l i 2) (l i 4) (l i 6) (l i 7)).dew
        · rw [if_pos ⟨h, by omega⟩]; exact .inl ⟨⟨h, this, h'⟩, rfl⟩
        · rw [if_neg (by omega)]; exact .inr ⟨.inr ⟨this, by omega⟩, rfl⟩
      · rw [if_neg (by intro h'; exact h h'.1)]; exact .inr ⟨.inl (by omega), rfl⟩
    clear z1 z2 r1 r2
    refine ⟨⟨by omega, by omega⟩, ⟨by kernel_rfl, by kernel_rfl⟩, p1, p2, ⟨p1, p2⟩, ?_⟩
    repeat' first | (refine And.intro (show _ ∧ _ from ⟨(show planOk _ _ = true by kernel_rfl), (show keepOk _ _ = true by kernel_rfl)⟩) ?_) | with_reducible refine spl_intro (fun _ => ?_) (fun _ => ?_)
    all_goals
      simp only [decide_eq_true_eq, decide_eq_false_iff_not] at *
      rcases g1 with ⟨g1, q1⟩ | ⟨g1, q1⟩ <;> rcases g2 with ⟨g2, q2⟩ | ⟨g2, q2⟩ <;> first
        | (exfalso; omega)
        | (refine ⟨⟨i + 1, by omega⟩, by simp only []; omega, ?_⟩
           apply sub_of <;> simp only [hw3, q1, q2, go_sem, ↓reduceIte, Nat.reduceAdd, Nat.reduceSub, Nat.reduceMul, Nat.reduceEqDiff, Nat.reduceLT, Nat.reduceLeDiff, Int.reduceToNat, Int.reduceLE, Int.reduceLT, Int.reduceEq, Int.reduceNeg, reduceCtorEq] <;> (try simp only [atL, atH, stL, stH, true_and, and_true]) <;> (try simp) <;> (try exact fun j _ => Bd_nth (by simp [BdL, Bd]) j) <;> (try exact bd_setL (by simp [bdAs, BdL, Bd])))
  · simp only [decide_eq_false_iff_not] at e1
    obtain rfl : i = k := by omega
    refine ⟨fun e2 => ?_, fun e2 => ⟨⟨by kernel_rfl, by kernel_rfl⟩, ?_⟩⟩
    · simp only [decide_eq_true_eq] at e2; simp [airFog, c1, e2]
    · simp only [decide_eq_false_iff_not] at e2; simp [airFog, c1, e2]
def rustRBase : BaseF := fun args => match args with
  | [.agg [.int .i64 R, .row n sz_T f_T, .row m sz_H f_H, .int .i64 bl, .int .i64 bh], .agg [.int .i64 wl, .int .i64 wh], .row k sz_l f_l, .int .i64 lim] => some ((sz_T = 1 ∧ IntR n 1 f_T) ∧ (sz_H = 1 ∧ IntR m 1 f_H) ∧ (sz_l = 8 ∧ IntR k 8 f_l), spn (airRust R n m (ivf f_T) (ivf f_H) bl bh wl wh k (ivf f_l) lim))
  | _ => none
theorem rustR_eq (R : Int) (n : Nat) (sz_T : Nat) (f_T : Nat → Nat → SV) (m : Nat) (sz_H : Nat) (f_H : Nat → Nat → SV) (bl : Int) (bh : Int) (wl : Int) (wh : Int) (k : Nat) (sz_l : Nat) (f_l : Nat → Nat → SV) (lim : Int) : rustRBase [.agg [.int .i64 R, .row n sz_T f_T, .row m sz_H f_H, .int .i64 bl, .int .i64 bh], .agg [.int .i64 wl, .int .i64 wh], .row k sz_l f_l, .int .i64 lim] = some ((sz_T = 1 ∧ IntR n 1 f_T) ∧ (sz_H = 1 ∧ IntR m 1 f_H) ∧ (sz_l = 8 ∧ IntR k 8 f_l), spn (airRust R n m (ivf f_T) (ivf f_H) bl bh wl wh k (ivf f_l) lim)) := rfl
theorem rustR_base : Base Try.prog 18 rustRBase := by
  intro args p v hq hp
  unfold rustRBase at hq
  split at hq
  rotate_left
  · cases hq
  rename_i R n sz_T f_T m sz_H f_H bl bh wl wh k sz_l f_l lim
  cases hq
  obtain ⟨⟨rfl, i_T⟩, ⟨rfl, i_H⟩, ⟨rfl, i_l⟩⟩ := hp
  refine base_of (C := cx [] [] [(21, validBase), (44, leastSBase), (45, greatSBase), (49, inBase), (35, rholdsBase)] [(18, 9, p18_9), (18, 11, p18_11)] none) (cx_ok trivial ⟨valid_base, leastS_base, greatS_base, in_base, rholds_base, trivial⟩) rfl (g := 18) (fn := Try.f18)
    (args' := [.agg [.int .i64 R, .row n 1 (rowF .i64 (ivf f_T)), .row m 1 (rowF .i64 (ivf f_H)), .int .i64 bl, .int .i64 bh], .agg [.int .i64 wl, .int .i64 wh], .row k 8 (rowF .i64 (ivf f_l)), .int .i64 lim]) (fn_18) rfl 1000 (by
    simp only [BdL, Bd, and_self, and_true, true_and]
    exact ⟨⟨(fun i j hi hj => by rw [i_T i j hi hj]; trivial), (fun i j hi hj => by rw [i_H i j hi hj]; trivial)⟩, (fun i j hi hj => by rw [i_l i j hi hj]; trivial)⟩) ⟨SameD.agg ⟨SameD.rfl' _, SameD.int i_T, SameD.int i_H, SameD.rfl' _, SameD.rfl' _, trivial⟩, SameD.rfl' _, SameD.int i_l, SameD.rfl' _, trivial⟩ ?_
  generalize ivf f_T = T
  generalize ivf f_H = H
  generalize ivf f_l = l
  simp only [rowF_eq]
  simp only [valid_eq, leastS_eq, greatS_eq, in_eq, rholds_eq, p18_9, p18_11, spn, flwA, Try.f18, go_sem, ↓reduceIte, Nat.reduceAdd, Nat.reduceSub, Nat.reduceMul, Nat.reduceEqDiff, Nat.reduceLT, Nat.reduceLeDiff, Int.reduceToNat, Int.reduceLE, Int.reduceLT, Int.reduceEq, Int.reduceNeg, reduceCtorEq]
  refine ⟨fun c1 => ?_, fun c1 => ⟨fun c2 => ?_, fun c2 => ?_⟩⟩
  · simp only [Bool.not_eq_true'] at c1; simp [airRust, c1]
  · simp only [Bool.not_eq_true', Bool.not_eq_false'] at c1 c2; simp [airRust, c1, c2]
  simp only [Bool.not_eq_false'] at c2
  have hlim := in3_iff.1 c2
  simp only [Bool.not_eq_false'] at c1
  obtain ⟨v1, v2, v3, v4⟩ := valid_iff.1 c1
  have hA := (airB_iff.1 v1).1
  have hlo := fun i (hi : i ≤ k) => atL_bd v1 v4 (w := wl) (by omega) i hi
  have hhi := fun i (hi : i ≤ k) => atH_bd v1 v4 (w := wh) (by omega) i hi
  refine loop_ofH { i : Nat // i ≤ k } (fun i => [(11, .int .i64 (i.1 : Int)), (10, .ptr 3 0), (8, .ptr 2 0), (5, .ptr 1 0), (4, .ptr 0 0), (3, .int .i64 lim), (2, .row k 8 fun i j => .int .i64 (l i j))])
    (fun h i => { h with blks := setB (setB h.blks 1 (.live 24 [.int .i64 (atL R n T H bl l wl i.1).w, .int .i64 (atH R n T H bh l wh i.1).w])) 3 (.live 24 [.int .i64 (cntP (rusL R n T H bl l wl lim) i.1), .int .i64 (cntP (rusH R n T H bh l wh lim) i.1)]) }) (fun i => k - i.1) (fun _ => ⟨(lenB_set _ _ _).trans (lenB_set _ _ _), rfl⟩) ⟨0, by omega⟩ (by apply sub_of <;> simp only [go_sem, ↓reduceIte, Nat.reduceAdd, Nat.reduceSub, Nat.reduceMul, Nat.reduceEqDiff, Nat.reduceLT, Nat.reduceLeDiff, Int.reduceToNat, Int.reduceLE, Int.reduceLT, Int.reduceEq, Int.reduceNeg, reduceCtorEq] <;> (try simp [atL, atH, cntP]) <;> (try simp) <;> (try exact fun j _ => Bd_nth (by simp [BdL, Bd]) j) <;> (try exact bd_setL (by simp [bdAs, BdL, Bd]))) ?_
  rintro ⟨i, hi⟩
  simp only [valid_eq, leastS_eq, greatS_eq, in_eq, rholds_eq, p18_9, p18_11, spn, flwA, Try.f18, go_sem, ↓reduceIte, Nat.reduceAdd, Nat.reduceSub, Nat.reduceMul, Nat.reduceEqDiff, Nat.reduceLT, Nat.reduceLeDiff, Int.reduceToNat, Int.reduceLE, Int.reduceLT, Int.reduceEq, Int.reduceNeg, reduceCtorEq]
  have hw3 : IntKind.i64.wrap ((i : Int) + 1) = ((i + 1 : Nat) : Int) := by rw [wrap_id (by omega) (by omega)]; omega
  refine ⟨fun e1 => ?_, fun e1 => ?_⟩
  · simp only [decide_eq_true_eq] at e1
    have ik : i < k := by omega
    obtain ⟨a1, a2, a3, a4, a5⟩ := hlo i hi
    obtain ⟨b1, b2, b3, b4, b5⟩ := hhi i hi
    obtain ⟨a1', a2', a3', a4', a5'⟩ := hlo (i + 1) ik
    obtain ⟨b1', b2', b3', b4', b5'⟩ := hhi (i + 1) ik
    have sL := okS_sp (R := R) (bl := bl) (bh := bh) (v4 i ik) a1
    have sH := okS_sp (R := R) (bl := bl) (bh := bh) (v4 i ik) b1
    obtain ⟨v, hv, w1, w2, w3, w4, w5, w6⟩ := holdV_bd v1 sL.2.1
    have m0 : 0 ≤ lim * holdV R n T H (l i 0) := Int.mul_nonneg (by omega) (by omega)
    have m1 : lim * holdV R n T H (l i 0) ≤ 1000 * 104857600000 := Int.mul_le_mul (by omega) w6 (by omega) (by omega)
    have x1 : IntKind.i64.wrap (lim * holdV R n T H (l i 0)) = lim * holdV R n T H (l i 0) := wrap_id (by omega) (by omega)
    have x1' : IntKind.i64.wrap (holdV R n T H (l i 0) * lim) = lim * holdV R n T H (l i 0) := by rw [Int.mul_comm]; exact x1
    have x2 : IntKind.i64.wrap ((lowF R n T H bl (atL R n T H bl l wl i).w (l i 0) (l i 1) (l i 2) (l i 3) (l i 5) (l i 7)).water * 1000) = (atL R n T H bl l wl (i + 1)).w * 1000 := wrap_id (x := (atL R n T H bl l wl (i + 1)).w * 1000) (by omega) (by omega)
    have x3 : IntKind.i64.wrap ((lowF R n T H bh (atH R n T H bh l wh i).w (l i 0) (l i 1) (l i 2) (l i 4) (l i 6) (l i 7)).water * 1000) = (atH R n T H bh l wh (i + 1)).w * 1000 := wrap_id (x := (atH R n T H bh l wh (i + 1)).w * 1000) (by omega) (by omega)
    have n1 := cntP_rng (rusL R n T H bl l wl lim) i
    have n2 := cntP_rng (rusH R n T H bh l wh lim) i
    have x4 : IntKind.i64.wrap (cntP (rusL R n T H bl l wl lim) i + 1) = cntP (rusL R n T H bl l wl lim) i + 1 := wrap_id (by omega) (by omega)
    have x5 : IntKind.i64.wrap (cntP (rusH R n T H bh l wh lim) i + 1) = cntP (rusH R n T H bh l wh lim) i + 1 := wrap_id (by omega) (by omega)
    have g1 : rusL R n T H bl l wl lim i = decide (lim * holdV R n T H (l i 0) < (atL R n T H bl l wl (i + 1)).w * 1000) := rfl
    have g2 : rusH R n T H bh l wh lim i = decide (lim * holdV R n T H (l i 0) < (atH R n T H bh l wh (i + 1)).w * 1000) := rfl
    simp only [x1, x1', x2, x3, x4, x5, ← g1, ← g2]
    repeat' first | with_reducible refine And.intro ?_ ?_ | with_reducible refine spl_intro (fun _ => ?_) (fun _ => ?_)
    all_goals first
      | exact v1 | exact sL.2.1 | exact sL | exact sH | (show planOk _ _ = true; kernel_rfl) | (show keepOk _ _ = true; kernel_rfl) | omega
      | (clear g1 g2 hv
         refine ⟨⟨i + 1, by omega⟩, by simp only []; omega, ?_⟩
         apply sub_of <;> simp only [hw3, go_sem, ↓reduceIte, Nat.reduceAdd, Nat.reduceSub, Nat.reduceMul, Nat.reduceEqDiff, Nat.reduceLT, Nat.reduceLeDiff, Int.reduceToNat, Int.reduceLE, Int.reduceLT, Int.reduceEq, Int.reduceNeg, reduceCtorEq] <;> (try simp [atL, atH, stL, stH, cntP, *]) <;> (try simp) <;> (try exact fun j _ => Bd_nth (by simp [BdL, Bd]) j) <;> (try exact bd_setL (by simp [bdAs, BdL, Bd])))
  · simp only [decide_eq_false_iff_not] at e1
    obtain rfl : i = k := by omega
    simp [airRust, c1, c2]
theorem row_b {k : Nat} {p : Nat → Bool} {a : Nat} (ha : a < k + 1) : catF k (fun i _ => SV.bool (p i)) (oneF [.bool (p k)]) a 0 = .bool (p a) := by
  unfold catF oneF
  split
  · rfl
  · have : a = k := by omega
    subst this; rfl
def rustPBase : BaseF := fun args => match args with
  | [.agg [.int .i64 R, .row n sz_T f_T, .row m sz_H f_H, .int .i64 bl, .int .i64 bh], .agg [.int .i64 wl, .int .i64 wh], .row k sz_l f_l, .int .i64 lim] => some ((sz_T = 1 ∧ IntR n 1 f_T) ∧ (sz_H = 1 ∧ IntR m 1 f_H) ∧ (sz_l = 8 ∧ IntR k 8 f_l), spn (airRust R n m (ivf f_T) (ivf f_H) bl bh wl wh k (ivf f_l) lim))
  | _ => none
theorem rustP_eq (R : Int) (n : Nat) (sz_T : Nat) (f_T : Nat → Nat → SV) (m : Nat) (sz_H : Nat) (f_H : Nat → Nat → SV) (bl : Int) (bh : Int) (wl : Int) (wh : Int) (k : Nat) (sz_l : Nat) (f_l : Nat → Nat → SV) (lim : Int) : rustPBase [.agg [.int .i64 R, .row n sz_T f_T, .row m sz_H f_H, .int .i64 bl, .int .i64 bh], .agg [.int .i64 wl, .int .i64 wh], .row k sz_l f_l, .int .i64 lim] = some ((sz_T = 1 ∧ IntR n 1 f_T) ∧ (sz_H = 1 ∧ IntR m 1 f_H) ∧ (sz_l = 8 ∧ IntR k 8 f_l), spn (airRust R n m (ivf f_T) (ivf f_H) bl bh wl wh k (ivf f_l) lim)) := rfl
theorem rustP_base : Base Try.prog 17 rustPBase := by
  intro args p v hq hp
  unfold rustPBase at hq
  split at hq
  rotate_left
  · cases hq
  rename_i R n sz_T f_T m sz_H f_H bl bh wl wh k sz_l f_l lim
  cases hq
  obtain ⟨⟨rfl, i_T⟩, ⟨rfl, i_H⟩, ⟨rfl, i_l⟩⟩ := hp
  refine base_of (C := cx [] [] [(32, areValidBase), (65, stepBase), (47, in2Base), (34, holdsBase), (48, countBase)] [(17, 6, p17_6), (17, 9, p17_9), (17, 10, p17_10), (17, 11, p17_11), (64, 0, p64_0), (64, 4, p64_4), (64, 6, p64_6)] none) (cx_ok trivial ⟨areValid_base, step_base, in2_base, holds_base, count_base, trivial⟩) rfl (g := 17) (fn := Try.f17)
    (args' := [.agg [.int .i64 R, .row n 1 (rowF .i64 (ivf f_T)), .row m 1 (rowF .i64 (ivf f_H)), .int .i64 bl, .int .i64 bh], .agg [.int .i64 wl, .int .i64 wh], .row k 8 (rowF .i64 (ivf f_l)), .int .i64 lim]) (fn_17) rfl 1000 (by
    simp only [BdL, Bd, and_self, and_true, true_and]
    exact ⟨⟨(fun i j hi hj => by rw [i_T i j hi hj]; trivial), (fun i j hi hj => by rw [i_H i j hi hj]; trivial)⟩, (fun i j hi hj => by rw [i_l i j hi hj]; trivial)⟩) ⟨SameD.agg ⟨SameD.rfl' _, SameD.int i_T, SameD.int i_H, SameD.rfl' _, SameD.rfl' _, trivial⟩, SameD.rfl' _, SameD.int i_l, SameD.rfl' _, trivial⟩ ?_
  generalize ivf f_T = T
  generalize ivf f_H = H
  generalize ivf f_l = l
  simp only [rowF_eq]
  simp only [areValid_eq, step_eq, in2_eq, holds_eq, count_eq, p17_6, p17_9, p17_10, p17_11, p64_0, p64_4, p64_6, spn, crs, Try.f36, Try.f37, Try.f64, Try.f17, go_sem, ↓reduceIte, Nat.reduceAdd, Nat.reduceSub, Nat.reduceMul, Nat.reduceEqDiff, Nat.reduceLT, Nat.reduceLeDiff, Int.reduceToNat, Int.reduceLE, Int.reduceLT, Int.reduceEq, Int.reduceNeg, reduceCtorEq]
  refine ⟨by simp, ?_⟩
  refine ⟨fun c1 => ?_, fun c1 => ⟨fun c2 => ?_, fun c2 => ?_⟩⟩
  · simp only [Bool.not_eq_true'] at c1; simp [airRust, c1]
  · simp only [Bool.not_eq_true', Bool.not_eq_false'] at c1 c2; simp [airRust, c1, c2]
  simp only [Bool.not_eq_false'] at c2
  have hlim := in3_iff.1 c2
  simp only [Bool.not_eq_false'] at c1
  obtain ⟨v1, v2, v3, v4⟩ := valid_iff.1 c1
  have hA := (airB_iff.1 v1).1
  have hlo := fun i (hi : i ≤ k) => atL_bd v1 v4 (w := wl) (by omega) i hi
  have hhi := fun i (hi : i ≤ k) => atH_bd v1 v4 (w := wh) (by omega) i hi
  refine ⟨⟨by kernel_rfl, by kernel_rfl⟩, ⟨by kernel_rfl, by kernel_rfl⟩, ?_⟩
  refine loop_ofH { i : Nat // i ≤ k } (fun i => [(18, .int .i64 (i.1 : Int)), (17, .int .i64 (k : Int)), (16, .row k 8 fun i j => .int .i64 (l i j)), (6, .meth 65 [.agg [.func 63 [], .int .i64 (atH R n T H bh l wh i.1).w, .int .i64 (atH R n T H bh l wh i.1).ca, .int .i64 (atH R n T H bh l wh i.1).ou, .int .i64 (atH R n T H bh l wh i.1).dr, .int .i64 (atH R n T H bh l wh i.1).de]]), (5, .meth 65 [.agg [.func 62 [], .int .i64 (atL R n T H bl l wl i.1).w, .int .i64 (atL R n T H bl l wl i.1).ca, .int .i64 (atL R n T H bl l wl i.1).ou, .int .i64 (atL R n T H bl l wl i.1).dr, .int .i64 (atL R n T H bl l wl i.1).de]]), (3, .ptr 10 0), (0, .yield 12)])
    (fun h i => ⟨setB (setB h.blks 5 (.live 85 [.vec 0 i.1])) 6 (.live 85 [.vec 1 i.1]), [.live i.1 4 1 i.1 fun a _ => .bool (rusL R n T H bl l wl lim a), .live i.1 4 1 i.1 fun a _ => .bool (rusH R n T H bh l wh lim a)]⟩) (fun i => k - i.1) (fun _ => ⟨(lenB_set _ _ _).trans (lenB_set _ _ _), rfl⟩) ⟨0, by omega⟩ (by apply sub_of <;> simp only [go_sem, ↓reduceIte, Nat.reduceAdd, Nat.reduceSub, Nat.reduceMul, Nat.reduceEqDiff, Nat.reduceLT, Nat.reduceLeDiff, Int.reduceToNat, Int.reduceLE, Int.reduceLT, Int.reduceEq, Int.reduceNeg, reduceCtorEq] <;> (try simp [atL, atH]) <;> (try simp) <;> (try exact fun j _ => Bd_nth (by simp [BdL, Bd]) j) <;> (try exact bd_setL (by simp [bdAs, BdL, Bd]))) ?_
  rintro ⟨i, hi⟩
  simp only [areValid_eq, step_eq, in2_eq, holds_eq, count_eq, p17_6, p17_9, p17_10, p17_11, p64_0, p64_4, p64_6, spn, crs, Try.f36, Try.f37, Try.f64, Try.f17, go_sem, ↓reduceIte, Nat.reduceAdd, Nat.reduceSub, Nat.reduceMul, Nat.reduceEqDiff, Nat.reduceLT, Nat.reduceLeDiff, Int.reduceToNat, Int.reduceLE, Int.reduceLT, Int.reduceEq, Int.reduceNeg, reduceCtorEq]
  have hw3 : IntKind.i64.wrap ((i : Int) + 1) = ((i + 1 : Nat) : Int) := by rw [wrap_id (by omega) (by omega)]; omega
  refine ⟨fun e1 => ?_, fun e1 => ?_⟩
  · simp only [decide_eq_true_eq] at e1
    have ik : i < k := by omega
    obtain ⟨a1, a2, a3, a4, a5⟩ := hlo i hi
    obtain ⟨b1, b2, b3, b4, b5⟩ := hhi i hi
    obtain ⟨a1', a2', a3', a4', a5'⟩ := hlo (i + 1) ik
    obtain ⟨b1', b2', b3', b4', b5'⟩ := hhi (i + 1) ik
    have sL := okS_sp (R := R) (bl := bl) (bh := bh) (v4 i ik) a1
    have sH := okS_sp (R := R) (bl := bl) (bh := bh) (v4 i ik) b1
    have m1 : smB (atL R n T H bl l wl i).ca ∧ smB (atL R n T H bl l wl i).ou ∧ smB (atL R n T H bl l wl i).dr ∧ smB (atL R n T H bl l wl i).de := by unfold smB; omega
    have m2 : smB (atH R n T H bh l wh i).ca ∧ smB (atH R n T H bh l wh i).ou ∧ smB (atH R n T H bh l wh i).dr ∧ smB (atH R n T H bh l wh i).de := by unfold smB; omega
    have p1 := And.intro (show True ∨ False from .inl trivial) (And.intro v1 (And.intro sL m1))
    have p2 := And.intro (show False ∨ True from .inr trivial) (And.intro v1 (And.intro sH m2))
    obtain ⟨v, hv, w1, w2, w3, w4, w5, w6⟩ := holdV_bd v1 sL.2.1
    have m0 : 0 ≤ lim * holdV R n T H (l i 0) := Int.mul_nonneg (by omega) (by omega)
    have m1 : lim * holdV R n T H (l i 0) ≤ 1000 * 104857600000 := Int.mul_le_mul (by omega) w6 (by omega) (by omega)
    have x1 : IntKind.i64.wrap (lim * holdV R n T H (l i 0)) = lim * holdV R n T H (l i 0) := wrap_id (by omega) (by omega)
    have x1' : IntKind.i64.wrap (holdV R n T H (l i 0) * lim) = lim * holdV R n T H (l i 0) := by rw [Int.mul_comm]; exact x1
    have x2 : IntKind.i64.wrap ((lowF R n T H bl (atL R n T H bl l wl i).w (l i 0) (l i 1) (l i 2) (l i 3) (l i 5) (l i 7)).water * 1000) = (atL R n T H bl l wl (i + 1)).w * 1000 := wrap_id (x := (atL R n T H bl l wl (i + 1)).w * 1000) (by omega) (by omega)
    have x3 : IntKind.i64.wrap ((lowF R n T H bh (atH R n T H bh l wh i).w (l i 0) (l i 1) (l i 2) (l i 4) (l i 6) (l i 7)).water * 1000) = (atH R n T H bh l wh (i + 1)).w * 1000 := wrap_id (x := (atH R n T H bh l wh (i + 1)).w * 1000) (by omega) (by omega)
    have n1 := cntP_rng (rusL R n T H bl l wl lim) i
    have n2 := cntP_rng (rusH R n T H bh l wh lim) i
    have x4 : IntKind.i64.wrap (cntP (rusL R n T H bl l wl lim) i + 1) = cntP (rusL R n T H bl l wl lim) i + 1 := wrap_id (by omega) (by omega)
    have x5 : IntKind.i64.wrap (cntP (rusH R n T H bh l wh lim) i + 1) = cntP (rusH R n T H bh l wh lim) i + 1 := wrap_id (by omega) (by omega)
    have g1 : rusL R n T H bl l wl lim i = decide (lim * holdV R n T H (l i 0) < (atL R n T H bl l wl (i + 1)).w * 1000) := rfl
    have g2 : rusH R n T H bh l wh lim i = decide (lim * holdV R n T H (l i 0) < (atH R n T H bh l wh (i + 1)).w * 1000) := rfl
    simp only [x1, x1', x2, x3, x4, x5, ← g1, ← g2]
    repeat' with_reducible refine And.intro ?_ ?_
    all_goals first
      | exact v1 | exact sL.2.1 | exact sL | exact sH | exact .inl trivial | exact .inr trivial | (show planOk _ _ = true; kernel_rfl) | (show keepOk _ _ = true; kernel_rfl) | omega | (unfold smB; omega)
      | (refine ⟨⟨i + 1, by omega⟩, by simp only []; omega, ?_⟩
         apply sub_of <;> simp only [hw3, go_sem, ↓reduceIte, Nat.reduceAdd, Nat.reduceSub, Nat.reduceMul, Nat.reduceEqDiff, Nat.reduceLT, Nat.reduceLeDiff, Int.reduceToNat, Int.reduceLE, Int.reduceLT, Int.reduceEq, Int.reduceNeg, reduceCtorEq] <;> (try simp [atL, atH, stL, stH]) <;> (try simp) <;> (try exact fun j _ => Bd_nth (by simp [BdL, Bd]) j) <;> (try exact bd_setL (by simp [bdAs, BdL, Bd]))
         first | done | exact ⟨fun a ha => row_b ha, fun a ha => row_b ha⟩)
  · simp only [decide_eq_false_iff_not] at e1
    obtain rfl : i = k := by omega
    refine ⟨⟨by kernel_rfl, by kernel_rfl⟩, by omega, by omega, ?_⟩
    simp [airRust, c1, c2]
end Go.Eng
end
