/-
  A part of the symbolic machine, of its soundness, and of what functions compute. No condition.
-/
import Derived.Test.YtiimhkdjechkpaaM2
set_option linter.unusedSimpArgs false
set_option linter.unusedVariables false
/- money: results that the document fixes. -/
section
namespace Go.Eng
open Go Go.RowKit Go.Proofs
set_option maxRecDepth 100000
set_option maxHeartbeats 4000000
attribute [local irreducible] OwnT DefS
def awakeBase : BaseF := fun args => match args with
  | [] => some (True, .bool true)
  | _ => none
theorem awake_eq  : awakeBase [] = some (True, .bool true) := rfl
theorem awake_base : Base Try.prog 11 awakeBase := by
  intro args p v hq hp
  unfold awakeBase at hq
  split at hq
  rotate_left
  · cases hq
  cases hq
  refine base_of (C := cx [] [] [(12, cheapestBase), (16, splitBase), (18, playBase), (20, below_Base), (22, enoughBase), (14, intsBase)] [] none) (cx_ok trivial ⟨cheapest_base, split_base, play_base, below__base, enough_base, ints_base, trivial⟩) rfl (g := 11) (fn := Try.f11)
    (args' := []) (fn_11) rfl 1000 (by simp only [BdL, Bd, and_self, and_true, true_and]) trivial ?_
  simp only [cheapest_eq, split_eq, play_eq, below__eq, enough_eq, ints_eq, Try.f31, Try.f32, Try.f11, go_sem, ↓reduceIte, Nat.reduceAdd, Nat.reduceSub, Nat.reduceMul, Nat.reduceEqDiff, Nat.reduceLT, Nat.reduceLeDiff, Int.reduceToNat, Int.reduceLE, Int.reduceLT, Int.reduceEq, Int.reduceNeg, reduceCtorEq]
  refine ⟨intRb_ok (by kernel_rfl), ⟨nestRb_ok (by kernel_rfl), fun i hi => ?_⟩, ⟨intRb_ok (by kernel_rfl), intRb_ok (by kernel_rfl)⟩, intRb_ok (by kernel_rfl), intRb_ok (by kernel_rfl), ⟨intRb_ok (by kernel_rfl), of_decide_eq_true (by kernel_rfl)⟩, spl_f (by kernel_rfl) ?_⟩
  · have : i = 0 ∨ i = 1 ∨ i = 2 := by omega
    rcases this with rfl | rfl | rfl <;> decide +kernel
  refine spl_f (by kernel_rfl) (spl_f (by kernel_rfl) ⟨⟨intRb_ok (by kernel_rfl), of_decide_eq_true (by kernel_rfl)⟩, ?_⟩)
  refine spl_f (by kernel_rfl) (spl_f (by kernel_rfl) (spl_f (by kernel_rfl) ?_))
  refine spl_f (by kernel_rfl) (spl_f (by kernel_rfl) (spl_t (by kernel_rfl) (spl_t (by kernel_rfl) (spl_t (by kernel_rfl) (spl_t (by kernel_rfl) ?_)))))
  congr 1
theorem visits_no {n : Nat} {M : Nat → Nat} (h : (decide (68 < n) || !allU (fun i => decide (70 ≤ i) || decide (M i ≤ 132)) n) = false) : n ≤ 68 ∧ ∀ i, i < n → M i ≤ 132 := by
  simp only [Bool.or_eq_false_iff, decide_eq_false_iff_not, Bool.not_eq_false'] at h
  refine ⟨by omega, fun i hi => ?_⟩
  have := allU_iff.1 h.2 i hi
  simp at this
  omega
def moneyPlaysBase : BaseF := fun args => match args with
  | [.row n sz_A f_A, .int .i64 h, .row p sz_lim f_lim, .row q sz_ent f_ent, .agg [.int .i64 a, .int .i64 b], .row r sz_bud f_bud] => some ((sz_A = 2 ∧ NestR n 2 1 1 f_A) ∧ (sz_lim = 1 ∧ IntR p 1 f_lim) ∧ (sz_ent = 4 ∧ IntR q 4 f_ent) ∧ (sz_bud = 5 ∧ IntR r 5 f_bud), .bool true)
  | _ => none
theorem moneyPlays_eq (n : Nat) (sz_A : Nat) (f_A : Nat → Nat → SV) (h : Int) (p : Nat) (sz_lim : Nat) (f_lim : Nat → Nat → SV) (q : Nat) (sz_ent : Nat) (f_ent : Nat → Nat → SV) (a : Int) (b : Int) (r : Nat) (sz_bud : Nat) (f_bud : Nat → Nat → SV) : moneyPlaysBase [.row n sz_A f_A, .int .i64 h, .row p sz_lim f_lim, .row q sz_ent f_ent, .agg [.int .i64 a, .int .i64 b], .row r sz_bud f_bud] = some ((sz_A = 2 ∧ NestR n 2 1 1 f_A) ∧ (sz_lim = 1 ∧ IntR p 1 f_lim) ∧ (sz_ent = 4 ∧ IntR q 4 f_ent) ∧ (sz_bud = 5 ∧ IntR r 5 f_bud), .bool true) := rfl
theorem moneyPlays_base : Base Try.prog 4 moneyPlaysBase := by
  intro args p v hq hp
  unfold moneyPlaysBase at hq
  split at hq
  rotate_left
  · cases hq
  rename_i n sz_A f_A h p sz_lim f_lim q sz_ent f_ent a b r sz_bud f_bud
  cases hq
  obtain ⟨⟨rfl, i_A⟩, ⟨rfl, i_lim⟩, ⟨rfl, i_ent⟩, ⟨rfl, i_bud⟩⟩ := hp
  refine base_of (C := cx [] [] [(11, awakeBase), (15, visitsBase), (16, splitBase), (17, splitRBase), (18, playBase), (19, playRBase), (20, below_Base), (21, belowRBase), (22, enoughBase), (23, enoughRBase), (14, intsBase)] [] none) (cx_ok trivial ⟨awake_base, visits_base, split_base, splitR_base, play_base, playR_base, below__base, belowR_base, enough_base, enoughR_base, ints_base, trivial⟩) rfl (g := 4) (fn := Try.f4)
    (args' := [.row n 2 (nestF 1 1 (nsA f_A) (nsM 1 f_A) (nsV 1 f_A)), .int .i64 h, .row p 1 (rowF .i64 (ivf f_lim)), .row q 4 (rowF .i64 (ivf f_ent)), .agg [.int .i64 a, .int .i64 b], .row r 5 (rowF .i64 (ivf f_bud))]) (fn_4) rfl 1000 (by
    simp only [BdL, Bd, and_self, and_true, true_and]
    exact ⟨(fun i j hi hj => nest_bd i_A i j hi hj), (fun i j hi hj => by rw [i_lim i j hi hj]; trivial), (fun i j hi hj => by rw [i_ent i j hi hj]; trivial), (fun i j hi hj => by rw [i_bud i j hi hj]; trivial)⟩) ⟨SameD.nest i_A, SameD.rfl' _, SameD.int i_lim, SameD.int i_ent, SameD.rfl' _, SameD.int i_bud, trivial⟩ ?_
  generalize nsA f_A = A
  generalize nsM 1 f_A = M
  generalize nsV 1 f_A = V
  generalize ivf f_lim = lim
  generalize ivf f_ent = ent
  generalize ivf f_bud = bud
  simp only [rowF_eq]
  simp only [awake_eq, visits_eq, split_eq, splitR_eq, play_eq, playR_eq, below__eq, belowR_eq, enough_eq, enoughR_eq, ints_eq, nestF_eq, nestR_lit, nsM_lit, nsV_lit, Try.f4, go_sem, ↓reduceIte, Nat.reduceAdd, Nat.reduceSub, Nat.reduceMul, Nat.reduceEqDiff, Nat.reduceLT, Nat.reduceLeDiff, Int.reduceToNat, Int.reduceLE, Int.reduceLT, Int.reduceEq, Int.reduceNeg, reduceCtorEq]
  refine ⟨fun _ => trivial, fun c1 => ⟨fun _ => trivial, fun c2 => ⟨fun _ => trivial, fun c3 => ⟨fun _ => trivial, fun c4 => ?_⟩⟩⟩⟩
  obtain ⟨hn, hM⟩ := visits_no c1
  simp only [decide_eq_false_iff_not] at c2 c3 c4
  have h1 : n ≤ 1000000 ∧ ∀ i, i < n → M i ≤ 1000000 := ⟨by omega, fun i hi => by have := hM i hi; omega⟩
  have h2 : p ≤ 1000000 ∧ q ≤ 1000000 := ⟨by omega, by omega⟩
  have h3 := splN_bd n (nsA (nestF 1 1 A M V)) M V h
  have h4 : plyN p lim q ent ≤ p := by unfold plyN; split <;> omega
  refine ⟨h1, h1, h2, h2, by omega, by omega, by omega, by omega, by omega, spl_f (by rw [allU_true (fun _ _ => rfl)]; rfl) ⟨by omega, spl_f (by rw [allU_true (fun _ _ => rfl)]; rfl) trivial⟩⟩
end Go.Eng
end
