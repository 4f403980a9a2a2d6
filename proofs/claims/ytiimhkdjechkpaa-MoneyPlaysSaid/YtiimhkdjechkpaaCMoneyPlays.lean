/-
  MoneyPlays: for every input the law returns true, and each argument reads afterwards as it read before. No condition.
-/
import Derived.Test.YtiimhkdjechkpaaRows
import Derived.WalkKit
import Derived.Test.YtiimhkdjechkpaaM2
set_option linter.unusedSimpArgs false
set_option linter.unusedVariables false
/- money: results that the document fixes. -/
section
namespace Go.Eng
open Go Go.RowKit Go.Proofs
set_option maxRecDepth 100000
set_option maxHeartbeats 4000000
attribute [local irreducible] OwnT DefS
def awakeBase : BaseF := fun args => match args with
  | [] => some (True, .bool true)
  | _ => none
theorem awake_eq  : awakeBase [] = some (True, .bool true) := rfl
theorem awake_base : Base Try.prog 11 awakeBase := by
  intro args p v hq hp
  unfold awakeBase at hq
  split at hq
  rotate_left
  · cases hq
  cases hq
  refine base_of (C := cx [] [] [(12, cheapestBase), (16, splitBase), (18, playBase), (20, below_Base), (22, enoughBase), (14, intsBase)] [] none) (cx_ok trivial ⟨cheapest_base, split_base, play_base, below__base, enough_base, ints_base, trivial⟩) rfl (g := 11) (fn := Try.f11)
    (args' := []) (fn_11) rfl 1000 (by simp only [BdL, Bd, and_self, and_true, true_and]) trivial ?_
  simp only [cheapest_eq, split_eq, play_eq, below__eq, enough_eq, ints_eq, Try.f31, Try.f32, Try.f11, go_sem, ↓reduceIte, Nat.reduceAdd, Nat.reduceSub, Nat.reduceMul, Nat.reduceEqDiff, Nat.reduceLT, Nat.reduceLeDiff, Int.reduceToNat, Int.reduceLE, Int.reduceLT, Int.reduceEq, Int.reduceNeg, reduceCtorEq]
  refine ⟨intRb_ok (by kernel_rfl), ⟨nestRb_ok (by kernel_rfl), fun i hi => ?_⟩, ⟨intRb_ok (by kernel_rfl), intRb_ok (by kernel_rfl)⟩, intRb_ok (by kernel_rfl), intRb_ok (by kernel_rfl), ⟨intRb_ok (by kernel_rfl), of_decide_eq_true (by kernel_rfl)⟩, spl_f (by kernel_rfl) ?_⟩
  · have : i = 0 ∨ i = 1 ∨ i = 2 := by omega
    rcases this with rfl | rfl | rfl <;> decide +kernel
  refine spl_f (by kernel_rfl) (spl_f (by kernel_rfl) ⟨⟨intRb_ok (by kernel_rfl), of_decide_eq_true (by kernel_rfl)⟩, ?_⟩)
  refine spl_f (by kernel_rfl) (spl_f (by kernel_rfl) (spl_f (by kernel_rfl) ?_))
  refine spl_f (by kernel_rfl) (spl_f (by kernel_rfl) (spl_t (by kernel_rfl) (spl_t (by kernel_rfl) (spl_t (by kernel_rfl) (spl_t (by kernel_rfl) ?_)))))
  congr 1
theorem visits_no {n : Nat} {M : Nat → Nat} (h : (decide (68 < n) || !allU (fun i => decide (70 ≤ i) || decide (M i ≤ 132)) n) = false) : n ≤ 68 ∧ ∀ i, i < n → M i ≤ 132 := by
  simp only [Bool.or_eq_false_iff, decide_eq_false_iff_not, Bool.not_eq_false'] at h
  refine ⟨by omega, fun i hi => ?_⟩
  have := allU_iff.1 h.2 i hi
  simp at this
  omega
def moneyPlaysBase : BaseF := fun args => match args with
  | [.row n sz_A f_A, .int .i64 h, .row p sz_lim f_lim, .row q sz_ent f_ent, .agg [.int .i64 a, .int .i64 b], .row r sz_bud f_bud] => some ((sz_A = 2 ∧ NestR n 2 1 1 f_A) ∧ (sz_lim = 1 ∧ IntR p 1 f_lim) ∧ (sz_ent = 4 ∧ IntR q 4 f_ent) ∧ (sz_bud = 5 ∧ IntR r 5 f_bud), .bool true)
  | _ => none
theorem moneyPlays_eq (n : Nat) (sz_A : Nat) (f_A : Nat → Nat → SV) (h : Int) (p : Nat) (sz_lim : Nat) (f_lim : Nat → Nat → SV) (q : Nat) (sz_ent : Nat) (f_ent : Nat → Nat → SV) (a : Int) (b : Int) (r : Nat) (sz_bud : Nat) (f_bud : Nat → Nat → SV) : moneyPlaysBase [.row n sz_A f_A, .int .i64 h, .row p sz_lim f_lim, .row q sz_ent f_ent, .agg [.int .i64 a, .int .i64 b], .row r sz_bud f_bud] = some ((sz_A = 2 ∧ NestR n 2 1 1 f_A) ∧ (sz_lim = 1 ∧ IntR p 1 f_lim) ∧ (sz_ent = 4 ∧ IntR q 4 f_ent) ∧ (sz_bud = 5 ∧ IntR r 5 f_bud), .bool true) := rfl
theorem moneyPlays_base : Base Try.prog 4 moneyPlaysBase := by
  intro args p v hq hp
  unfold moneyPlaysBase at hq
  split at hq
  rotate_left
  · cases hq
  rename_i n sz_A f_A h p sz_lim f_lim q sz_ent f_ent a b r sz_bud f_bud
  cases hq
  obtain ⟨⟨rfl, i_A⟩, ⟨rfl, i_lim⟩, ⟨rfl, i_ent⟩, ⟨rfl, i_bud⟩⟩ := hp
  refine base_of (C := cx [] [] [(11, awakeBase), (15, visitsBase), (16, splitBase), (17, splitRBase), (18, playBase), (19, playRBase), (20, below_Base), (21, belowRBase), (22, enoughBase), (23, enoughRBase), (14, intsBase)] [] none) (cx_ok trivial ⟨awake_base, visits_base, split_base, splitR_base, play_base, playR_base, below__base, belowR_base, enough_base, enoughR_base, ints_base, trivial⟩) rfl (g := 4) (fn := Try.f4)
    (args' := [.row n 2 (nestF 1 1 (nsA f_A) (nsM 1 f_A) (nsV 1 f_A)), .int .i64 h, .row p 1 (rowF .i64 (ivf f_lim)), .row q 4 (rowF .i64 (ivf f_ent)), .agg [.int .i64 a, .int .i64 b], .row r 5 (rowF .i64 (ivf f_bud))]) (fn_4) rfl 1000 (by
    simp only [BdL, Bd, and_self, and_true, true_and]
    exact ⟨(fun i j hi hj => nest_bd i_A i j hi hj), (fun i j hi hj => by rw [i_lim i j hi hj]; trivial), (fun i j hi hj => by rw [i_ent i j hi hj]; trivial), (fun i j hi hj => by rw [i_bud i j hi hj]; trivial)⟩) ⟨SameD.nest i_A, SameD.rfl' _, SameD.int i_lim, SameD.int i_ent, SameD.rfl' _, SameD.int i_bud, trivial⟩ ?_
  generalize nsA f_A = A
  generalize nsM 1 f_A = M
  generalize nsV 1 f_A = V
  generalize ivf f_lim = lim
  generalize ivf f_ent = ent
  generalize ivf f_bud = bud
  simp only [rowF_eq]
  simp only [awake_eq, visits_eq, split_eq, splitR_eq, play_eq, playR_eq, below__eq, belowR_eq, enough_eq, enoughR_eq, ints_eq, nestF_eq, nestR_lit, nsM_lit, nsV_lit, Try.f4, go_sem, ↓reduceIte, Nat.reduceAdd, Nat.reduceSub, Nat.reduceMul, Nat.reduceEqDiff, Nat.reduceLT, Nat.reduceLeDiff, Int.reduceToNat, Int.reduceLE, Int.reduceLT, Int.reduceEq, Int.reduceNeg, reduceCtorEq]
  refine ⟨fun _ => trivial, fun c1 => ⟨fun _ => trivial, fun c2 => ⟨fun _ => trivial, fun c3 => ⟨fun _ => trivial, fun c4 => ?_⟩⟩⟩⟩
  obtain ⟨hn, hM⟩ := visits_no c1
  simp only [decide_eq_false_iff_not] at c2 c3 c4
  have h1 : n ≤ 1000000 ∧ ∀ i, i < n → M i ≤ 1000000 := ⟨by omega, fun i hi => by have := hM i hi; omega⟩
  have h2 : p ≤ 1000000 ∧ q ≤ 1000000 := ⟨by omega, by omega⟩
  have h3 := splN_bd n (nsA (nestF 1 1 A M V)) M V h
  have h4 : plyN p lim q ent ≤ p := by unfold plyN; split <;> omega
  refine ⟨h1, h1, h2, h2, by omega, by omega, by omega, by omega, by omega, spl_f (by rw [allU_true (fun _ _ => rfl)]; rfl) ⟨by omega, spl_f (by rw [allU_true (fun _ _ => rfl)]; rfl) trivial⟩⟩
end Go.Eng
end

/-
  MoneyPlays: for every input the law returns true, and each argument reads afterwards as it read before. No condition.
-/
section
namespace Go.Proofs.Ytiimhkdjechkpaa.moneyPlays
open Go.ChangeShapes Go.WideShapes Go.ChangeAt Go.RowKit Go.Eng
set_option linter.unusedVariables false
theorem own : ownKnob Try.prog.godebug = none := by kernel_rfl
theorem laid : laidOutB Try.prog = true := by kernel_rfl
set_option maxRecDepth 100000 in
theorem lifted (os : Os) (started : os.Started) (H : Type) (enc : TypeId × Value → H) :
    ReturnsInHanded {} Try.checked os 4 .any (Rows.moneyPlaysSpec.pre6 enc Try.prog Try.f4 Rows.moneyPlaysRow.domain false) (Rows.moneyPlaysSpec.post enc Try.prog Try.f4 false true false false) := by
  refine returnsInHanded_of_change (C := Try.checked) own started (by kernel_rfl) Try.func4
    (ChangeSpec.witness6 (enc := enc) (C := Try.checked) false ⟨#[], #[.slice none 0 0, .int .i64 0, .slice none 0 0, .slice none 0 0, .agg #[.int .i64 0, .int .i64 0], .slice none 0 0], []⟩ 8 (by kernel_rfl) (by kernel_rfl) (by kernel_rfl) (by kernel_rfl)) ?_
  intro W base args ds gs before hval0 hW hcnd _
  have hval : ∀ (j : Nat) t v, Try.f4.params[j]? = some t → args[j]? = some v → Value.okWide Try.prog W .any base t v := hval0
  have hW' := hW
  obtain ⟨p, q, hA0, hV, rfl, hfz, hnd⟩ := hW
  have hA : DataW.TrodAll enc Try.prog W 0 (fun _ => true) true Try.f4.params.toList args.toList ds p := hA0
  rw [Try.params4] at hA hval
  obtain ⟨v0, vs0, d0, ds0, p0, q0, hargs, rfl, rfl, h0, r0⟩ := trodAll_cons hA
  obtain ⟨v1, vs1, d1, ds1, p1, q1, rfl, rfl, rfl, h1, r1⟩ := trodAll_cons r0
  obtain ⟨v2, vs2, d2, ds2, p2, q2, rfl, rfl, rfl, h2, r2⟩ := trodAll_cons r1
  obtain ⟨v3, vs3, d3, ds3, p3, q3, rfl, rfl, rfl, h3, r3⟩ := trodAll_cons r2
  obtain ⟨v4, vs4, d4, ds4, p4, q4, rfl, rfl, rfl, h4, r4⟩ := trodAll_cons r3
  obtain ⟨v5, vs5, d5, ds5, p5, q5, rfl, rfl, rfl, h5, r5⟩ := trodAll_cons r4
  obtain ⟨rfl, rfl, rfl⟩ := trodAll_nil r5
  obtain rfl : args = #[v0, v1, v2, v3, v4, v5] := by cases args; simp_all
  obtain ⟨rfl, rfl⟩ := trodVars_none hV
  obtain ⟨n0, f0, e0, m0, t0⟩ := arg_row (s := [.int .i64, .sl [.int .i64]]) Try.underlying31 (by kernel_rfl) (hval 0 31 v0 rfl rfl) h0
  obtain ⟨i0, b0, c0, g0⟩ := nestR_typ (sz := 2) (k := 1) (s := 1) (by intro j hj hk; rcases (show j = 0 ∨ j = 1 by omega) with rfl | rfl <;> first | rfl | exact absurd rfl hk) rfl t0
  obtain ⟨x1, rfl, rfl, rfl, w1⟩ := open_int Try.underlying3 (hval 1 3 v1 rfl rfl) h1
  obtain ⟨n2, f2, e2, m2, t2⟩ := arg_row (s := [.int .i64]) Try.underlying25 (by kernel_rfl) (hval 2 25 v2 rfl rfl) h2
  obtain ⟨i2, b2⟩ := intK_of_typ (k := .i64) (c := 1) rfl t2
  obtain ⟨n3, f3, e3, m3, t3⟩ := arg_row (s := [.int .i64, .int .i64, .int .i64, .int .i64]) Try.underlying32 (by kernel_rfl) (hval 3 32 v3 rfl rfl) h3
  obtain ⟨i3, b3⟩ := intK_of_typ (k := .i64) (c := 4) rfl t3
  obtain ⟨xs4, e4, l4, t4⟩ := arg_agg (shs := [.int .i64, .int .i64]) Try.underlying34 (by kernel_rfl) (hval 4 34 v4 rfl rfl) h4
  obtain ⟨a4_0, a4_1, rfl⟩ : ∃ a4_0 a4_1, xs4 = [a4_0, a4_1] := by
    match xs4, l4 with
    | [a4_0, a4_1], _ => exact ⟨a4_0, a4_1, rfl⟩
  obtain ⟨x4_0, rfl, w4_0⟩ := typ_int (t4 0 _ _ rfl rfl)
  obtain ⟨x4_1, rfl, w4_1⟩ := typ_int (t4 1 _ _ rfl rfl)
  obtain ⟨n5, f5, e5, m5, t5⟩ := arg_row (s := [.int .i64, .int .i64, .int .i64, .int .i64, .int .i64]) Try.underlying35 (by kernel_rfl) (hval 5 35 v5 rfl rfl) h5
  obtain ⟨i5, b5⟩ := intK_of_typ (k := .i64) (c := 5) rfl t5
  have hd : DenL Env.emp W [.row n0 2 f0, .int .i64 x1, .row n2 1 f2, .row n3 4 f3, .agg [.int .i64 x4_0, .int .i64 x4_1], .row n5 5 f5] [v0, .int .i64 x1, v2, v3, v4, v5] := ⟨e0, .int _ _, e2, e3, e4, e5, trivial⟩
  refine (law_calls moneyPlays_base (args := [.row n0 2 f0, .int .i64 x1, .row n2 1 f2, .row n3 4 f3, .agg [.int .i64 x4_0, .int .i64 x4_1], .row n5 5 f5]) rfl ⟨⟨rfl, i0⟩, ⟨rfl, fun i j hi hj => i2 i j hi hj⟩, ⟨rfl, fun i j hi hj => i3 i j hi hj⟩, ⟨rfl, fun i j hi hj => i5 i j hi hj⟩⟩ (denA_of hd)).mono fun e W' ⟨he, hb⟩ => ?_
  subst he
  exact ⟨_, rfl, law_end laid rfl Try.underlying4 (by kernel_rfl) rfl hW' rfl hb⟩
theorem over : Rows.moneyPlaysRow.holds Try.pinned (OpenSpec.ofChange Rows.moneyPlaysSpec) :=
  OpenClaim.holds_of_wide 4 Try.f4 rfl rfl rfl rfl rfl rfl rfl ⟨rfl, rfl, rfl, rfl, rfl⟩ rfl rfl rfl rfl rfl (by kernel_rfl) Try.func4 (by kernel_rfl)
    (of_decide_eq_true (by kernel_rfl)) (by unfold Func.isWrapper; first | (rw [if_pos (by decide +kernel)]; kernel_rfl) | (rw [if_neg (by decide +kernel)]; exact ⟨rfl, rfl⟩))
    (fun os started H enc _ => lifted os started H enc)
end Go.Proofs.Ytiimhkdjechkpaa.moneyPlays
namespace Go.Proofs.Ytiimhkdjechkpaa
/-- The given statement. -/
theorem moneyPlays_holds : Rows.MoneyPlaysSaid := moneyPlays.over
#print axioms moneyPlays_holds
end Go.Proofs.Ytiimhkdjechkpaa
end
