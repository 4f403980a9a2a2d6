/-
  MoneyGroups: for every input the law returns true, and each argument reads afterwards as it read before. No condition.
-/
import Derived.Test.YtiimhkdjechkpaaRows
import Derived.WalkKit
import Derived.Test.YtiimhkdjechkpaaM4
set_option linter.unusedSimpArgs false
set_option linter.unusedVariables false
/- money: two groups. -/
section
namespace Go.Eng
open Go Go.RowKit Go.Proofs
set_option maxRecDepth 100000
set_option maxHeartbeats 4000000
attribute [local irreducible] OwnT DefS
def moneyGroupsBase : BaseF := fun args => match args with
  | [.row n sz_l f_l, .int .i64 a, .int .i64 b, .int .i64 c, .int .i64 d] => some ((sz_l = 3 ∧ IntR n 3 f_l), .bool true)
  | _ => none
theorem moneyGroups_eq (n : Nat) (sz_l : Nat) (f_l : Nat → Nat → SV) (a : Int) (b : Int) (c : Int) (d : Int) : moneyGroupsBase [.row n sz_l f_l, .int .i64 a, .int .i64 b, .int .i64 c, .int .i64 d] = some ((sz_l = 3 ∧ IntR n 3 f_l), .bool true) := rfl
theorem moneyGroups_base : Base Try.prog 6 moneyGroupsBase := by
  intro args p v hq hp
  unfold moneyGroupsBase at hq
  split at hq
  rotate_left
  · cases hq
  rename_i n sz_l f_l a b c d
  cases hq
  obtain ⟨rfl, i_l⟩ := hp
  refine base_of (C := cx [] [] [(11, awakeBase), (12, cheapestBase)] [] none) (cx_ok trivial ⟨awake_base, cheapest_base, trivial⟩) rfl (g := 6) (fn := Try.f6)
    (args' := [.row n 3 (rowF .i64 (ivf f_l)), .int .i64 a, .int .i64 b, .int .i64 c, .int .i64 d]) (fn_6) rfl 1000 (by
    simp only [BdL, Bd, and_self, and_true, true_and]
    exact (fun i j hi hj => by rw [i_l i j hi hj]; trivial)) ⟨SameD.int i_l, SameD.rfl' _, SameD.rfl' _, SameD.rfl' _, SameD.rfl' _, trivial⟩ ?_
  generalize ivf f_l = l
  simp only [rowF_eq]
  simp only [awake_eq, cheapest_eq, Try.f6, go_sem, ↓reduceIte, Nat.reduceAdd, Nat.reduceSub, Nat.reduceMul, Nat.reduceEqDiff, Nat.reduceLT, Nat.reduceLeDiff, Int.reduceToNat, Int.reduceLE, Int.reduceLT, Int.reduceEq, Int.reduceNeg, reduceCtorEq]
  refine ⟨fun _ => trivial, fun c0 => ⟨by simp at c0; omega, by simp at c0; omega, fun _ => trivial, fun c1 => ⟨fun _ => trivial, fun c2 => ?_⟩⟩⟩
  have h1 : chpE n l a b = 0 := by simpa using c1
  have h2 : chpE n l c d = 0 := by simpa using c2
  obtain ⟨k1, k2, k3, k4, k5, k6, k7⟩ := chp_ok h1
  obtain ⟨_, _, k3', k4', _, _, _⟩ := chp_ok h2
  have p1 := chp_pos h1
  have p2 := chp_pos h2
  have w1 : IntKind.i64.wrap (a + c) = a + c := wrap_id (by omega) (by omega)
  have w2 : IntKind.i64.wrap (b + d) = b + d := wrap_id (by omega) (by omega)
  have w3 : IntKind.i64.wrap (chpP n l a b + chpP n l c d) = chpP n l a b + chpP n l c d := wrap_id (by omega) (by omega)
  rw [w1, w2, w3]
  refine spl_f (by simp; omega) (spl_f (by simp; omega) (spl_f (by simp; omega) (spl_f (by simp; omega) (spl_f (by simp; omega) (spl_f (by simp; omega) ⟨fun _ => trivial, fun c3 => ⟨fun _ => trivial, fun c4 => ?_⟩⟩)))))
  simp only [decide_eq_false_iff_not] at c3 c4
  obtain ⟨e1, e2⟩ := chp_both h1 h2 (by omega) (by omega)
  exact ⟨by omega, spl_t (by simpa using e1) (spl_t (by simpa using e2) trivial)⟩
end Go.Eng
end

/-
  MoneyGroups: for every input the law returns true, and each argument reads afterwards as it read before. No condition.
-/
section
namespace Go.Proofs.Ytiimhkdjechkpaa.moneyGroups
open Go.ChangeShapes Go.WideShapes Go.ChangeAt Go.RowKit Go.Eng
set_option linter.unusedVariables false
theorem own : ownKnob Try.prog.godebug = none := by kernel_rfl
theorem laid : laidOutB Try.prog = true := by kernel_rfl
set_option maxRecDepth 100000 in
theorem lifted (os : Os) (started : os.Started) (H : Type) (enc : TypeId × Value → H) :
    ReturnsInHanded {} Try.checked os 6 .any (Rows.moneyGroupsSpec.pre6 enc Try.prog Try.f6 Rows.moneyGroupsRow.domain false) (Rows.moneyGroupsSpec.post enc Try.prog Try.f6 false true false false) := by
  refine returnsInHanded_of_change (C := Try.checked) own started (by kernel_rfl) Try.func6
    (ChangeSpec.witness6 (enc := enc) (C := Try.checked) false ⟨#[], #[.slice none 0 0, .int .i64 0, .int .i64 0, .int .i64 0, .int .i64 0], []⟩ 8 (by kernel_rfl) (by kernel_rfl) (by kernel_rfl) (by kernel_rfl)) ?_
  intro W base args ds gs before hval0 hW hcnd _
  have hval : ∀ (j : Nat) t v, Try.f6.params[j]? = some t → args[j]? = some v → Value.okWide Try.prog W .any base t v := hval0
  have hW' := hW
  obtain ⟨p, q, hA0, hV, rfl, hfz, hnd⟩ := hW
  have hA : DataW.TrodAll enc Try.prog W 0 (fun _ => true) true Try.f6.params.toList args.toList ds p := hA0
  rw [Try.params6] at hA hval
  obtain ⟨v0, vs0, d0, ds0, p0, q0, hargs, rfl, rfl, h0, r0⟩ := trodAll_cons hA
  obtain ⟨v1, vs1, d1, ds1, p1, q1, rfl, rfl, rfl, h1, r1⟩ := trodAll_cons r0
  obtain ⟨v2, vs2, d2, ds2, p2, q2, rfl, rfl, rfl, h2, r2⟩ := trodAll_cons r1
  obtain ⟨v3, vs3, d3, ds3, p3, q3, rfl, rfl, rfl, h3, r3⟩ := trodAll_cons r2
  obtain ⟨v4, vs4, d4, ds4, p4, q4, rfl, rfl, rfl, h4, r4⟩ := trodAll_cons r3
  obtain ⟨rfl, rfl, rfl⟩ := trodAll_nil r4
  obtain rfl : args = #[v0, v1, v2, v3, v4] := by cases args; simp_all
  obtain ⟨rfl, rfl⟩ := trodVars_none hV
  obtain ⟨n0, f0, e0, m0, t0⟩ := arg_row (s := [.int .i64, .int .i64, .int .i64]) Try.underlying22 (by kernel_rfl) (hval 0 22 v0 rfl rfl) h0
  obtain ⟨i0, b0⟩ := intK_of_typ (k := .i64) (c := 3) rfl t0
  obtain ⟨x1, rfl, rfl, rfl, w1⟩ := open_int Try.underlying3 (hval 1 3 v1 rfl rfl) h1
  obtain ⟨x2, rfl, rfl, rfl, w2⟩ := open_int Try.underlying3 (hval 2 3 v2 rfl rfl) h2
  obtain ⟨x3, rfl, rfl, rfl, w3⟩ := open_int Try.underlying3 (hval 3 3 v3 rfl rfl) h3
  obtain ⟨x4, rfl, rfl, rfl, w4⟩ := open_int Try.underlying3 (hval 4 3 v4 rfl rfl) h4
  have hd : DenL Env.emp W [.row n0 3 f0, .int .i64 x1, .int .i64 x2, .int .i64 x3, .int .i64 x4] [v0, .int .i64 x1, .int .i64 x2, .int .i64 x3, .int .i64 x4] := ⟨e0, .int _ _, .int _ _, .int _ _, .int _ _, trivial⟩
  refine (law_calls moneyGroups_base (args := [.row n0 3 f0, .int .i64 x1, .int .i64 x2, .int .i64 x3, .int .i64 x4]) rfl ⟨rfl, fun i j hi hj => i0 i j hi hj⟩ (denA_of hd)).mono fun e W' ⟨he, hb⟩ => ?_
  subst he
  exact ⟨_, rfl, law_end laid rfl Try.underlying4 (by kernel_rfl) rfl hW' rfl hb⟩
theorem over : Rows.moneyGroupsRow.holds Try.pinned (OpenSpec.ofChange Rows.moneyGroupsSpec) :=
  OpenClaim.holds_of_wide 6 Try.f6 rfl rfl rfl rfl rfl rfl rfl ⟨rfl, rfl, rfl, rfl, rfl⟩ rfl rfl rfl rfl rfl (by kernel_rfl) Try.func6 (by kernel_rfl)
    (of_decide_eq_true (by kernel_rfl)) (by unfold Func.isWrapper; first | (rw [if_pos (by decide +kernel)]; kernel_rfl) | (rw [if_neg (by decide +kernel)]; exact ⟨rfl, rfl⟩))
    (fun os started H enc _ => lifted os started H enc)
end Go.Proofs.Ytiimhkdjechkpaa.moneyGroups
namespace Go.Proofs.Ytiimhkdjechkpaa
/-- The given statement. -/
theorem moneyGroups_holds : Rows.MoneyGroupsSaid := moneyGroups.over
#print axioms moneyGroups_holds
end Go.Proofs.Ytiimhkdjechkpaa
end
