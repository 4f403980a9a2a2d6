/-
  PanelCalls: for every input the law returns true, and each argument reads afterwards as it read before. No condition.
-/
import Derived.Test.YtnccjojfpkjihaaRows
import Derived.WalkKit
import Derived.Test.YtnccjojfpkjihaaK1
set_option linter.unusedSimpArgs false
set_option linter.unusedVariables false
/- panel: PanelCalls. -/
section
namespace Go.Eng
open Go Go.RowKit Go.Proofs
set_option maxRecDepth 100000
set_option maxHeartbeats 4000000
attribute [local irreducible] OwnT DefS
theorem ap_le (n : Nat) (c : Nat → Int) (m : Nat) (A : Nat → Nat → Int) (M : Nat → Nat) (V : Nat → Nat → Nat → Int) (fee : Int) : (apA n c m A M V fee).n ≤ n := by
  unfold apA
  repeat' split
  all_goals first | exact Nat.zero_le _ | exact Nat.le_refl _
def panelCallsBase : BaseF := fun args => match args with
  | [.int .i64 call, .row n sz_v f_v, .row q sz_c f_c, .row m sz_A f_A, .int .i64 fee] => some ((sz_v = 1 ∧ IntR n 1 f_v) ∧ (sz_c = 1 ∧ IntR q 1 f_c) ∧ (sz_A = 2 ∧ NestR m 2 1 1 f_A), .bool true)
  | _ => none
theorem panelCalls_eq (call : Int) (n : Nat) (sz_v : Nat) (f_v : Nat → Nat → SV) (q : Nat) (sz_c : Nat) (f_c : Nat → Nat → SV) (m : Nat) (sz_A : Nat) (f_A : Nat → Nat → SV) (fee : Int) : panelCallsBase [.int .i64 call, .row n sz_v f_v, .row q sz_c f_c, .row m sz_A f_A, .int .i64 fee] = some ((sz_v = 1 ∧ IntR n 1 f_v) ∧ (sz_c = 1 ∧ IntR q 1 f_c) ∧ (sz_A = 2 ∧ NestR m 2 1 1 f_A), .bool true) := rfl
theorem panelCalls_base : Base Try.prog 4 panelCallsBase := by
  intro args p v hq hp
  unfold panelCallsBase at hq
  split at hq
  rotate_left
  · cases hq
  rename_i call n sz_v f_v q sz_c f_c m sz_A f_A fee
  cases hq
  obtain ⟨⟨rfl, i_v⟩, ⟨rfl, i_c⟩, ⟨rfl, i_A⟩⟩ := hp
  refine base_of (C := cx [] [] [(13, awakeBase), (19, votesBase), (20, ReviewBase), (21, ReviewRBase), (22, appealsBase), (23, appealsRBase), (24, intsBase)] [] none) (cx_ok trivial ⟨awake_base, votes_base, Review_base, ReviewR_base, appeals_base, appealsR_base, ints_base, trivial⟩) rfl (g := 4) (fn := Try.f4)
    (args' := [.int .i64 call, .row n 1 (rowF .i64 (ivf f_v)), .row q 1 (rowF .i64 (ivf f_c)), .row m 2 (nestF 1 1 (nsA f_A) (nsM 1 f_A) (nsV 1 f_A)), .int .i64 fee]) (fn_4) rfl 1000 (by
    simp only [BdL, Bd, and_self, and_true, true_and]
    exact ⟨(fun i j hi hj => by rw [i_v i j hi hj]; trivial), (fun i j hi hj => by rw [i_c i j hi hj]; trivial), (fun i j hi hj => nest_bd i_A i j hi hj)⟩) ⟨SameD.rfl' _, SameD.int i_v, SameD.int i_c, SameD.nest i_A, SameD.rfl' _, trivial⟩ ?_
  generalize ivf f_v = v
  generalize ivf f_c = c
  generalize nsA f_A = A
  generalize nsM 1 f_A = M
  generalize nsV 1 f_A = V
  simp only [rowF_eq]
  simp only [awake_eq, votes_eq, Review_eq, ReviewR_eq, appeals_eq, appealsR_eq, ints_eq, nestF_eq, nestR_lit, nsM_lit, nsV_lit, Try.f4, go_sem, ↓reduceIte, Nat.reduceAdd, Nat.reduceSub, Nat.reduceMul, Nat.reduceEqDiff, Nat.reduceLT, Nat.reduceLeDiff, Int.reduceToNat, Int.reduceLE, Int.reduceLT, Int.reduceEq, Int.reduceNeg, reduceCtorEq]
  refine ⟨fun _ => trivial, fun c1 => ⟨fun _ => trivial, fun c2 => ⟨fun _ => trivial, fun c3 => ?_⟩⟩⟩
  simp only [decide_eq_false_iff_not] at c1 c2
  obtain ⟨v1, v2⟩ := voB_false c3
  have hM : ∀ i, i < m → M i ≤ 1000000 := fun i hi => by have := v2 i hi; omega
  refine ⟨by omega, by omega, ⟨by omega, by omega, hM⟩, ⟨by omega, by omega, hM⟩, fun _ => ⟨?_, fun _ => trivial, fun h => ?_⟩, fun h => ?_⟩
  · exact Nat.le_trans (ap_le _ _ _ _ _ _ _) (by omega)
  · rw [allU_true (fun _ _ => rfl)] at h; cases h
  · simp at h
end Go.Eng
end

/-
  PanelCalls: for every input the law returns true, and each argument reads afterwards as it read before. No condition.
-/
section
namespace Go.Proofs.Ytnccjojfpkjihaa.panelCalls
open Go.ChangeShapes Go.WideShapes Go.ChangeAt Go.RowKit Go.Eng
set_option linter.unusedVariables false
theorem own : ownKnob Try.prog.godebug = none := by kernel_rfl
theorem laid : laidOutB Try.prog = true := by kernel_rfl
set_option maxRecDepth 100000 in
theorem lifted (os : Os) (started : os.Started) (H : Type) (enc : TypeId × Value → H) :
    ReturnsInHanded {} Try.checked os 4 .any (Rows.panelCallsSpec.pre6 enc Try.prog Try.f4 Rows.panelCallsRow.domain false) (Rows.panelCallsSpec.post enc Try.prog Try.f4 false true false false) := by
  refine returnsInHanded_of_change (C := Try.checked) own started (by kernel_rfl) Try.func4
    (ChangeSpec.witness6 (enc := enc) (C := Try.checked) false ⟨#[], #[.int .i64 0, .slice none 0 0, .slice none 0 0, .slice none 0 0, .int .i64 0], []⟩ 8 (by kernel_rfl) (by kernel_rfl) (by kernel_rfl) (by kernel_rfl)) ?_
  intro W base args ds gs before hval0 hW hcnd _
  have hval : ∀ (j : Nat) t v, Try.f4.params[j]? = some t → args[j]? = some v → Value.okWide Try.prog W .any base t v := hval0
  have hW' := hW
  obtain ⟨p, q, hA0, hV, rfl, hfz, hnd⟩ := hW
  have hA : DataW.TrodAll enc Try.prog W 0 (fun _ => true) true Try.f4.params.toList args.toList ds p := hA0
  rw [Try.params4] at hA hval
  obtain ⟨v0, vs0, d0, ds0, p0, q0, hargs, rfl, rfl, h0, r0⟩ := trodAll_cons hA
  obtain ⟨v1, vs1, d1, ds1, p1, q1, rfl, rfl, rfl, h1, r1⟩ := trodAll_cons r0
  obtain ⟨v2, vs2, d2, ds2, p2, q2, rfl, rfl, rfl, h2, r2⟩ := trodAll_cons r1
  obtain ⟨v3, vs3, d3, ds3, p3, q3, rfl, rfl, rfl, h3, r3⟩ := trodAll_cons r2
  obtain ⟨v4, vs4, d4, ds4, p4, q4, rfl, rfl, rfl, h4, r4⟩ := trodAll_cons r3
  obtain ⟨rfl, rfl, rfl⟩ := trodAll_nil r4
  obtain rfl : args = #[v0, v1, v2, v3, v4] := by cases args; simp_all
  obtain ⟨rfl, rfl⟩ := trodVars_none hV
  obtain ⟨x0, rfl, rfl, rfl, w0⟩ := open_int Try.underlying3 (hval 0 3 v0 rfl rfl) h0
  obtain ⟨n1, f1, e1, m1, t1⟩ := arg_row (s := [.int .i64]) Try.underlying37 (by kernel_rfl) (hval 1 37 v1 rfl rfl) h1
  obtain ⟨i1, b1⟩ := intK_of_typ (k := .i64) (c := 1) rfl t1
  obtain ⟨n2, f2, e2, m2, t2⟩ := arg_row (s := [.int .i64]) Try.underlying37 (by kernel_rfl) (hval 2 37 v2 rfl rfl) h2
  obtain ⟨i2, b2⟩ := intK_of_typ (k := .i64) (c := 1) rfl t2
  obtain ⟨n3, f3, e3, m3, t3⟩ := arg_row (s := [.int .i64, .sl [.int .i64]]) Try.underlying38 (by kernel_rfl) (hval 3 38 v3 rfl rfl) h3
  obtain ⟨i3, b3, c3, g3⟩ := nestR_typ (sz := 2) (k := 1) (s := 1) (by intro j hj hk; rcases (show j = 0 ∨ j = 1 by omega) with rfl | rfl <;> first | rfl | exact absurd rfl hk) rfl t3
  obtain ⟨x4, rfl, rfl, rfl, w4⟩ := open_int Try.underlying3 (hval 4 3 v4 rfl rfl) h4
  have hd : DenL Env.emp W [.int .i64 x0, .row n1 1 f1, .row n2 1 f2, .row n3 2 f3, .int .i64 x4] [.int .i64 x0, v1, v2, v3, .int .i64 x4] := ⟨.int _ _, e1, e2, e3, .int _ _, trivial⟩
  refine (law_calls panelCalls_base (args := [.int .i64 x0, .row n1 1 f1, .row n2 1 f2, .row n3 2 f3, .int .i64 x4]) rfl ⟨⟨rfl, fun i j hi hj => i1 i j hi hj⟩, ⟨rfl, fun i j hi hj => i2 i j hi hj⟩, ⟨rfl, i3⟩⟩ (denA_of hd)).mono fun e W' ⟨he, hb⟩ => ?_
  subst he
  exact ⟨_, rfl, law_end laid rfl Try.underlying4 (by kernel_rfl) rfl hW' rfl hb⟩
theorem over : Rows.panelCallsRow.holds Try.pinned (OpenSpec.ofChange Rows.panelCallsSpec) :=
  OpenClaim.holds_of_wide 4 Try.f4 rfl rfl rfl rfl rfl rfl rfl ⟨rfl, rfl, rfl, rfl, rfl⟩ rfl rfl rfl rfl rfl (by kernel_rfl) Try.func4 (by kernel_rfl)
    (of_decide_eq_true (by kernel_rfl)) (by unfold Func.isWrapper; first | (rw [if_pos (by decide +kernel)]; kernel_rfl) | (rw [if_neg (by decide +kernel)]; exact ⟨rfl, rfl⟩))
    (fun os started H enc _ => lifted os started H enc)
end Go.Proofs.Ytnccjojfpkjihaa.panelCalls
namespace Go.Proofs.Ytnccjojfpkjihaa
/-- The given statement. -/
theorem panelCalls_holds : Rows.PanelCallsSaid := panelCalls.over
#print axioms panelCalls_holds
end Go.Proofs.Ytnccjojfpkjihaa
end
