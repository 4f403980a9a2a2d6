/-
  IcePlays: for every input the law returns true, and each argument reads afterwards as it read before. No condition.
-/
import Derived.Test.YtmpcdcphgepeiaaRows
import Derived.WalkKit
import Derived.Test.YtmpcdcphgepeiaaBR
set_option linter.unusedSimpArgs false
set_option linter.unusedVariables false
/-
  IcePlays: for every input the law returns true, and each argument reads afterwards as it read before. No condition.
-/
section
namespace Go.Proofs.Ytmpcdcphgepeiaa.icePlays
open Go.ChangeShapes Go.WideShapes Go.ChangeAt Go.RowKit Go.Eng
set_option linter.unusedVariables false
theorem own : ownKnob Try.prog.godebug = none := by kernel_rfl
theorem laid : laidOutB Try.prog = true := by kernel_rfl
set_option maxRecDepth 100000 in
theorem lifted (os : Os) (started : os.Started) (H : Type) (enc : TypeId × Value → H) :
    ReturnsInHanded {} Try.checked os 8 .any (Rows.icePlaysSpec.pre6 enc Try.prog Try.f8 Rows.icePlaysRow.domain false) (Rows.icePlaysSpec.post enc Try.prog Try.f8 false true false false) := by
  refine returnsInHanded_of_change (C := Try.checked) own started (by kernel_rfl) Try.func8
    (ChangeSpec.witness6 (enc := enc) (C := Try.checked) false ⟨#[], #[.slice none 0 0, .slice none 0 0, .int .i64 0], []⟩ 8 (by kernel_rfl) (by kernel_rfl) (by kernel_rfl) (by kernel_rfl)) ?_
  intro W base args ds gs before hval0 hW hcnd _
  have hval : ∀ (j : Nat) t v, Try.f8.params[j]? = some t → args[j]? = some v → Value.okWide Try.prog W .any base t v := hval0
  have hW' := hW
  obtain ⟨p, q, hA0, hV, rfl, hfz, hnd⟩ := hW
  have hA : DataW.TrodAll enc Try.prog W 0 (fun _ => true) true Try.f8.params.toList args.toList ds p := hA0
  rw [Try.params8] at hA hval
  obtain ⟨v0, vs0, d0, ds0, p0, q0, hargs, rfl, rfl, h0, r0⟩ := trodAll_cons hA
  obtain ⟨v1, vs1, d1, ds1, p1, q1, rfl, rfl, rfl, h1, r1⟩ := trodAll_cons r0
  obtain ⟨v2, vs2, d2, ds2, p2, q2, rfl, rfl, rfl, h2, r2⟩ := trodAll_cons r1
  obtain ⟨rfl, rfl, rfl⟩ := trodAll_nil r2
  obtain rfl : args = #[v0, v1, v2] := by cases args; simp_all
  obtain ⟨rfl, rfl⟩ := trodVars_none hV
  obtain ⟨n0, f0, e0, m0, t0⟩ := arg_row (s := [.int .i64, .int .i64, .int .i64, .int .i64]) Try.underlying22 (by kernel_rfl) (hval 0 22 v0 rfl rfl) h0
  obtain ⟨i0, b0⟩ := intK_of_typ (k := .i64) (c := 4) rfl t0
  obtain ⟨n1, f1, e1, m1, t1⟩ := arg_row (s := [.int .i64, .int .i64, .int .i64, .int .i64, .int .i64]) Try.underlying30 (by kernel_rfl) (hval 1 30 v1 rfl rfl) h1
  obtain ⟨i1, b1⟩ := intK_of_typ (k := .i64) (c := 5) rfl t1
  obtain ⟨x2, rfl, rfl, rfl, w2⟩ := open_int Try.underlying3 (hval 2 3 v2 rfl rfl) h2
  have hd : DenL Env.emp W [.row n0 4 f0, .row n1 5 f1, .int .i64 x2] [v0, v1, .int .i64 x2] := ⟨e0, e1, .int _ _, trivial⟩
  refine (law_calls icePlays_base (args := [.row n0 4 f0, .row n1 5 f1, .int .i64 x2]) rfl ⟨⟨rfl, fun i j hi hj => i0 i j hi hj⟩, ⟨rfl, fun i j hi hj => i1 i j hi hj⟩⟩ (denA_of hd)).mono fun e W' ⟨he, hb⟩ => ?_
  subst he
  exact ⟨_, rfl, law_end laid rfl Try.underlying4 (by kernel_rfl) rfl hW' rfl hb⟩
theorem over : Rows.icePlaysRow.holds Try.pinned (OpenSpec.ofChange Rows.icePlaysSpec) :=
  OpenClaim.holds_of_wide 8 Try.f8 rfl rfl rfl rfl rfl rfl rfl ⟨rfl, rfl, rfl, rfl, rfl⟩ rfl rfl rfl rfl rfl (by kernel_rfl) Try.func8 (by kernel_rfl)
    (of_decide_eq_true (by kernel_rfl)) (by unfold Func.isWrapper; first | (rw [if_pos (by decide +kernel)]; kernel_rfl) | (rw [if_neg (by decide +kernel)]; exact ⟨rfl, rfl⟩))
    (fun os started H enc _ => lifted os started H enc)
end Go.Proofs.Ytmpcdcphgepeiaa.icePlays
namespace Go.Proofs.Ytmpcdcphgepeiaa
/-- The given statement. -/
theorem icePlays_holds : Rows.IcePlaysSaid := icePlays.over
#print axioms icePlays_holds
end Go.Proofs.Ytmpcdcphgepeiaa
end
