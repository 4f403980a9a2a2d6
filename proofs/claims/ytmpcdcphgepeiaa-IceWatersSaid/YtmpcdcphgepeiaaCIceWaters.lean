/-
  IceWaters: for every input the law returns true, and each argument reads afterwards as it read before. No condition.
-/
import Derived.Test.YtmpcdcphgepeiaaRows
import Derived.WalkKit
import Derived.Test.YtmpcdcphgepeiaaBR
set_option linter.unusedSimpArgs false
set_option linter.unusedVariables false
/- IceWaters: its call returns true. -/
section
namespace Go.Eng
open Go Go.RowKit Go.Proofs
set_option maxRecDepth 100000
set_option maxHeartbeats 4000000
attribute [local irreducible] OwnT DefS
def iceWatersBase : BaseF := fun args => match args with
  | [.row n sz_z f_z, .agg [.int .i64 wl, .int .i64 wh], .agg [.int .i64 pl, .int .i64 ph], .int .i64 passes, .int .i64 least, .int .i64 most] => some ((sz_z = 4 ∧ IntR n 4 f_z), .bool true)
  | _ => none
theorem iceWaters_eq (n : Nat) (z : Nat → Nat → Int) (wl : Int) (wh : Int) (pl : Int) (ph : Int) (passes : Int) (least : Int) (most : Int) : iceWatersBase [.row n 4 (fun i j => .int .i64 (z i j)), .agg [.int .i64 wl, .int .i64 wh], .agg [.int .i64 pl, .int .i64 ph], .int .i64 passes, .int .i64 least, .int .i64 most] = some ((4 = 4 ∧ IntR n 4 (fun i j => .int .i64 (z i j))), .bool true) := rfl
theorem iceWaters_base : Base Try.prog 3 iceWatersBase := by
  intro args p v hq hp
  unfold iceWatersBase at hq
  split at hq
  rotate_left
  · cases hq
  rename_i n sz_z f_z wl wh pl ph passes least most
  cases hq
  obtain ⟨rfl, i_z⟩ := hp
  refine base_of (C := cx [] [] [(14, waterBase), (15, rwaterBase), (13, aliveBase)] [] none) (cx_ok trivial ⟨water_base, rwater_base, alive_base, trivial⟩) rfl (g := 3) (fn := Try.f3)
    (args' := [.row n 4 (rowF .i64 (fun i j => iv (f_z i j))), .agg [.int .i64 wl, .int .i64 wh], .agg [.int .i64 pl, .int .i64 ph], .int .i64 passes, .int .i64 least, .int .i64 most]) (fn_3) rfl 1000 (by simp only [BdL, Bd, and_self, and_true, true_and]; exact fun i j hi hj => by rw [i_z i j hi hj]; trivial) ⟨SameD.int i_z, SameD.rfl' _, SameD.rfl' _, SameD.rfl' _, SameD.rfl' _, SameD.rfl' _, trivial⟩ ?_
  generalize (fun i j => iv (f_z i j)) = z
  simp only [rowF_eq]
  simp only [alive_eq, water_at, rwater_at, spanT, Try.f3, go_sem, ↓reduceIte, Nat.reduceAdd, Nat.reduceSub, Nat.reduceMul, Nat.reduceEqDiff, Nat.reduceLT, Nat.reduceLeDiff, Int.reduceToNat, Int.reduceLE, Int.reduceLT, Int.reduceEq, Int.reduceNeg, reduceCtorEq]
  simp [spl]
end Go.Eng
end

/-
  IceWaters: for every input the law returns true, and each argument reads afterwards as it read before. No condition.
-/
section
namespace Go.Proofs.Ytmpcdcphgepeiaa.iceWaters
open Go.ChangeShapes Go.WideShapes Go.ChangeAt Go.RowKit Go.Eng
set_option linter.unusedVariables false
theorem own : ownKnob Try.prog.godebug = none := by kernel_rfl
theorem laid : laidOutB Try.prog = true := by kernel_rfl
set_option maxRecDepth 100000 in
theorem lifted (os : Os) (started : os.Started) (H : Type) (enc : TypeId × Value → H) :
    ReturnsInHanded {} Try.checked os 3 .any (Rows.iceWatersSpec.pre6 enc Try.prog Try.f3 Rows.iceWatersRow.domain false) (Rows.iceWatersSpec.post enc Try.prog Try.f3 false true false false) := by
  refine returnsInHanded_of_change (C := Try.checked) own started (by kernel_rfl) Try.func3
    (ChangeSpec.witness6 (enc := enc) (C := Try.checked) false ⟨#[], #[.slice none 0 0, .agg #[.int .i64 0, .int .i64 0], .agg #[.int .i64 0, .int .i64 0], .int .i64 0, .int .i64 0, .int .i64 0], []⟩ 8 (by kernel_rfl) (by kernel_rfl) (by kernel_rfl) (by kernel_rfl)) ?_
  intro W base args ds gs before hval0 hW hcnd _
  have hval : ∀ (j : Nat) t v, Try.f3.params[j]? = some t → args[j]? = some v → Value.okWide Try.prog W .any base t v := hval0
  have hW' := hW
  obtain ⟨p, q, hA0, hV, rfl, hfz, hnd⟩ := hW
  have hA : DataW.TrodAll enc Try.prog W 0 (fun _ => true) true Try.f3.params.toList args.toList ds p := hA0
  rw [Try.params3] at hA hval
  obtain ⟨v0, vs0, d0, ds0, p0, q0, hargs, rfl, rfl, h0, r0⟩ := trodAll_cons hA
  obtain ⟨v1, vs1, d1, ds1, p1, q1, rfl, rfl, rfl, h1, r1⟩ := trodAll_cons r0
  obtain ⟨v2, vs2, d2, ds2, p2, q2, rfl, rfl, rfl, h2, r2⟩ := trodAll_cons r1
  obtain ⟨v3, vs3, d3, ds3, p3, q3, rfl, rfl, rfl, h3, r3⟩ := trodAll_cons r2
  obtain ⟨v4, vs4, d4, ds4, p4, q4, rfl, rfl, rfl, h4, r4⟩ := trodAll_cons r3
  obtain ⟨v5, vs5, d5, ds5, p5, q5, rfl, rfl, rfl, h5, r5⟩ := trodAll_cons r4
  obtain ⟨rfl, rfl, rfl⟩ := trodAll_nil r5
  obtain rfl : args = #[v0, v1, v2, v3, v4, v5] := by cases args; simp_all
  obtain ⟨rfl, rfl⟩ := trodVars_none hV
  obtain ⟨n0, f0, e0, m0, t0⟩ := arg_row (s := [.int .i64, .int .i64, .int .i64, .int .i64]) Try.underlying22 (by kernel_rfl) (hval 0 22 v0 rfl rfl) h0
  obtain ⟨i0, b0⟩ := intK_of_typ (k := .i64) (c := 4) rfl t0
  obtain ⟨xs1, e1, l1, t1⟩ := arg_agg (shs := [.int .i64, .int .i64]) Try.underlying24 (by kernel_rfl) (hval 1 24 v1 rfl rfl) h1
  obtain ⟨x1, y1, rfl, w1, u1⟩ := agg_2 l1 t1
  obtain ⟨xs2, e2, l2, t2⟩ := arg_agg (shs := [.int .i64, .int .i64]) Try.underlying24 (by kernel_rfl) (hval 2 24 v2 rfl rfl) h2
  obtain ⟨x2, y2, rfl, w2, u2⟩ := agg_2 l2 t2
  obtain ⟨x3, rfl, rfl, rfl, w3⟩ := open_int Try.underlying3 (hval 3 3 v3 rfl rfl) h3
  obtain ⟨x4, rfl, rfl, rfl, w4⟩ := open_int Try.underlying3 (hval 4 3 v4 rfl rfl) h4
  obtain ⟨x5, rfl, rfl, rfl, w5⟩ := open_int Try.underlying3 (hval 5 3 v5 rfl rfl) h5
  have hd : DenL Env.emp W [.row n0 4 f0, .agg [.int .i64 x1, .int .i64 y1], .agg [.int .i64 x2, .int .i64 y2], .int .i64 x3, .int .i64 x4, .int .i64 x5] [v0, v1, v2, .int .i64 x3, .int .i64 x4, .int .i64 x5] := ⟨e0, e1, e2, .int _ _, .int _ _, .int _ _, trivial⟩
  refine (law_calls iceWaters_base (args := [.row n0 4 f0, .agg [.int .i64 x1, .int .i64 y1], .agg [.int .i64 x2, .int .i64 y2], .int .i64 x3, .int .i64 x4, .int .i64 x5]) rfl ⟨rfl, fun i j hi hj => i0 i j hi hj⟩ (denA_of hd)).mono fun e W' ⟨he, hb⟩ => ?_
  subst he
  exact ⟨_, rfl, law_end laid rfl Try.underlying4 (by kernel_rfl) rfl hW' rfl hb⟩
theorem over : Rows.iceWatersRow.holds Try.pinned (OpenSpec.ofChange Rows.iceWatersSpec) :=
  OpenClaim.holds_of_wide 3 Try.f3 rfl rfl rfl rfl rfl rfl rfl ⟨rfl, rfl, rfl, rfl, rfl⟩ rfl rfl rfl rfl rfl (by kernel_rfl) Try.func3 (by kernel_rfl)
    (of_decide_eq_true (by kernel_rfl)) (by unfold Func.isWrapper; first | (rw [if_pos (by decide +kernel)]; kernel_rfl) | (rw [if_neg (by decide +kernel)]; exact ⟨rfl, rfl⟩))
    (fun os started H enc _ => lifted os started H enc)
end Go.Proofs.Ytmpcdcphgepeiaa.iceWaters
namespace Go.Proofs.Ytmpcdcphgepeiaa
/-- The given statement. -/
theorem iceWaters_holds : Rows.IceWatersSaid := iceWaters.over
#print axioms iceWaters_holds
end Go.Proofs.Ytmpcdcphgepeiaa
end
