/-
  ClockPlays: for every input the law returns true, and each argument reads afterwards as it read before. No condition.
-/
import Derived.Test.YtjkbmnhpbncdcaaRows
import Derived.WalkKit
import Derived.Test.YtjkbmnhpbncdcaaK4
set_option linter.unusedSimpArgs false
set_option linter.unusedVariables false
/- clock: ClockPlays. -/
section
namespace Go.Eng
open Go Go.RowKit Go.Proofs
set_option maxRecDepth 100000
set_option maxHeartbeats 4000000
attribute [local irreducible] OwnT DefS
/-- No list is long. -/
def Bo.Sm (b : Bo) : Prop := b.p0.length ≤ 600 ∧ b.p1.length ≤ 600 ∧ b.m0.length ≤ 600 ∧ b.m1.length ≤ 600
theorem z_sm : Bo.z.Sm := ⟨by decide, by decide, by decide, by decide⟩
theorem cnt_sm {b : Bo} {n : Nat} (h : b.Cnt n) (hn : n ≤ 300) : b.Sm := ⟨by have := h.p0; omega, by have := h.p1; omega, by have := h.m0; omega, by have := h.m1; omega⟩
theorem plR_sm (n : Nat) (l : Nat → Nat → Int) : (plR n l).1.Sm := by
  unfold plR
  split
  · exact z_sm
  · split
    · exact z_sm
    · exact cnt_sm (playP_ok (ev := evN l) (to := 1048576) (by omega) n 0 G0 G0_ok G0_cnt (by omega)).2 (by omega)
theorem plT_sm (n : Nat) (l : Nat → Nat → Int) : (plT n l).1.Sm := by rw [← plR_plT]; exact plR_sm n l
theorem atR_sm (n : Nat) (l : Nat → Nat → Int) (to : Int) : (atR n l to).1.Sm := by
  unfold atR
  rw [plR_plT]
  split
  · exact z_sm
  · rename_i h
    split
    · exact z_sm
    · rename_i h2
      have hto := in3_iff.1 (show in3 to 0 1048576 = true by simpa using h2)
      have hn := (plT_len (by simpa using h)).1
      exact cnt_sm (passP_cnt _ _ (playP_ok (ev := evN l) (to := to) hto n 0 G0 G0_ok G0_cnt (by omega)).2) (by omega)
theorem agT_sm (n : Nat) (l : Nat → Nat → Int) (to : Int) : (agT n l to).1.b.Sm := by
  have := atR_sm n l to
  rw [atR_agT] at this
  exact this
theorem wiT_sm (n : Nat) (l : Nat → Nat → Int) (q : Int) : (wiT n l q).1.Sm := by
  unfold wiT
  repeat' split
  all_goals first | exact z_sm | exact plT_sm _ _
def clockPlaysBase : BaseF := fun args => match args with
  | [.row n sz_l f_l, .int .i64 second, .int .i64 index] => some ((sz_l = 4 ∧ IntR n 4 f_l), .bool true)
  | _ => none
theorem clockPlays_eq (n : Nat) (sz_l : Nat) (f_l : Nat → Nat → SV) (second : Int) (index : Int) : clockPlaysBase [.row n sz_l f_l, .int .i64 second, .int .i64 index] = some ((sz_l = 4 ∧ IntR n 4 f_l), .bool true) := rfl
theorem clockPlays_base : Base Try.prog 7 clockPlaysBase := by
  intro args p v hq hp
  unfold clockPlaysBase at hq
  split at hq
  rotate_left
  · cases hq
  rename_i n sz_l f_l second index
  cases hq
  obtain ⟨rfl, i_l⟩ := hp
  refine base_of (C := cxn [] [(23, playTBase), (24, atTBase), (25, withoutBase), (26, withTBase)] [] [(11, aliveBase), (12, playBase), (14, atBase), (20, sameBase)] [] none) (cxn_ok ⟨playT_base, atT_base, without_base, withT_base, trivial⟩ trivial ⟨alive_base, play_base, at_base, same_base, trivial⟩) rfl (g := 7) (fn := Try.f7)
    (args' := [.row n 4 (rowF .i64 (ivf f_l)), .int .i64 second, .int .i64 index]) (fn_7) rfl 1000 (by
    simp only [BdL, Bd, and_self, and_true, true_and]
    exact (fun i j hi hj => by rw [i_l i j hi hj]; trivial)) ⟨SameD.int i_l, SameD.rfl' _, SameD.rfl' _, trivial⟩ ?_
  generalize ivf f_l = l
  simp only [rowF_eq]
  simp only [alive_eq, play_eq, at_eq, same_eq, playT_eq, atT_eq, without_eq, withT_eq, Try.f15, boS, rowP, pl_pf, plR_plT, atR_agT, wiR_wiT, Try.f7, go_sem, ↓reduceIte, Nat.reduceAdd, Nat.reduceSub, Nat.reduceMul, Nat.reduceEqDiff, Nat.reduceLT, Nat.reduceLeDiff, Int.reduceToNat, Int.reduceLE, Int.reduceLT, Int.reduceEq, Int.reduceNeg, reduceCtorEq]
  have h1 := plT_sm n l
  have h2 := agT_sm n l second
  have h3 := wiT_sm n l index
  unfold Bo.Sm at h1 h2 h3
  repeat' first | refine spl_intro (fun _ => ?_) (fun _ => ?_) | apply And.intro
  all_goals first | trivial | omega | skip
  all_goals (simp only [decide_eq_true_eq, decide_eq_false_iff_not] at *; omega)
end Go.Eng
end

/-
  ClockPlays: for every input the law returns true, and each argument reads afterwards as it read before. No condition.
-/
section
namespace Go.Proofs.Ytjkbmnhpbncdcaa.clockPlays
open Go.ChangeShapes Go.WideShapes Go.ChangeAt Go.RowKit Go.Eng
set_option linter.unusedVariables false
theorem own : ownKnob Try.prog.godebug = none := by kernel_rfl
theorem laid : laidOutB Try.prog = true := by kernel_rfl
set_option maxRecDepth 100000 in
theorem lifted (os : Os) (started : os.Started) (H : Type) (enc : TypeId × Value → H) :
    ReturnsInHanded {} Try.checked os 7 .any (Rows.clockPlaysSpec.pre6 enc Try.prog Try.f7 Rows.clockPlaysRow.domain false) (Rows.clockPlaysSpec.post enc Try.prog Try.f7 false true false false) := by
  refine returnsInHanded_of_change (C := Try.checked) own started (by kernel_rfl) Try.func7
    (ChangeSpec.witness6 (enc := enc) (C := Try.checked) false ⟨#[], #[.slice none 0 0, .int .i64 0, .int .i64 0], []⟩ 8 (by kernel_rfl) (by kernel_rfl) (by kernel_rfl) (by kernel_rfl)) ?_
  intro W base args ds gs before hval0 hW hcnd _
  have hval : ∀ (j : Nat) t v, Try.f7.params[j]? = some t → args[j]? = some v → Value.okWide Try.prog W .any base t v := hval0
  have hW' := hW
  obtain ⟨p, q, hA0, hV, rfl, hfz, hnd⟩ := hW
  have hA : DataW.TrodAll enc Try.prog W 0 (fun _ => true) true Try.f7.params.toList args.toList ds p := hA0
  rw [Try.params7] at hA hval
  obtain ⟨v0, vs0, d0, ds0, p0, q0, hargs, rfl, rfl, h0, r0⟩ := trodAll_cons hA
  obtain ⟨v1, vs1, d1, ds1, p1, q1, rfl, rfl, rfl, h1, r1⟩ := trodAll_cons r0
  obtain ⟨v2, vs2, d2, ds2, p2, q2, rfl, rfl, rfl, h2, r2⟩ := trodAll_cons r1
  obtain ⟨rfl, rfl, rfl⟩ := trodAll_nil r2
  obtain rfl : args = #[v0, v1, v2] := by cases args; simp_all
  obtain ⟨rfl, rfl⟩ := trodVars_none hV
  obtain ⟨n0, f0, e0, m0, t0⟩ := arg_row (s := [.int .i64, .int .i64, .int .i64, .int .i64]) Try.underlying22 (by kernel_rfl) (hval 0 22 v0 rfl rfl) h0
  obtain ⟨i0, b0⟩ := intK_of_typ (k := .i64) (c := 4) rfl t0
  obtain ⟨x1, rfl, rfl, rfl, w1⟩ := open_int Try.underlying3 (hval 1 3 v1 rfl rfl) h1
  obtain ⟨x2, rfl, rfl, rfl, w2⟩ := open_int Try.underlying3 (hval 2 3 v2 rfl rfl) h2
  have hd : DenL Env.emp W [.row n0 4 f0, .int .i64 x1, .int .i64 x2] [v0, .int .i64 x1, .int .i64 x2] := ⟨e0, .int _ _, .int _ _, trivial⟩
  refine (law_calls clockPlays_base (args := [.row n0 4 f0, .int .i64 x1, .int .i64 x2]) rfl ⟨rfl, fun i j hi hj => i0 i j hi hj⟩ (denA_of hd)).mono fun e W' ⟨he, hb⟩ => ?_
  subst he
  exact ⟨_, rfl, law_end laid rfl Try.underlying4 (by kernel_rfl) rfl hW' rfl hb⟩
theorem over : Rows.clockPlaysRow.holds Try.pinned (OpenSpec.ofChange Rows.clockPlaysSpec) :=
  OpenClaim.holds_of_wide 7 Try.f7 rfl rfl rfl rfl rfl rfl rfl ⟨rfl, rfl, rfl, rfl, rfl⟩ rfl rfl rfl rfl rfl (by kernel_rfl) Try.func7 (by kernel_rfl)
    (of_decide_eq_true (by kernel_rfl)) (by unfold Func.isWrapper; first | (rw [if_pos (by decide +kernel)]; kernel_rfl) | (rw [if_neg (by decide +kernel)]; exact ⟨rfl, rfl⟩))
    (fun os started H enc _ => lifted os started H enc)
end Go.Proofs.Ytjkbmnhpbncdcaa.clockPlays
namespace Go.Proofs.Ytjkbmnhpbncdcaa
/-- The given statement. -/
theorem clockPlays_holds : Rows.ClockPlaysSaid := clockPlays.over
#print axioms clockPlays_holds
end Go.Proofs.Ytjkbmnhpbncdcaa
end
