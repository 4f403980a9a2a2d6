/-
  PressChecks: for every input the law returns true, and each argument reads afterwards as it read before. No condition.
-/
import Derived.Test.YtdecicbgjkeefaaRows
import Derived.WalkKit
import Derived.Test.YtdecicbgjkeefaaP5
set_option linter.unusedSimpArgs false
set_option linter.unusedVariables false
/- press: Check and Behind are the document's. -/
section
namespace Go.Eng
open Go Go.RowKit Go.Proofs
set_option maxRecDepth 100000
set_option maxHeartbeats 4000000
attribute [local irreducible] OwnT DefS
theorem great_one (n a h b q c s1 : Nat) (fA fn fp f : Nat → Nat → SV) (st ro pk fr : Int) : greatBase [.agg [.row n a fA, .row h b fn, .row q c fp, .int .i64 st, .int .i64 ro, .int .i64 pk, .int .i64 fr], .row 1 s1 f] = great1Base [.agg [.row n a fA, .row h b fn, .row q c fp, .int .i64 st, .int .i64 ro, .int .i64 pk, .int .i64 fr], .row 1 s1 f] := rfl
theorem sameB_refl (n : Nat) (A : Nat → Nat → Int) (M : Nat → Nat) (V : Nat → Nat → Nat → Int) (h : Nat) (nd : Nat → Nat → Int) (q : Nat) (pr : Nat → Nat → Int) (st ro pk fr : Int) :
    sameB n A M V h nd q pr st ro pk fr n A M V h nd q pr st ro pk fr = true := by
  have ht : ∀ n, allU (fun _ => true) n = true := fun n => allU_iff.2 fun _ _ => rfl
  have e1 : allU (same1 A M V A M V) n = true := allU_iff.2 fun i _ => by simp only [same1, ht, decide_true, Bool.and_self]
  have e2 : ∀ (n : Nat) (a : Nat → Nat → Int), intsB n a n a = true := fun n a => by simp only [intsB, ht, decide_true, Bool.and_self]
  simp only [sameB, e1, e2, decide_true, Bool.and_self]
theorem bhX_bd (D : PD) (b : Bool) (m : Nat) (K : Nat → Nat) (W : Nat → Nat → Nat → Int) : (bhX D b m K W).n ≤ D.n ∧ (bhX D b m K W).h ≤ D.h ∧ ∀ i, (bhX D b m K W).M i ≤ D.M i := by
  unfold bhX
  split
  · exact ⟨Nat.le_refl _, by simp only [bhP]; omega, fun i => Nat.le_refl _⟩
  · exact ⟨Nat.zero_le _, Nat.zero_le _, fun i => Nat.zero_le _⟩
theorem gr1_false {m : Nat} {K : Nat → Nat} (e : gr1 m K = false) : m ≤ 20 ∧ ∀ i, i < m → K i ≤ 8 := by
  simp only [gr1, Bool.or_eq_false_iff, Bool.not_eq_false', decide_eq_false_iff_not, allU_iff, decide_eq_true_eq] at e
  exact ⟨by omega, fun i hi => by have := e.2 i hi; omega⟩
def pressChecksBase : BaseF := fun args => match args with
  | [.agg [.row n sz_A f_A, .row h sz_nd f_nd, .row q sz_pr f_pr, .int .i64 st, .int .i64 ro, .int .i64 pk, .int .i64 fr], .row m sz_B f_B] => some ((sz_A = 5 ∧ NestR n 5 0 2 f_A) ∧ (sz_nd = 1 ∧ IntR h 1 f_nd) ∧ (sz_pr = 1 ∧ IntR q 1 f_pr) ∧ (sz_B = 1 ∧ NestR m 1 0 1 f_B), .bool true)
  | _ => none
theorem pressChecks_eq (n : Nat) (sz_A : Nat) (f_A : Nat → Nat → SV) (h : Nat) (sz_nd : Nat) (f_nd : Nat → Nat → SV) (q : Nat) (sz_pr : Nat) (f_pr : Nat → Nat → SV) (st : Int) (ro : Int) (pk : Int) (fr : Int) (m : Nat) (sz_B : Nat) (f_B : Nat → Nat → SV) : pressChecksBase [.agg [.row n sz_A f_A, .row h sz_nd f_nd, .row q sz_pr f_pr, .int .i64 st, .int .i64 ro, .int .i64 pk, .int .i64 fr], .row m sz_B f_B] = some ((sz_A = 5 ∧ NestR n 5 0 2 f_A) ∧ (sz_nd = 1 ∧ IntR h 1 f_nd) ∧ (sz_pr = 1 ∧ IntR q 1 f_pr) ∧ (sz_B = 1 ∧ NestR m 1 0 1 f_B), .bool true) := rfl
theorem pressChecks_base : Base Try.prog 6 pressChecksBase := by
  intro args p v hq hp
  unfold pressChecksBase at hq
  split at hq
  rotate_left
  · cases hq
  rename_i n sz_A f_A h sz_nd f_nd q sz_pr f_pr st ro pk fr m sz_B f_B
  cases hq
  obtain ⟨⟨rfl, i_A⟩, ⟨rfl, i_nd⟩, ⟨rfl, i_pr⟩, ⟨rfl, i_B⟩⟩ := hp
  refine base_of (C := cxn [] [(24, behindBase), (25, behindRBase)] [] [(11, greatBase), (13, aliveBase), (19, checkBase), (23, checkRBase), (26, sameBase)] [] none) (cxn_ok ⟨behind_base, behindR_base, trivial⟩ trivial ⟨great_base, alive_base, check_base, checkR_base, same_base, trivial⟩) rfl (g := 6) (fn := Try.f6)
    (args' := [.agg [.row n 5 (nestF 0 2 (nsA f_A) (nsM 0 f_A) (nsV 0 f_A)), .row h 1 (rowF .i64 (ivf f_nd)), .row q 1 (rowF .i64 (ivf f_pr)), .int .i64 st, .int .i64 ro, .int .i64 pk, .int .i64 fr], .row m 1 (nestF 0 1 (nsA f_B) (nsM 0 f_B) (nsV 0 f_B))]) (fn_6) rfl 1000 (by
    simp only [BdL, Bd, and_self, and_true, true_and]
    exact ⟨⟨(fun i j hi hj => nest_bd i_A i j hi hj), (fun i j hi hj => by rw [i_nd i j hi hj]; trivial), (fun i j hi hj => by rw [i_pr i j hi hj]; trivial)⟩, (fun i j hi hj => nest_bd i_B i j hi hj)⟩) ⟨SameD.agg ⟨SameD.nest i_A, SameD.int i_nd, SameD.int i_pr, SameD.rfl' _, SameD.rfl' _, SameD.rfl' _, SameD.rfl' _, trivial⟩, SameD.nest i_B, trivial⟩ ?_
  generalize nsA f_A = A
  generalize nsM 0 f_A = M
  generalize nsV 0 f_A = V
  generalize ivf f_nd = nd
  generalize ivf f_pr = pr
  generalize nsA f_B = B
  generalize nsM 0 f_B = K
  generalize nsV 0 f_B = W
  simp only [rowF_eq]
  simp only [alive_eq, check_eq, checkR_eq, same_eq, behind_eq, behindR_eq, oneN_lit, oneM_lit, oneC_lit, great_one, great1_eq, prC, ckR_ns, psB_ns, nestF_eq, nestR_lit, nsM_lit, nsV_lit, Try.f6, go_sem, ↓reduceIte, Nat.reduceAdd, Nat.reduceSub, Nat.reduceMul, Nat.reduceEqDiff, Nat.reduceLT, Nat.reduceLeDiff, Int.reduceToNat, Int.reduceLE, Int.reduceLT, Int.reduceEq, Int.reduceNeg, reduceCtorEq]
  have hx := bhX_bd ⟨n, nsA (nestF 0 2 A M V), M, V, h, nd, pr, st, ro, pk, fr⟩ (psB n A M V h nd q pr st ro pk fr) m K W
  generalize bhX ⟨n, nsA (nestF 0 2 A M V), M, V, h, nd, pr, st, ro, pk, fr⟩ (psB n A M V h nd q pr st ro pk fr) m K W = X at hx
  simp only [] at hx
  simp only [sameB_refl, go_sem, ↓reduceIte, Nat.reduceAdd, Nat.reduceSub, Nat.reduceMul, Nat.reduceEqDiff, Nat.reduceLT, Nat.reduceLeDiff, Int.reduceToNat, Int.reduceLE, Int.reduceLT, Int.reduceEq, Int.reduceNeg, reduceCtorEq]
  refine ⟨fun _ => trivial, fun c1 => ?_⟩
  simp only [Bool.or_eq_false_iff] at c1
  obtain ⟨h1, h2, h3, h4⟩ := gr0_false c1.1
  obtain ⟨g1, g2⟩ := gr1_false c1.2
  have pp : ((n ≤ 1000000 ∧ ∀ i, i < n → M i ≤ 1000000) ∧ h ≤ 1000000 ∧ q ≤ 1000000) ∧ m ≤ 1000000 ∧ ∀ i, i < m → K i ≤ 1000000 := ⟨⟨⟨by omega, fun i hi => by have := h2 i hi; omega⟩, by omega, by omega⟩, by omega, fun i hi => by have := g2 i hi; omega⟩
  obtain ⟨x1, x2, x3⟩ := hx
  exact ⟨pp, pp, pp, pp, by omega, by omega, by omega, fun i hi => by have := x3 i; have := h2 i (by omega); omega⟩
end Go.Eng
end

/-
  PressChecks: for every input the law returns true, and each argument reads afterwards as it read before. No condition.
-/
section
namespace Go.Proofs.Ytdecicbgjkeefaa.pressChecks
open Go.ChangeShapes Go.WideShapes Go.ChangeAt Go.RowKit Go.Eng
set_option linter.unusedVariables false
theorem own : ownKnob Try.prog.godebug = none := by kernel_rfl
theorem laid : laidOutB Try.prog = true := by kernel_rfl
set_option maxRecDepth 100000 in
theorem lifted (os : Os) (started : os.Started) (H : Type) (enc : TypeId × Value → H) :
    ReturnsInHanded {} Try.checked os 6 .any (Rows.pressChecksSpec.pre6 enc Try.prog Try.f6 Rows.pressChecksRow.domain false) (Rows.pressChecksSpec.post enc Try.prog Try.f6 false true false false) := by
  refine returnsInHanded_of_change (C := Try.checked) own started (by kernel_rfl) Try.func6
    (ChangeSpec.witness6 (enc := enc) (C := Try.checked) false ⟨#[], #[.agg #[.slice none 0 0, .slice none 0 0, .slice none 0 0, .int .i64 0, .int .i64 0, .int .i64 0, .int .i64 0], .slice none 0 0], []⟩ 8 (by kernel_rfl) (by kernel_rfl) (by kernel_rfl) (by kernel_rfl)) ?_
  intro W base args ds gs before hval0 hW hcnd _
  have hval : ∀ (j : Nat) t v, Try.f6.params[j]? = some t → args[j]? = some v → Value.okWide Try.prog W .any base t v := hval0
  have hW' := hW
  obtain ⟨p, q, hA0, hV, rfl, hfz, hnd⟩ := hW
  have hA : DataW.TrodAll enc Try.prog W 0 (fun _ => true) true Try.f6.params.toList args.toList ds p := hA0
  rw [Try.params6] at hA hval
  obtain ⟨v0, vs0, d0, ds0, p0, q0, hargs, rfl, rfl, h0, r0⟩ := trodAll_cons hA
  obtain ⟨v1, vs1, d1, ds1, p1, q1, rfl, rfl, rfl, h1, r1⟩ := trodAll_cons r0
  obtain ⟨rfl, rfl, rfl⟩ := trodAll_nil r1
  obtain rfl : args = #[v0, v1] := by cases args; simp_all
  obtain ⟨rfl, rfl⟩ := trodVars_none hV
  obtain ⟨xs0, e0, l0, t0⟩ := arg_agg (shs := [.sl [.sl [.int .i64, .int .i64], .int .i64, .int .i64, .int .i64, .int .i64], .sl [.int .i64], .sl [.int .i64], .int .i64, .int .i64, .int .i64, .int .i64]) Try.underlying25 (by kernel_rfl) (hval 0 25 v0 rfl rfl) h0
  obtain ⟨a0_0, a0_1, a0_2, a0_3, a0_4, a0_5, a0_6, rfl⟩ : ∃ a0_0 a0_1 a0_2 a0_3 a0_4 a0_5 a0_6, xs0 = [a0_0, a0_1, a0_2, a0_3, a0_4, a0_5, a0_6] := by
    match xs0, l0 with
    | [a0_0, a0_1, a0_2, a0_3, a0_4, a0_5, a0_6], _ => exact ⟨a0_0, a0_1, a0_2, a0_3, a0_4, a0_5, a0_6, rfl⟩
  obtain ⟨n0_0, f0_0, rfl, m0_0, s0_0⟩ := typ_sl (t0 0 _ _ rfl rfl)
  obtain ⟨i0_0, b0_0, c0_0, g0_0⟩ := nestR_typ (sz := 5) (k := 0) (s := 2) (by intro j hj hk; rcases (show j = 0 ∨ j = 1 ∨ j = 2 ∨ j = 3 ∨ j = 4 by omega) with rfl | rfl | rfl | rfl | rfl <;> first | rfl | exact absurd rfl hk) rfl s0_0
  obtain ⟨n0_1, f0_1, rfl, m0_1, s0_1⟩ := typ_sl (t0 1 _ _ rfl rfl)
  obtain ⟨i0_1, b0_1⟩ := intK_of_typ (k := .i64) (c := 1) rfl s0_1
  obtain ⟨n0_2, f0_2, rfl, m0_2, s0_2⟩ := typ_sl (t0 2 _ _ rfl rfl)
  obtain ⟨i0_2, b0_2⟩ := intK_of_typ (k := .i64) (c := 1) rfl s0_2
  obtain ⟨x0_3, rfl, w0_3⟩ := typ_int (t0 3 _ _ rfl rfl)
  obtain ⟨x0_4, rfl, w0_4⟩ := typ_int (t0 4 _ _ rfl rfl)
  obtain ⟨x0_5, rfl, w0_5⟩ := typ_int (t0 5 _ _ rfl rfl)
  obtain ⟨x0_6, rfl, w0_6⟩ := typ_int (t0 6 _ _ rfl rfl)
  obtain ⟨n1, f1, e1, m1, t1⟩ := arg_row (s := [.sl [.int .i64]]) Try.underlying29 (by kernel_rfl) (hval 1 29 v1 rfl rfl) h1
  obtain ⟨i1, b1, c1, g1⟩ := nestR_typ (sz := 1) (k := 0) (s := 1) (by intro j hj hk; rcases (show j = 0 by omega) with rfl <;> first | rfl | exact absurd rfl hk) rfl t1
  have hd : DenL Env.emp W [.agg [.row n0_0 5 f0_0, .row n0_1 1 f0_1, .row n0_2 1 f0_2, .int .i64 x0_3, .int .i64 x0_4, .int .i64 x0_5, .int .i64 x0_6], .row n1 1 f1] [v0, v1] := ⟨e0, e1, trivial⟩
  refine (law_calls pressChecks_base (args := [.agg [.row n0_0 5 f0_0, .row n0_1 1 f0_1, .row n0_2 1 f0_2, .int .i64 x0_3, .int .i64 x0_4, .int .i64 x0_5, .int .i64 x0_6], .row n1 1 f1]) rfl ⟨⟨rfl, i0_0⟩, ⟨rfl, fun i j hi hj => i0_1 i j hi hj⟩, ⟨rfl, fun i j hi hj => i0_2 i j hi hj⟩, ⟨rfl, i1⟩⟩ (denA_of hd)).mono fun e W' ⟨he, hb⟩ => ?_
  subst he
  exact ⟨_, rfl, law_end laid rfl Try.underlying4 (by kernel_rfl) rfl hW' rfl hb⟩
theorem over : Rows.pressChecksRow.holds Try.pinned (OpenSpec.ofChange Rows.pressChecksSpec) :=
  OpenClaim.holds_of_wide 6 Try.f6 rfl rfl rfl rfl rfl rfl rfl ⟨rfl, rfl, rfl, rfl, rfl⟩ rfl rfl rfl rfl rfl (by kernel_rfl) Try.func6 (by kernel_rfl)
    (of_decide_eq_true (by kernel_rfl)) (by unfold Func.isWrapper; first | (rw [if_pos (by decide +kernel)]; kernel_rfl) | (rw [if_neg (by decide +kernel)]; exact ⟨rfl, rfl⟩))
    (fun os started H enc _ => lifted os started H enc)
end Go.Proofs.Ytdecicbgjkeefaa.pressChecks
namespace Go.Proofs.Ytdecicbgjkeefaa
/-- The given statement. -/
theorem pressChecks_holds : Rows.PressChecksSaid := pressChecks.over
#print axioms pressChecks_holds
end Go.Proofs.Ytdecicbgjkeefaa
end
