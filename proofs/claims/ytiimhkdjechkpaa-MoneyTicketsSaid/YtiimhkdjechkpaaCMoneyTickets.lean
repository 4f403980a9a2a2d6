/-
  MoneyTickets: for every input the law returns true, and each argument reads afterwards as it read before. No condition.
-/
import Derived.Test.YtiimhkdjechkpaaRows
import Derived.WalkKit
import Derived.Test.YtiimhkdjechkpaaM5
set_option linter.unusedSimpArgs false
set_option linter.unusedVariables false
/- money: tickets. -/
section
namespace Go.Eng
open Go Go.RowKit Go.Proofs
set_option maxRecDepth 100000
set_option maxHeartbeats 4000000
attribute [local irreducible] OwnT DefS
def moneyTicketsBase : BaseF := fun args => match args with
  | [.row n sz_l f_l, .int .i64 a, .int .i64 ch] => some ((sz_l = 3 ∧ IntR n 3 f_l), .bool true)
  | _ => none
theorem moneyTickets_eq (n : Nat) (sz_l : Nat) (f_l : Nat → Nat → SV) (a : Int) (ch : Int) : moneyTicketsBase [.row n sz_l f_l, .int .i64 a, .int .i64 ch] = some ((sz_l = 3 ∧ IntR n 3 f_l), .bool true) := rfl
theorem moneyTickets_base : Base Try.prog 3 moneyTicketsBase := by
  intro args p v hq hp
  unfold moneyTicketsBase at hq
  split at hq
  rotate_left
  · cases hq
  rename_i n sz_l f_l a ch
  cases hq
  obtain ⟨rfl, i_l⟩ := hp
  refine base_of (C := cx [13] [] [(10, slowBase), (11, awakeBase), (12, cheapestBase), (14, intsBase)] [] none) (cx_ok trivial ⟨slow_base, awake_base, cheapest_base, ints_base, trivial⟩) rfl (g := 3) (fn := Try.f3)
    (args' := [.row n 3 (rowF .i64 (ivf f_l)), .int .i64 a, .int .i64 ch]) (fn_3) rfl 1000 (by
    simp only [BdL, Bd, and_self, and_true, true_and]
    exact (fun i j hi hj => by rw [i_l i j hi hj]; trivial)) ⟨SameD.int i_l, SameD.rfl' _, SameD.rfl' _, trivial⟩ ?_
  generalize ivf f_l = l
  simp only [rowF_eq]
  cases hs : (decide (8 < n) || (decide (n ≤ 6) && decide (3000 < (slowP a ch) ^ n))) with
  | true =>
    simp only [hs, slow_eq, awake_eq, cheapest_eq, ints_eq, Try.f3, go_sem, ↓reduceIte, Nat.reduceAdd, Nat.reduceSub, Nat.reduceMul, Nat.reduceEqDiff, Nat.reduceLT, Nat.reduceLeDiff, Int.reduceToNat, Int.reduceLE, Int.reduceLT, Int.reduceEq, Int.reduceNeg, reduceCtorEq]
  | false =>
    simp only [Bool.or_eq_false_iff, decide_eq_false_iff_not, Bool.and_eq_false_iff] at hs
    obtain ⟨hn8, hs2⟩ := hs
    have hpw : chpV n l a ch = true → (in3 a 0 12 && in3 ch 0 12) = true → (a + ch + 1).toNat ^ n ≤ 3000 := fun hV hI => by
      obtain ⟨ha, hc⟩ : (0 ≤ a ∧ a ≤ 12) ∧ 0 ≤ ch ∧ ch ≤ 12 := by simpa [in3_iff] using hI
      obtain ⟨hn, hl⟩ : n ≤ 6 ∧ ∀ i, i < n → tkB (l i) = true := by simpa [chpV, allU_iff, tkBl] using hV
      have h1 : slowP a ch = (((a + ch + 1).toNat : Nat) : Int) := by unfold slowP; omega
      rw [h1] at hs2
      have h2 : ((((a + ch + 1).toNat : Nat) : Int)) ^ n ≤ 3000 := by rcases hs2 with h | h <;> omega
      exact_mod_cast h2
    have hs' : (decide (8 < n) || (decide (n ≤ 6) && decide (3000 < (slowP a ch) ^ n))) = false := by
      simp only [Bool.or_eq_false_iff, decide_eq_false_iff_not, Bool.and_eq_false_iff]; exact ⟨hn8, hs2⟩
    simp only [hs', slow_eq, awake_eq, cheapest_eq, ints_eq, Try.f3, go_sem, ↓reduceIte, Nat.reduceAdd, Nat.reduceSub, Nat.reduceMul, Nat.reduceEqDiff, Nat.reduceLT, Nat.reduceLeDiff, Int.reduceToNat, Int.reduceLE, Int.reduceLT, Int.reduceEq, Int.reduceNeg, reduceCtorEq]
    refine ⟨by omega, ?_⟩
    unfold callS
    refine calls_mono ?_ (cheapestR_calls (by omega) hpw)
    rintro o h' (⟨hE, V, f, hf, rfl, rfl⟩ | ⟨hE, V, id, hg, rfl, rfl⟩)
    · have hN : chpN n l a ch = n := by simp [chpN, hE]
      simp only [hE, hN, hs', slow_eq, awake_eq, cheapest_eq, ints_eq, Try.f3, go_sem, ↓reduceIte, Nat.reduceAdd, Nat.reduceSub, Nat.reduceMul, Nat.reduceEqDiff, Nat.reduceLT, Nat.reduceLeDiff, Int.reduceToNat, Int.reduceLE, Int.reduceLT, Int.reduceEq, Int.reduceNeg, reduceCtorEq]
      exact ⟨by omega, spl_t (allU_true fun i hi => decide_eq_true (hf i hi).symm) trivial⟩
    · have hN : chpN n l a ch = 0 := by simp [chpN, hE]
      have hP : chpP n l a ch = 0 := by simp [chpP, hE]
      simp only [hN, hP, hs', hg, slow_eq, awake_eq, cheapest_eq, ints_eq, Try.f3, go_sem, ↓reduceIte, Nat.reduceAdd, Nat.reduceSub, Nat.reduceMul, Nat.reduceEqDiff, Nat.reduceLT, Nat.reduceLeDiff, Int.reduceToNat, Int.reduceLE, Int.reduceLT, Int.reduceEq, Int.reduceNeg, reduceCtorEq]
      exact ⟨fun i j hi => absurd hi (by omega), spl_t (allU_true fun i hi => absurd hi (by omega)) trivial⟩
end Go.Eng
end

/-
  MoneyTickets: for every input the law returns true, and each argument reads afterwards as it read before. No condition.
-/
section
namespace Go.Proofs.Ytiimhkdjechkpaa.moneyTickets
open Go.ChangeShapes Go.WideShapes Go.ChangeAt Go.RowKit Go.Eng
set_option linter.unusedVariables false
theorem own : ownKnob Try.prog.godebug = none := by kernel_rfl
theorem laid : laidOutB Try.prog = true := by kernel_rfl
set_option maxRecDepth 100000 in
theorem lifted (os : Os) (started : os.Started) (H : Type) (enc : TypeId × Value → H) :
    ReturnsInHanded {} Try.checked os 3 .any (Rows.moneyTicketsSpec.pre6 enc Try.prog Try.f3 Rows.moneyTicketsRow.domain false) (Rows.moneyTicketsSpec.post enc Try.prog Try.f3 false true false false) := by
  refine returnsInHanded_of_change (C := Try.checked) own started (by kernel_rfl) Try.func3
    (ChangeSpec.witness6 (enc := enc) (C := Try.checked) false ⟨#[], #[.slice none 0 0, .int .i64 0, .int .i64 0], []⟩ 8 (by kernel_rfl) (by kernel_rfl) (by kernel_rfl) (by kernel_rfl)) ?_
  intro W base args ds gs before hval0 hW hcnd _
  have hval : ∀ (j : Nat) t v, Try.f3.params[j]? = some t → args[j]? = some v → Value.okWide Try.prog W .any base t v := hval0
  have hW' := hW
  obtain ⟨p, q, hA0, hV, rfl, hfz, hnd⟩ := hW
  have hA : DataW.TrodAll enc Try.prog W 0 (fun _ => true) true Try.f3.params.toList args.toList ds p := hA0
  rw [Try.params3] at hA hval
  obtain ⟨v0, vs0, d0, ds0, p0, q0, hargs, rfl, rfl, h0, r0⟩ := trodAll_cons hA
  obtain ⟨v1, vs1, d1, ds1, p1, q1, rfl, rfl, rfl, h1, r1⟩ := trodAll_cons r0
  obtain ⟨v2, vs2, d2, ds2, p2, q2, rfl, rfl, rfl, h2, r2⟩ := trodAll_cons r1
  obtain ⟨rfl, rfl, rfl⟩ := trodAll_nil r2
  obtain rfl : args = #[v0, v1, v2] := by cases args; simp_all
  obtain ⟨rfl, rfl⟩ := trodVars_none hV
  obtain ⟨n0, f0, e0, m0, t0⟩ := arg_row (s := [.int .i64, .int .i64, .int .i64]) Try.underlying22 (by kernel_rfl) (hval 0 22 v0 rfl rfl) h0
  obtain ⟨i0, b0⟩ := intK_of_typ (k := .i64) (c := 3) rfl t0
  obtain ⟨x1, rfl, rfl, rfl, w1⟩ := open_int Try.underlying3 (hval 1 3 v1 rfl rfl) h1
  obtain ⟨x2, rfl, rfl, rfl, w2⟩ := open_int Try.underlying3 (hval 2 3 v2 rfl rfl) h2
  have hd : DenL Env.emp W [.row n0 3 f0, .int .i64 x1, .int .i64 x2] [v0, .int .i64 x1, .int .i64 x2] := ⟨e0, .int _ _, .int _ _, trivial⟩
  refine (law_calls moneyTickets_base (args := [.row n0 3 f0, .int .i64 x1, .int .i64 x2]) rfl ⟨rfl, fun i j hi hj => i0 i j hi hj⟩ (denA_of hd)).mono fun e W' ⟨he, hb⟩ => ?_
  subst he
  exact ⟨_, rfl, law_end laid rfl Try.underlying4 (by kernel_rfl) rfl hW' rfl hb⟩
theorem over : Rows.moneyTicketsRow.holds Try.pinned (OpenSpec.ofChange Rows.moneyTicketsSpec) :=
  OpenClaim.holds_of_wide 3 Try.f3 rfl rfl rfl rfl rfl rfl rfl ⟨rfl, rfl, rfl, rfl, rfl⟩ rfl rfl rfl rfl rfl (by kernel_rfl) Try.func3 (by kernel_rfl)
    (of_decide_eq_true (by kernel_rfl)) (by unfold Func.isWrapper; first | (rw [if_pos (by decide +kernel)]; kernel_rfl) | (rw [if_neg (by decide +kernel)]; exact ⟨rfl, rfl⟩))
    (fun os started H enc _ => lifted os started H enc)
end Go.Proofs.Ytiimhkdjechkpaa.moneyTickets
namespace Go.Proofs.Ytiimhkdjechkpaa
/-- The given statement. -/
theorem moneyTickets_holds : Rows.MoneyTicketsSaid := moneyTickets.over
#print axioms moneyTickets_holds
end Go.Proofs.Ytiimhkdjechkpaa
end
