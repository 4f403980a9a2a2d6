/-
  IceEnds: for every input the law returns true, and each argument reads afterwards as it read before. No condition.
-/
import Derived.Test.YtmpcdcphgepeiaaRows
import Derived.WalkKit
import Derived.Test.YtmpcdcphgepeiaaBR
set_option linter.unusedSimpArgs false
set_option linter.unusedVariables false
/- IceEnds: its call returns true. -/
section
namespace Go.Eng
open Go Go.RowKit Go.Proofs
set_option maxRecDepth 100000
set_option maxHeartbeats 4000000
attribute [local irreducible] OwnT DefS
theorem row5_snoc {k : Nat} {z : Nat → Nat → Int} {a b : Nat} (ha : a < k + 1) (hb : b < 5) : catF k (fun i j => SV.int .i64 (z i j)) (oneF [.int .i64 (z k 0), .int .i64 (z k 1), .int .i64 (z k 2), .int .i64 (z k 3), .int .i64 (z k 4)]) a b = .int .i64 (z a b) := by
  unfold catF oneF
  split
  · rfl
  · have : a = k := by omega
    subst this
    have hc4 : b = 0 ∨ b = 1 ∨ b = 2 ∨ b = 3 ∨ b = 4 := by omega
    rcases hc4 with rfl | rfl | rfl | rfl | rfl <;> rfl
def oneBase : BaseF := fun args => match args with
  | [.int .i64 a] => some (True, .agg [.int .i64 a, .int .i64 a])
  | _ => none
theorem one_eq (a : Int) : oneBase [.int .i64 a] = some (True, .agg [.int .i64 a, .int .i64 a]) := rfl
theorem one_base : Base Try.prog 22 oneBase := by
  intro args p v hq hp
  unfold oneBase at hq
  split at hq
  rotate_left
  · cases hq
  rename_i a
  cases hq
  refine base_of (C := cx [] [] [(23, spanBase)] [] none) (cx_ok trivial ⟨span_base, trivial⟩) rfl (g := 22) (fn := Try.f22)
    (args' := [.int .i64 a]) (fn_22) rfl 1000 (by simp only [BdL, Bd, and_self]) ⟨SameD.rfl' _, trivial⟩ ?_
  simp only [span_eq, Try.f22, go_sem, ↓reduceIte, Nat.reduceAdd, Nat.reduceSub, Nat.reduceMul, Nat.reduceEqDiff, Nat.reduceLT, Nat.reduceLeDiff, Int.reduceToNat, Int.reduceLE, Int.reduceLT, Int.reduceEq, Int.reduceNeg, reduceCtorEq]
def iceEndsBase : BaseF := fun args => match args with
  | [.row n sz_z f_z, .row m sz_l f_l] => some ((sz_z = 4 ∧ IntR n 4 f_z) ∧ (sz_l = 5 ∧ IntR m 5 f_l), .bool true)
  | _ => none
theorem iceEnds_eq (n : Nat) (z : Nat → Nat → Int) (m : Nat) (l : Nat → Nat → Int) : iceEndsBase [.row n 4 (fun i j => .int .i64 (z i j)), .row m 5 (fun i j => .int .i64 (l i j))] = some ((4 = 4 ∧ IntR n 4 (fun i j => .int .i64 (z i j))) ∧ (5 = 5 ∧ IntR m 5 (fun i j => .int .i64 (l i j))), .bool true) := rfl
theorem iceEnds_base : Base Try.prog 5 iceEndsBase := by
  intro args p v hq hp
  unfold iceEndsBase at hq
  split at hq
  rotate_left
  · cases hq
  rename_i n sz_z f_z m sz_l f_l
  cases hq
  obtain ⟨⟨rfl, i_z⟩, ⟨rfl, i_l⟩⟩ := hp
  refine base_of (C := cx [] [(19, 37, playBase)] [(22, oneBase), (13, aliveBase), (16, rinkBase)] [(5, 13, p5_13), (5, 19, p5_19), (5, 21, p5_21), (5, 25, p5_25), (5, 26, p5_26), (5, 35, p5_35)] none) (cx_ok ⟨play_base, trivial⟩ ⟨one_base, alive_base, rink_base, trivial⟩) rfl (g := 5) (fn := Try.f5)
    (args' := [.row n 4 (rowF .i64 (fun i j => iv (f_z i j))), .row m 5 (rowF .i64 (fun i j => iv (f_l i j)))]) (fn_5) rfl 1000 (by simp only [BdL, Bd, and_self, and_true, true_and]; exact ⟨fun i j hi hj => by rw [i_z i j hi hj]; trivial, fun i j hi hj => by rw [i_l i j hi hj]; trivial⟩) ⟨SameD.int i_z, SameD.int i_l, trivial⟩ ?_
  generalize (fun i j => iv (f_z i j)) = z
  generalize (fun i j => iv (f_l i j)) = l
  simp only [rowF_eq]
  simp only [one_eq, alive_eq, rink_eq, p5_13, p5_19, p5_21, p5_25, p5_26, p5_35, play_at, pTup, Try.f5, go_sem, ↓reduceIte, Nat.reduceAdd, Nat.reduceSub, Nat.reduceMul, Nat.reduceEqDiff, Nat.reduceLT, Nat.reduceLeDiff, Int.reduceToNat, Int.reduceLE, Int.reduceLT, Int.reduceEq, Int.reduceNeg, reduceCtorEq]
  refine ⟨fun _ => trivial, fun c0 => ⟨fun c1 => ?_, fun c1 => ?_⟩⟩
  · simp at c1
    obtain ⟨q1, q2, _⟩ := playT_bad c1
    exact ⟨fun _ => ⟨fun _ => trivial, fun h => by simp at h; omega⟩, fun h => by simp at h; omega⟩
  simp at c0 c1
  obtain ⟨hr, hm, hpn, x, hx, hpl⟩ := playT_ok c1
  have hb := rinkB_iff.1 hr
  refine ⟨fun h => by simp [hr] at h, fun _ => ⟨fun h => by simp [hpn] at h, fun _ => ?_⟩⟩
  generalize hP : playT n m z l = P at *
  refine loop_of { i : Nat // i ≤ n } (fun i => [(66, .int .i64 (i.1 : Int)), (65, .int .i64 (n : Int)), (64, .row n 4 fun i j => .int .i64 (z i j)), (11, .vec 2 i.1), (10, .vec 1 i.1), (9, .func 22 []), (5, .vec 0 0), (1, .row m 5 fun i j => .int .i64 (l i j)), (0, .row n 4 fun i j => .int .i64 (z i j))])
    (fun i => ⟨[.dead], [.live 0 37 4 P.n fun i j => .int .i64 (P.z i j), .live i.1 37 4 i.1 fun a b => .int .i64 (zS 0 z a b), .live i.1 37 4 i.1 fun a b => .int .i64 (zS 1 z a b)]⟩) (fun i => n - i.1) (fun _ => ⟨rfl, rfl⟩) ⟨0, by omega⟩ (by (apply sub_of <;> simp only [go_sem, ↓reduceIte, Nat.reduceAdd, Nat.reduceSub, Nat.reduceMul, Nat.reduceEqDiff, Nat.reduceLT, Nat.reduceLeDiff, Int.reduceToNat, Int.reduceLE, Int.reduceLT, Int.reduceEq, Int.reduceNeg, reduceCtorEq] <;> (try simp [catF]))) ?_
  rintro ⟨i, hi⟩
  simp only [one_eq, alive_eq, rink_eq, p5_13, p5_19, p5_21, p5_25, p5_26, p5_35, play_at, pTup, Try.f5, go_sem, ↓reduceIte, Nat.reduceAdd, Nat.reduceSub, Nat.reduceMul, Nat.reduceEqDiff, Nat.reduceLT, Nat.reduceLeDiff, Int.reduceToNat, Int.reduceLE, Int.reduceLT, Int.reduceEq, Int.reduceNeg, reduceCtorEq]
  have hw2 : IntKind.i64.wrap ((i : Int) + 1) = ((i + 1 : Nat) : Int) := by rw [wrap_id (by omega) (by omega)]; omega
  refine ⟨fun d1 => ?_, fun d1 => ?_⟩
  · simp only [decide_eq_true_eq] at d1
    repeat' (first | refine And.intro ?_ ?_ | intro _)
    all_goals try (first | (as_aux_lemma => (first | (show planOk _ _ = true; kernel_rfl) | (show keepOk _ _ = true; kernel_rfl))) | exact True.intro)
    all_goals try omega
    refine ⟨⟨i + 1, by omega⟩, by simp only []; omega, ?_⟩
    apply sub_of <;> simp only [hw2, go_sem, ↓reduceIte, Nat.reduceAdd, Nat.reduceSub, Nat.reduceMul, Nat.reduceEqDiff, Nat.reduceLT, Nat.reduceLeDiff, Int.reduceToNat, Int.reduceLE, Int.reduceLT, Int.reduceEq, Int.reduceNeg, reduceCtorEq] <;> (try simp)
    exact ⟨fun a b ha hb => row_snoc (z := zS 0 z) ha hb, fun a b ha hb => row_snoc (z := zS 1 z) ha hb⟩
  · simp only [decide_eq_false_iff_not] at d1
    obtain rfl : n = i := by omega
    refine loop_of { j : Nat // j ≤ m ∧ ∀ k, k < j → l k 0 ≠ 3 } (fun j => [(101, .int .i64 (j.1 : Int)), (100, .int .i64 (m : Int)), (99, .row m 5 fun i j => .int .i64 (l i j)), (15, .vec 4 j.1), (14, .vec 3 j.1), (11, .vec 2 n), (10, .vec 1 n), (9, .func 22 []), (5, .vec 0 0), (0, .row n 4 fun i j => .int .i64 (z i j))])
      (fun j => ⟨[.dead], [.live 0 37 4 P.n fun i j => .int .i64 (P.z i j), .live n 37 4 n fun a b => .int .i64 (zS 0 z a b), .live n 37 4 n fun a b => .int .i64 (zS 1 z a b), .live j.1 41 5 j.1 fun a b => .int .i64 (eS 0 l a b), .live j.1 41 5 j.1 fun a b => .int .i64 (eS 1 l a b)]⟩) (fun j => m - j.1) (fun _ => ⟨rfl, rfl⟩) ⟨0, by omega, by omega⟩ (by (apply sub_of <;> simp only [go_sem, ↓reduceIte, Nat.reduceAdd, Nat.reduceSub, Nat.reduceMul, Nat.reduceEqDiff, Nat.reduceLT, Nat.reduceLeDiff, Int.reduceToNat, Int.reduceLE, Int.reduceLT, Int.reduceEq, Int.reduceNeg, reduceCtorEq] <;> (try simp [catF]))) ?_
    rintro ⟨j, hj, h3⟩
    simp only [one_eq, alive_eq, rink_eq, p5_13, p5_19, p5_21, p5_25, p5_26, p5_35, play_at, pTup, Try.f5, go_sem, ↓reduceIte, Nat.reduceAdd, Nat.reduceSub, Nat.reduceMul, Nat.reduceEqDiff, Nat.reduceLT, Nat.reduceLeDiff, Int.reduceToNat, Int.reduceLE, Int.reduceLT, Int.reduceEq, Int.reduceNeg, reduceCtorEq]
    have hw3 : IntKind.i64.wrap ((j : Int) + 1) = ((j + 1 : Nat) : Int) := by rw [wrap_id (by omega) (by omega)]; omega
    refine ⟨fun d2 => ?_, fun d2 => ?_⟩
    · simp only [decide_eq_true_eq] at d2
      repeat' (first | refine And.intro ?_ ?_ | intro _)
      all_goals try (first | (as_aux_lemma => (first | (show planOk _ _ = true; kernel_rfl) | (show keepOk _ _ = true; kernel_rfl))) | exact True.intro)
      all_goals try omega
      all_goals
        have hne : l j 0 ≠ 3 := by simp only [decide_eq_false_iff_not] at *; assumption
        refine ⟨⟨j + 1, by omega, fun k hk => by by_cases e : k = j; (subst e; exact hne); exact h3 k (by omega)⟩, by simp only []; omega, ?_⟩
        apply sub_of <;> simp only [hw3, go_sem, ↓reduceIte, Nat.reduceAdd, Nat.reduceSub, Nat.reduceMul, Nat.reduceEqDiff, Nat.reduceLT, Nat.reduceLeDiff, Int.reduceToNat, Int.reduceLE, Int.reduceLT, Int.reduceEq, Int.reduceNeg, reduceCtorEq] <;> (try simp)
      all_goals first
        | (have hk : l j 0 = 0 := by simp only [decide_eq_true_eq] at *; assumption
           exact ⟨fun a b ha hb => by have t := row5_snoc (z := eS 0 l) (k := j) ha hb; rw [show eS 0 l j 0 = l j 0 from rfl, show eS 0 l j 1 = l j 1 from rfl, show eS 0 l j 2 = l j 2 from rfl, show eS 0 l j 3 = l j 3 by simp [eS, e1S, hk], show eS 0 l j 4 = l j 3 by simp [eS, e1S, hk]] at t; exact t, fun a b ha hb => by have t := row5_snoc (z := eS 1 l) (k := j) ha hb; rw [show eS 1 l j 0 = l j 0 from rfl, show eS 1 l j 1 = l j 1 from rfl, show eS 1 l j 2 = l j 2 from rfl, show eS 1 l j 3 = l j 4 by simp [eS, e1S, hk], show eS 1 l j 4 = l j 4 by simp [eS, e1S, hk]] at t; exact t⟩)
        | (have hk : ¬ l j 0 = 0 := by simp only [decide_eq_false_iff_not] at *; assumption
           exact ⟨fun a b ha hb => by have t := row5_snoc (z := eS 0 l) (k := j) ha hb; rw [show eS 0 l j 0 = l j 0 from rfl, show eS 0 l j 1 = l j 1 from rfl, show eS 0 l j 2 = l j 2 from rfl, show eS 0 l j 3 = l j 4 by simp [eS, e1S, hk], show eS 0 l j 4 = l j 4 by simp [eS, e1S, hk]] at t; exact t, fun a b ha hb => by have t := row5_snoc (z := eS 1 l) (k := j) ha hb; rw [show eS 1 l j 0 = l j 0 from rfl, show eS 1 l j 1 = l j 1 from rfl, show eS 1 l j 2 = l j 2 from rfl, show eS 1 l j 3 = l j 3 by simp [eS, e1S, hk], show eS 1 l j 4 = l j 3 by simp [eS, e1S, hk]] at t; exact t⟩)
    · simp only [decide_eq_false_iff_not] at d2
      obtain rfl : m = j := by omega
      have h0 : (playT n m z l).e = 0 := by rw [hP]; exact c1
      obtain ⟨a1, a2, a3⟩ := play_S (s := 0) (by omega) h3 h0
      obtain ⟨b1, b2, b3⟩ := play_S (s := 1) (by omega) h3 h0
      rw [hP] at a3 b3
      generalize playT n m (zS 0 z) (eS 0 l) = A at *
      generalize playT n m (zS 1 z) (eS 1 l) = B at *
      refine ⟨fun h => by simp [a1] at h, fun _ => ⟨fun h => by simp [b1] at h, fun _ => ⟨fun h => by simp [a2] at h, fun _ => ⟨fun h => by simp [b2] at h, fun _ => ?_⟩⟩⟩⟩
      refine loop_of { k : Nat // k ≤ n } (fun k => [(185, .int .i64 (k.1 : Int)), (184, .int .i64 (n : Int)), (183, .vec 0 0), (9, .func 22 []), (20, .vec 5 0), (24, .vec 6 0)])
        (fun k => ⟨[.dead, .dead, .dead], [.live 0 37 4 P.n fun i j => .int .i64 (P.z i j), .dead, .dead, .dead, .dead, .live 0 37 4 A.n fun i j => .int .i64 (A.z i j), .live 0 37 4 B.n fun i j => .int .i64 (B.z i j)]⟩) (fun k => n - k.1) (fun _ => ⟨rfl, rfl⟩) ⟨0, by omega⟩ (by apply sub_of <;> simp only [hpn, go_sem, ↓reduceIte, Nat.reduceAdd, Nat.reduceSub, Nat.reduceMul, Nat.reduceEqDiff, Nat.reduceLT, Nat.reduceLeDiff, Int.reduceToNat, Int.reduceLE, Int.reduceLT, Int.reduceEq, Int.reduceNeg, reduceCtorEq] <;> (try simp [catF])) ?_
      rintro ⟨k, hk⟩
      simp only [one_eq, alive_eq, rink_eq, p5_13, p5_19, p5_21, p5_25, p5_26, p5_35, play_at, pTup, Try.f5, go_sem, ↓reduceIte, Nat.reduceAdd, Nat.reduceSub, Nat.reduceMul, Nat.reduceEqDiff, Nat.reduceLT, Nat.reduceLeDiff, Int.reduceToNat, Int.reduceLE, Int.reduceLT, Int.reduceEq, Int.reduceNeg, reduceCtorEq]
      have hw4 : IntKind.i64.wrap ((k : Int) + 1) = ((k + 1 : Nat) : Int) := by rw [wrap_id (by omega) (by omega)]; omega
      refine ⟨fun d3 => ?_, fun d3 => ?_⟩
      · simp only [decide_eq_true_eq] at d3
        have hkn : k < n := by omega
        obtain ⟨u0, u1, u2, u3⟩ := a3 k hkn
        obtain ⟨v0, v1, v2, v3⟩ := b3 k hkn
        repeat' (first | refine And.intro ?_ ?_ | intro _)
        all_goals try (first | (as_aux_lemma => (first | (show planOk _ _ = true; kernel_rfl) | (show keepOk _ _ = true; kernel_rfl))) | exact True.intro)
        all_goals try (rename_i hc; exfalso; simp [u0, u1, u2, u3, v0, v1, v2, v3] at hc; done)
        all_goals try omega
        refine ⟨⟨k + 1, by omega⟩, by simp only []; omega, ?_⟩
        apply sub_of <;> simp only [hw4, hpn, a2, b2, go_sem, ↓reduceIte, Nat.reduceAdd, Nat.reduceSub, Nat.reduceMul, Nat.reduceEqDiff, Nat.reduceLT, Nat.reduceLeDiff, Int.reduceToNat, Int.reduceLE, Int.reduceLT, Int.reduceEq, Int.reduceNeg, reduceCtorEq] <;> (try simp)
      · exact True.intro
end Go.Eng
end

/-
  IceEnds: for every input the law returns true, and each argument reads afterwards as it read before. No condition.
-/
section
namespace Go.Proofs.Ytmpcdcphgepeiaa.iceEnds
open Go.ChangeShapes Go.WideShapes Go.ChangeAt Go.RowKit Go.Eng
set_option linter.unusedVariables false
theorem own : ownKnob Try.prog.godebug = none := by kernel_rfl
theorem laid : laidOutB Try.prog = true := by kernel_rfl
set_option maxRecDepth 100000 in
theorem lifted (os : Os) (started : os.Started) (H : Type) (enc : TypeId × Value → H) :
    ReturnsInHanded {} Try.checked os 5 .any (Rows.iceEndsSpec.pre6 enc Try.prog Try.f5 Rows.iceEndsRow.domain false) (Rows.iceEndsSpec.post enc Try.prog Try.f5 false true false false) := by
  refine returnsInHanded_of_change (C := Try.checked) own started (by kernel_rfl) Try.func5
    (ChangeSpec.witness6 (enc := enc) (C := Try.checked) false ⟨#[], #[.slice none 0 0, .slice none 0 0], []⟩ 8 (by kernel_rfl) (by kernel_rfl) (by kernel_rfl) (by kernel_rfl)) ?_
  intro W base args ds gs before hval0 hW hcnd _
  have hval : ∀ (j : Nat) t v, Try.f5.params[j]? = some t → args[j]? = some v → Value.okWide Try.prog W .any base t v := hval0
  have hW' := hW
  obtain ⟨p, q, hA0, hV, rfl, hfz, hnd⟩ := hW
  have hA : DataW.TrodAll enc Try.prog W 0 (fun _ => true) true Try.f5.params.toList args.toList ds p := hA0
  rw [Try.params5] at hA hval
  obtain ⟨v0, vs0, d0, ds0, p0, q0, hargs, rfl, rfl, h0, r0⟩ := trodAll_cons hA
  obtain ⟨v1, vs1, d1, ds1, p1, q1, rfl, rfl, rfl, h1, r1⟩ := trodAll_cons r0
  obtain ⟨rfl, rfl, rfl⟩ := trodAll_nil r1
  obtain rfl : args = #[v0, v1] := by cases args; simp_all
  obtain ⟨rfl, rfl⟩ := trodVars_none hV
  obtain ⟨n0, f0, e0, m0, t0⟩ := arg_row (s := [.int .i64, .int .i64, .int .i64, .int .i64]) Try.underlying22 (by kernel_rfl) (hval 0 22 v0 rfl rfl) h0
  obtain ⟨i0, b0⟩ := intK_of_typ (k := .i64) (c := 4) rfl t0
  obtain ⟨n1, f1, e1, m1, t1⟩ := arg_row (s := [.int .i64, .int .i64, .int .i64, .int .i64, .int .i64]) Try.underlying30 (by kernel_rfl) (hval 1 30 v1 rfl rfl) h1
  obtain ⟨i1, b1⟩ := intK_of_typ (k := .i64) (c := 5) rfl t1
  have hd : DenL Env.emp W [.row n0 4 f0, .row n1 5 f1] [v0, v1] := ⟨e0, e1, trivial⟩
  refine (law_calls iceEnds_base (args := [.row n0 4 f0, .row n1 5 f1]) rfl ⟨⟨rfl, fun i j hi hj => i0 i j hi hj⟩, ⟨rfl, fun i j hi hj => i1 i j hi hj⟩⟩ (denA_of hd)).mono fun e W' ⟨he, hb⟩ => ?_
  subst he
  exact ⟨_, rfl, law_end laid rfl Try.underlying4 (by kernel_rfl) rfl hW' rfl hb⟩
theorem over : Rows.iceEndsRow.holds Try.pinned (OpenSpec.ofChange Rows.iceEndsSpec) :=
  OpenClaim.holds_of_wide 5 Try.f5 rfl rfl rfl rfl rfl rfl rfl ⟨rfl, rfl, rfl, rfl, rfl⟩ rfl rfl rfl rfl rfl (by kernel_rfl) Try.func5 (by kernel_rfl)
    (of_decide_eq_true (by kernel_rfl)) (by unfold Func.isWrapper; first | (rw [if_pos (by decide +kernel)]; kernel_rfl) | (rw [if_neg (by decide +kernel)]; exact ⟨rfl, rfl⟩))
    (fun os started H enc _ => lifted os started H enc)
end Go.Proofs.Ytmpcdcphgepeiaa.iceEnds
namespace Go.Proofs.Ytmpcdcphgepeiaa
/-- The given statement. -/
theorem iceEnds_holds : Rows.IceEndsSaid := iceEnds.over
#print axioms iceEnds_holds
end Go.Proofs.Ytmpcdcphgepeiaa
end
