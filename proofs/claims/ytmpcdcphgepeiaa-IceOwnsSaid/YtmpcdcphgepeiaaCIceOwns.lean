/-
  IceOwns: for every input the law returns true, and each argument reads afterwards as it read before. No condition.
-/
import Derived.Test.YtmpcdcphgepeiaaRows
import Derived.WalkKit
import Derived.Test.YtmpcdcphgepeiaaBR
set_option linter.unusedSimpArgs false
set_option linter.unusedVariables false
/- IceOwns: its call returns true. -/
section
namespace Go.Eng
open Go Go.RowKit Go.Proofs
set_option maxRecDepth 100000
set_option maxHeartbeats 4000000
attribute [local irreducible] OwnT DefS
theorem keeps_at (n : Nat) (z : Nat → Nat → Int) (m : Nat) (l : Nat → Nat → Int) (days least most : Int) : keepsBase [.row n 4 (fun i j => .int .i64 (z i j)), .row m 5 (fun i j => .int .i64 (l i j)), .int .i64 days, .int .i64 least, .int .i64 most] =
    some ((4 = 4 ∧ IntR n 4 (fun i j => .int .i64 (z i j))) ∧ (5 = 5 ∧ IntR m 5 (fun i j => .int .i64 (l i j))), kTup (keepsO n m z l days least most)) := rfl
theorem rkeeps_at (n : Nat) (z : Nat → Nat → Int) (m : Nat) (l : Nat → Nat → Int) (days least most : Int) : rkeepsBase [.row n 4 (fun i j => .int .i64 (z i j)), .row m 5 (fun i j => .int .i64 (l i j)), .int .i64 days, .int .i64 least, .int .i64 most] =
    some ((4 = 4 ∧ IntR n 4 (fun i j => .int .i64 (z i j))) ∧ (5 = 5 ∧ IntR m 5 (fun i j => .int .i64 (l i j))), kTup (keepsO n m z l days least most)) := rfl
theorem own_upd (i a b : Nat) (z : Nat → Nat → Int) : (if a = i ∧ b = 0 then nth [SV.int .i64 (-1)] b else SV.int .i64 (if a < i ∧ b = 0 then -1 else z a b)) = .int .i64 (if a < i + 1 ∧ b = 0 then -1 else z a b) := by
  by_cases h : a = i ∧ b = 0
  · obtain ⟨rfl, rfl⟩ := h
    simp [nth]
  · rw [if_neg h]
    have : (a < i ∧ b = 0) ↔ (a < i + 1 ∧ b = 0) := by omega
    simp [this]
def iceOwnsBase : BaseF := fun args => match args with
  | [.row n sz_z f_z, .row m sz_l f_l, .int .i64 days, .int .i64 least, .int .i64 most] => some ((sz_z = 4 ∧ IntR n 4 f_z) ∧ (sz_l = 5 ∧ IntR m 5 f_l), .bool true)
  | _ => none
theorem iceOwns_eq (n : Nat) (z : Nat → Nat → Int) (m : Nat) (l : Nat → Nat → Int) (days : Int) (least : Int) (most : Int) : iceOwnsBase [.row n 4 (fun i j => .int .i64 (z i j)), .row m 5 (fun i j => .int .i64 (l i j)), .int .i64 days, .int .i64 least, .int .i64 most] = some ((4 = 4 ∧ IntR n 4 (fun i j => .int .i64 (z i j))) ∧ (5 = 5 ∧ IntR m 5 (fun i j => .int .i64 (l i j))), .bool true) := rfl
theorem iceOwns_base : Base Try.prog 9 iceOwnsBase := by
  intro args p v hq hp
  unfold iceOwnsBase at hq
  split at hq
  rotate_left
  · cases hq
  rename_i n sz_z f_z m sz_l f_l days least most
  cases hq
  obtain ⟨⟨rfl, i_z⟩, ⟨rfl, i_l⟩⟩ := hp
  refine base_of (C := cx [] [(19, 37, playBase)] [(13, aliveBase), (25, sameBase), (32, keepsBase)] [(9, 16, p9_16)] none) (cx_ok ⟨play_base, trivial⟩ ⟨alive_base, same_base, keeps_base, trivial⟩) rfl (g := 9) (fn := Try.f9)
    (args' := [.row n 4 (rowF .i64 (fun i j => iv (f_z i j))), .row m 5 (rowF .i64 (fun i j => iv (f_l i j))), .int .i64 days, .int .i64 least, .int .i64 most]) (fn_9) rfl 1000 (by simp only [BdL, Bd, and_self, and_true, true_and]; exact ⟨fun i j hi hj => by rw [i_z i j hi hj]; trivial, fun i j hi hj => by rw [i_l i j hi hj]; trivial⟩) ⟨SameD.int i_z, SameD.int i_l, SameD.rfl' _, SameD.rfl' _, SameD.rfl' _, trivial⟩ ?_
  generalize (fun i j => iv (f_z i j)) = z
  generalize (fun i j => iv (f_l i j)) = l
  simp only [rowF_eq]
  simp only [alive_eq, same_eq, p9_16, play_at, pTup, keeps_at, kTup, Try.f9, go_sem, ↓reduceIte, Nat.reduceAdd, Nat.reduceSub, Nat.reduceMul, Nat.reduceEqDiff, Nat.reduceLT, Nat.reduceLeDiff, Int.reduceToNat, Int.reduceLE, Int.reduceLT, Int.reduceEq, Int.reduceNeg, reduceCtorEq]
  have hpn := playT_n n m z l
  refine ⟨fun _ => True.intro, fun c1 => ⟨fun _ => True.intro, fun c2 => ?_⟩⟩
  simp only [decide_eq_false_iff_not] at c1 c2
  generalize hP : playT n m z l = P at *
  refine ⟨by omega, by omega, by omega, ?_⟩
  refine loop_of { i : Nat // i ≤ P.n } (fun i => [(52, .int .i64 (i.1 : Int)), (51, .int .i64 (P.n : Int)), (17, .vec 3 1), (16, .int .i64 P.e), (15, .int .i64 P.i), (13, .vec 2 0), (14, .ptr 0 0), (12, .vec 1 1), (11, .vec 0 1), (4, .int .i64 most), (3, .int .i64 least), (2, .int .i64 days), (1, .row m 5 fun i j => .int .i64 (l i j)), (0, .row n 4 fun i j => .int .i64 (z i j))])
    (fun i => ⟨[.live 44 [.int .i64 (P.s 0), .int .i64 (P.s 1), .int .i64 (P.s 2), .int .i64 (P.s 3), .int .i64 (P.s 4), .int .i64 (P.s 5)]], [.live 1 37 4 n fun a b => .int .i64 (z a b), .live 1 41 5 m fun a b => .int .i64 (l a b), .live 0 37 4 P.n fun a b => .int .i64 (if a < i.1 ∧ b = 0 then -1 else P.z a b), .live 1 37 4 P.n fun a b => .int .i64 (P.z a b)]⟩) (fun i => P.n - i.1) (fun _ => ⟨rfl, rfl⟩) ⟨0, by omega⟩ (by (apply sub_of <;> simp only [go_sem, ↓reduceIte, Nat.reduceAdd, Nat.reduceSub, Nat.reduceMul, Nat.reduceEqDiff, Nat.reduceLT, Nat.reduceLeDiff, Int.reduceToNat, Int.reduceLE, Int.reduceLT, Int.reduceEq, Int.reduceNeg, reduceCtorEq] <;> (try simp [catF]))) ?_
  rintro ⟨i, hi⟩
  simp only [alive_eq, same_eq, p9_16, play_at, pTup, keeps_at, kTup, Try.f9, go_sem, ↓reduceIte, Nat.reduceAdd, Nat.reduceSub, Nat.reduceMul, Nat.reduceEqDiff, Nat.reduceLT, Nat.reduceLeDiff, Int.reduceToNat, Int.reduceLE, Int.reduceLT, Int.reduceEq, Int.reduceNeg, reduceCtorEq]
  have hw2 : IntKind.i64.wrap ((i : Int) + 1) = ((i + 1 : Nat) : Int) := by rw [wrap_id (by omega) (by omega)]; omega
  refine ⟨fun d1 => ?_, fun d1 => ?_⟩
  · simp only [decide_eq_true_eq] at d1
    refine ⟨⟨by omega, by omega⟩, by omega, ⟨i + 1, by omega⟩, by simp only []; omega, ?_⟩
    apply sub_of <;> simp only [hw2, go_sem, ↓reduceIte, Nat.reduceAdd, Nat.reduceSub, Nat.reduceMul, Nat.reduceEqDiff, Nat.reduceLT, Nat.reduceLeDiff, Int.reduceToNat, Int.reduceLE, Int.reduceLT, Int.reduceEq, Int.reduceNeg, reduceCtorEq] <;> (try simp)
    exact fun a b _ _ => own_upd i a b P.z
  · simp only [decide_eq_false_iff_not] at d1
    simp only [hP]
    refine loop_of { j : Nat // j ≤ m } (fun j => [(78, .int .i64 (j.1 : Int)), (77, .int .i64 (m : Int)), (22, .int .i64 P.e), (21, .int .i64 P.i), (19, .vec 4 0), (20, .ptr 1 0), (17, .vec 3 1), (16, .int .i64 P.e), (15, .int .i64 P.i), (14, .ptr 0 0), (12, .vec 1 1), (11, .vec 0 1), (1, .row m 5 fun i j => .int .i64 (l i j)), (0, .row n 4 fun i j => .int .i64 (z i j))])
      (fun j => ⟨[.live 44 [.int .i64 (P.s 0), .int .i64 (P.s 1), .int .i64 (P.s 2), .int .i64 (P.s 3), .int .i64 (P.s 4), .int .i64 (P.s 5)], .live 44 [.int .i64 (P.s 0), .int .i64 (P.s 1), .int .i64 (P.s 2), .int .i64 (P.s 3), .int .i64 (P.s 4), .int .i64 (P.s 5)]], [.live 1 37 4 n fun a b => .int .i64 (z a b), .live 1 41 5 m fun a b => .int .i64 (l a b), .dead, .live 1 37 4 P.n fun a b => .int .i64 (P.z a b), .live 0 37 4 P.n fun a b => .int .i64 (P.z a b)]⟩) (fun j => m - j.1) (fun _ => ⟨rfl, rfl⟩) ⟨0, by omega⟩ (by (apply sub_of <;> simp only [go_sem, ↓reduceIte, Nat.reduceAdd, Nat.reduceSub, Nat.reduceMul, Nat.reduceEqDiff, Nat.reduceLT, Nat.reduceLeDiff, Int.reduceToNat, Int.reduceLE, Int.reduceLT, Int.reduceEq, Int.reduceNeg, reduceCtorEq] <;> (try simp [catF]))) ?_
    rintro ⟨j, hj⟩
    have hw3 : IntKind.i64.wrap ((j : Int) + 1) = ((j + 1 : Nat) : Int) := by rw [wrap_id (by omega) (by omega)]; omega
    simp only [sameB_self, alive_eq, same_eq, p9_16, play_at, pTup, keeps_at, kTup, Try.f9, go_sem, ↓reduceIte, Nat.reduceAdd, Nat.reduceSub, Nat.reduceMul, Nat.reduceEqDiff, Nat.reduceLT, Nat.reduceLeDiff, Int.reduceToNat, Int.reduceLE, Int.reduceLT, Int.reduceEq, Int.reduceNeg, reduceCtorEq]
    refine ⟨fun e1 => ?_, fun e1 => ⟨by omega, by omega⟩⟩
    simp only [decide_eq_true_eq] at e1
    refine ⟨⟨by kernel_rfl, by kernel_rfl⟩, ⟨by omega, by omega⟩, by omega, ⟨by omega, by omega⟩, ⟨j + 1, by omega⟩, by simp only []; omega, ?_⟩
    apply sub_of <;> simp only [hw3, go_sem, ↓reduceIte, Nat.reduceAdd, Nat.reduceSub, Nat.reduceMul, Nat.reduceEqDiff, Nat.reduceLT, Nat.reduceLeDiff, Int.reduceToNat, Int.reduceLE, Int.reduceLT, Int.reduceEq, Int.reduceNeg, reduceCtorEq] <;> (try simp)
end Go.Eng
end

/-
  IceOwns: for every input the law returns true, and each argument reads afterwards as it read before. No condition.
-/
section
namespace Go.Proofs.Ytmpcdcphgepeiaa.iceOwns
open Go.ChangeShapes Go.WideShapes Go.ChangeAt Go.RowKit Go.Eng
set_option linter.unusedVariables false
theorem own : ownKnob Try.prog.godebug = none := by kernel_rfl
theorem laid : laidOutB Try.prog = true := by kernel_rfl
set_option maxRecDepth 100000 in
theorem lifted (os : Os) (started : os.Started) (H : Type) (enc : TypeId × Value → H) :
    ReturnsInHanded {} Try.checked os 9 .any (Rows.iceOwnsSpec.pre6 enc Try.prog Try.f9 Rows.iceOwnsRow.domain false) (Rows.iceOwnsSpec.post enc Try.prog Try.f9 false true false false) := by
  refine returnsInHanded_of_change (C := Try.checked) own started (by kernel_rfl) Try.func9
    (ChangeSpec.witness6 (enc := enc) (C := Try.checked) false ⟨#[], #[.slice none 0 0, .slice none 0 0, .int .i64 0, .int .i64 0, .int .i64 0], []⟩ 8 (by kernel_rfl) (by kernel_rfl) (by kernel_rfl) (by kernel_rfl)) ?_
  intro W base args ds gs before hval0 hW hcnd _
  have hval : ∀ (j : Nat) t v, Try.f9.params[j]? = some t → args[j]? = some v → Value.okWide Try.prog W .any base t v := hval0
  have hW' := hW
  obtain ⟨p, q, hA0, hV, rfl, hfz, hnd⟩ := hW
  have hA : DataW.TrodAll enc Try.prog W 0 (fun _ => true) true Try.f9.params.toList args.toList ds p := hA0
  rw [Try.params9] at hA hval
  obtain ⟨v0, vs0, d0, ds0, p0, q0, hargs, rfl, rfl, h0, r0⟩ := trodAll_cons hA
  obtain ⟨v1, vs1, d1, ds1, p1, q1, rfl, rfl, rfl, h1, r1⟩ := trodAll_cons r0
  obtain ⟨v2, vs2, d2, ds2, p2, q2, rfl, rfl, rfl, h2, r2⟩ := trodAll_cons r1
  obtain ⟨v3, vs3, d3, ds3, p3, q3, rfl, rfl, rfl, h3, r3⟩ := trodAll_cons r2
  obtain ⟨v4, vs4, d4, ds4, p4, q4, rfl, rfl, rfl, h4, r4⟩ := trodAll_cons r3
  obtain ⟨rfl, rfl, rfl⟩ := trodAll_nil r4
  obtain rfl : args = #[v0, v1, v2, v3, v4] := by cases args; simp_all
  obtain ⟨rfl, rfl⟩ := trodVars_none hV
  obtain ⟨n0, f0, e0, m0, t0⟩ := arg_row (s := [.int .i64, .int .i64, .int .i64, .int .i64]) Try.underlying22 (by kernel_rfl) (hval 0 22 v0 rfl rfl) h0
  obtain ⟨i0, b0⟩ := intK_of_typ (k := .i64) (c := 4) rfl t0
  obtain ⟨n1, f1, e1, m1, t1⟩ := arg_row (s := [.int .i64, .int .i64, .int .i64, .int .i64, .int .i64]) Try.underlying30 (by kernel_rfl) (hval 1 30 v1 rfl rfl) h1
  obtain ⟨i1, b1⟩ := intK_of_typ (k := .i64) (c := 5) rfl t1
  obtain ⟨x2, rfl, rfl, rfl, w2⟩ := open_int Try.underlying3 (hval 2 3 v2 rfl rfl) h2
  obtain ⟨x3, rfl, rfl, rfl, w3⟩ := open_int Try.underlying3 (hval 3 3 v3 rfl rfl) h3
  obtain ⟨x4, rfl, rfl, rfl, w4⟩ := open_int Try.underlying3 (hval 4 3 v4 rfl rfl) h4
  have hd : DenL Env.emp W [.row n0 4 f0, .row n1 5 f1, .int .i64 x2, .int .i64 x3, .int .i64 x4] [v0, v1, .int .i64 x2, .int .i64 x3, .int .i64 x4] := ⟨e0, e1, .int _ _, .int _ _, .int _ _, trivial⟩
  refine (law_calls iceOwns_base (args := [.row n0 4 f0, .row n1 5 f1, .int .i64 x2, .int .i64 x3, .int .i64 x4]) rfl ⟨⟨rfl, fun i j hi hj => i0 i j hi hj⟩, ⟨rfl, fun i j hi hj => i1 i j hi hj⟩⟩ (denA_of hd)).mono fun e W' ⟨he, hb⟩ => ?_
  subst he
  exact ⟨_, rfl, law_end laid rfl Try.underlying4 (by kernel_rfl) rfl hW' rfl hb⟩
theorem over : Rows.iceOwnsRow.holds Try.pinned (OpenSpec.ofChange Rows.iceOwnsSpec) :=
  OpenClaim.holds_of_wide 9 Try.f9 rfl rfl rfl rfl rfl rfl rfl ⟨rfl, rfl, rfl, rfl, rfl⟩ rfl rfl rfl rfl rfl (by kernel_rfl) Try.func9 (by kernel_rfl)
    (of_decide_eq_true (by kernel_rfl)) (by unfold Func.isWrapper; first | (rw [if_pos (by decide +kernel)]; kernel_rfl) | (rw [if_neg (by decide +kernel)]; exact ⟨rfl, rfl⟩))
    (fun os started H enc _ => lifted os started H enc)
end Go.Proofs.Ytmpcdcphgepeiaa.iceOwns
namespace Go.Proofs.Ytmpcdcphgepeiaa
/-- The given statement. -/
theorem iceOwns_holds : Rows.IceOwnsSaid := iceOwns.over
#print axioms iceOwns_holds
end Go.Proofs.Ytmpcdcphgepeiaa
end
