/-
  ClockShows: for every input the law returns true, and each argument reads afterwards as it read before. No condition.
-/
import Derived.Test.YtjkbmnhpbncdcaaRows
import Derived.WalkKit
import Derived.Test.YtjkbmnhpbncdcaaK4
set_option linter.unusedSimpArgs false
set_option linter.unusedVariables false
/- clock: ClockPlays. -/
section
namespace Go.Eng
open Go Go.RowKit Go.Proofs
set_option maxRecDepth 100000
set_option maxHeartbeats 4000000
attribute [local irreducible] OwnT DefS
/-- No list is long. -/
def Bo.Sm (b : Bo) : Prop := b.p0.length ≤ 600 ∧ b.p1.length ≤ 600 ∧ b.m0.length ≤ 600 ∧ b.m1.length ≤ 600
theorem z_sm : Bo.z.Sm := ⟨by decide, by decide, by decide, by decide⟩
theorem cnt_sm {b : Bo} {n : Nat} (h : b.Cnt n) (hn : n ≤ 300) : b.Sm := ⟨by have := h.p0; omega, by have := h.p1; omega, by have := h.m0; omega, by have := h.m1; omega⟩
theorem plR_sm (n : Nat) (l : Nat → Nat → Int) : (plR n l).1.Sm := by
  unfold plR
  split
  · exact z_sm
  · split
    · exact z_sm
    · exact cnt_sm (playP_ok (ev := evN l) (to := 1048576) (by omega) n 0 G0 G0_ok G0_cnt (by omega)).2 (by omega)
theorem plT_sm (n : Nat) (l : Nat → Nat → Int) : (plT n l).1.Sm := by rw [← plR_plT]; exact plR_sm n l
theorem atR_sm (n : Nat) (l : Nat → Nat → Int) (to : Int) : (atR n l to).1.Sm := by
  unfold atR
  rw [plR_plT]
  split
  · exact z_sm
  · rename_i h
    split
    · exact z_sm
    · rename_i h2
      have hto := in3_iff.1 (show in3 to 0 1048576 = true by simpa using h2)
      have hn := (plT_len (by simpa using h)).1
      exact cnt_sm (passP_cnt _ _ (playP_ok (ev := evN l) (to := to) hto n 0 G0 G0_ok G0_cnt (by omega)).2) (by omega)
theorem agT_sm (n : Nat) (l : Nat → Nat → Int) (to : Int) : (agT n l to).1.b.Sm := by
  have := atR_sm n l to
  rw [atR_agT] at this
  exact this
theorem wiT_sm (n : Nat) (l : Nat → Nat → Int) (q : Int) : (wiT n l q).1.Sm := by
  unfold wiT
  repeat' split
  all_goals first | exact z_sm | exact plT_sm _ _
def clockPlaysBase : BaseF := fun args => match args with
  | [.row n sz_l f_l, .int .i64 second, .int .i64 index] => some ((sz_l = 4 ∧ IntR n 4 f_l), .bool true)
  | _ => none
theorem clockPlays_eq (n : Nat) (sz_l : Nat) (f_l : Nat → Nat → SV) (second : Int) (index : Int) : clockPlaysBase [.row n sz_l f_l, .int .i64 second, .int .i64 index] = some ((sz_l = 4 ∧ IntR n 4 f_l), .bool true) := rfl
theorem clockPlays_base : Base Try.prog 7 clockPlaysBase := by
  intro args p v hq hp
  unfold clockPlaysBase at hq
  split at hq
  rotate_left
  · cases hq
  rename_i n sz_l f_l second index
  cases hq
  obtain ⟨rfl, i_l⟩ := hp
  refine base_of (C := cxn [] [(23, playTBase), (24, atTBase), (25, withoutBase), (26, withTBase)] [] [(11, aliveBase), (12, playBase), (14, atBase), (20, sameBase)] [] none) (cxn_ok ⟨playT_base, atT_base, without_base, withT_base, trivial⟩ trivial ⟨alive_base, play_base, at_base, same_base, trivial⟩) rfl (g := 7) (fn := Try.f7)
    (args' := [.row n 4 (rowF .i64 (ivf f_l)), .int .i64 second, .int .i64 index]) (fn_7) rfl 1000 (by
    simp only [BdL, Bd, and_self, and_true, true_and]
    exact (fun i j hi hj => by rw [i_l i j hi hj]; trivial)) ⟨SameD.int i_l, SameD.rfl' _, SameD.rfl' _, trivial⟩ ?_
  generalize ivf f_l = l
  simp only [rowF_eq]
  simp only [alive_eq, play_eq, at_eq, same_eq, playT_eq, atT_eq, without_eq, withT_eq, Try.f15, boS, rowP, pl_pf, plR_plT, atR_agT, wiR_wiT, Try.f7, go_sem, ↓reduceIte, Nat.reduceAdd, Nat.reduceSub, Nat.reduceMul, Nat.reduceEqDiff, Nat.reduceLT, Nat.reduceLeDiff, Int.reduceToNat, Int.reduceLE, Int.reduceLT, Int.reduceEq, Int.reduceNeg, reduceCtorEq]
  have h1 := plT_sm n l
  have h2 := agT_sm n l second
  have h3 := wiT_sm n l index
  unfold Bo.Sm at h1 h2 h3
  repeat' first | refine spl_intro (fun _ => ?_) (fun _ => ?_) | apply And.intro
  all_goals first | trivial | omega | skip
  all_goals (simp only [decide_eq_true_eq, decide_eq_false_iff_not] at *; omega)
end Go.Eng
end

/- clock: ClockShows. -/
section
namespace Go.Eng
open Go Go.RowKit Go.Proofs
set_option maxRecDepth 100000
set_option maxHeartbeats 4000000
attribute [local irreducible] OwnT DefS
theorem stT_sm {n : Nat} {l : Nat → Nat → Int} {to : Int} (hn : n ≤ 1000000) : (stT n l to).1.length ≤ 3600 := by
  unfold stT
  split
  · exact Nat.zero_le _
  · exact Nat.le_trans (cmpT_len _ _) (agT_len hn)
def clockShowsBase : BaseF := fun args => match args with
  | [.row n sz_l f_l, .int .i64 second, .agg [.int .i64 per, .int .i64 pd, .bool run, .int .i64 g0, .int .i64 g1, .row n0 sz_a0 f_a0, .row n1 sz_a1 f_a1, .row m0 sz_b0 f_b0, .row m1 sz_b1 f_b1], .int .i64 team] => some ((sz_l = 4 ∧ IntR n 4 f_l) ∧ (sz_a0 = 3 ∧ IntR n0 3 f_a0) ∧ (sz_a1 = 3 ∧ IntR n1 3 f_a1) ∧ (sz_b0 = 3 ∧ IntR m0 3 f_b0) ∧ (sz_b1 = 3 ∧ IntR m1 3 f_b1), .bool true)
  | _ => none
theorem clockShows_eq (n : Nat) (sz_l : Nat) (f_l : Nat → Nat → SV) (second : Int) (per : Int) (pd : Int) (run : Bool) (g0 : Int) (g1 : Int) (n0 : Nat) (sz_a0 : Nat) (f_a0 : Nat → Nat → SV) (n1 : Nat) (sz_a1 : Nat) (f_a1 : Nat → Nat → SV) (m0 : Nat) (sz_b0 : Nat) (f_b0 : Nat → Nat → SV) (m1 : Nat) (sz_b1 : Nat) (f_b1 : Nat → Nat → SV) (team : Int) : clockShowsBase [.row n sz_l f_l, .int .i64 second, .agg [.int .i64 per, .int .i64 pd, .bool run, .int .i64 g0, .int .i64 g1, .row n0 sz_a0 f_a0, .row n1 sz_a1 f_a1, .row m0 sz_b0 f_b0, .row m1 sz_b1 f_b1], .int .i64 team] = some ((sz_l = 4 ∧ IntR n 4 f_l) ∧ (sz_a0 = 3 ∧ IntR n0 3 f_a0) ∧ (sz_a1 = 3 ∧ IntR n1 3 f_a1) ∧ (sz_b0 = 3 ∧ IntR m0 3 f_b0) ∧ (sz_b1 = 3 ∧ IntR m1 3 f_b1), .bool true) := rfl
theorem clockShows_base : Base Try.prog 4 clockShowsBase := by
  intro args p v hq hp
  unfold clockShowsBase at hq
  split at hq
  rotate_left
  · cases hq
  rename_i n sz_l f_l second per pd run g0 g1 n0 sz_a0 f_a0 n1 sz_a1 f_a1 m0 sz_b0 f_b0 m1 sz_b1 f_b1 team
  cases hq
  obtain ⟨⟨rfl, i_l⟩, ⟨rfl, i_a0⟩, ⟨rfl, i_a1⟩, ⟨rfl, i_b0⟩, ⟨rfl, i_b1⟩⟩ := hp
  refine base_of (C := cxn [] [(17, strTBase)] [] [(11, aliveBase), (13, wholeBase), (16, strengthsBase), (18, wholeTBase), (19, strEqBase)] [] none) (cxn_ok ⟨strT_base, trivial⟩ trivial ⟨alive_base, whole_base, strengths_base, wholeT_base, strEq_base, trivial⟩) rfl (g := 4) (fn := Try.f4)
    (args' := [.row n 4 (rowF .i64 (ivf f_l)), .int .i64 second, .agg [.int .i64 per, .int .i64 pd, .bool run, .int .i64 g0, .int .i64 g1, .row n0 3 (rowF .i64 (ivf f_a0)), .row n1 3 (rowF .i64 (ivf f_a1)), .row m0 3 (rowF .i64 (ivf f_b0)), .row m1 3 (rowF .i64 (ivf f_b1))], .int .i64 team]) (fn_4) rfl 1000 (by
    simp only [BdL, Bd, and_self, and_true, true_and]
    exact ⟨(fun i j hi hj => by rw [i_l i j hi hj]; trivial), ⟨(fun i j hi hj => by rw [i_a0 i j hi hj]; trivial), (fun i j hi hj => by rw [i_a1 i j hi hj]; trivial), (fun i j hi hj => by rw [i_b0 i j hi hj]; trivial), (fun i j hi hj => by rw [i_b1 i j hi hj]; trivial)⟩⟩) ⟨SameD.int i_l, SameD.rfl' _, SameD.agg ⟨SameD.rfl' _, SameD.rfl' _, SameD.rfl' _, SameD.rfl' _, SameD.rfl' _, SameD.int i_a0, SameD.int i_a1, SameD.int i_b0, SameD.int i_b1, trivial⟩, SameD.rfl' _, trivial⟩ ?_
  generalize ivf f_l = l
  generalize ivf f_a0 = a0
  generalize ivf f_a1 = a1
  generalize ivf f_b0 = b0
  generalize ivf f_b1 = b1
  simp only [rowF_eq]
  simp only [alive_eq, whole_eq, strengths_eq, wholeT_eq, strEq_eq, strT_eq, Try.f15, boS, rowP, pl_pf, stR_stT, wholeR_wholeRT, Try.f4, go_sem, ↓reduceIte, Nat.reduceAdd, Nat.reduceSub, Nat.reduceMul, Nat.reduceEqDiff, Nat.reduceLT, Nat.reduceLeDiff, Int.reduceToNat, Int.reduceLE, Int.reduceLT, Int.reduceEq, Int.reduceNeg, reduceCtorEq]
  refine spl_intro (fun e1 => ?_) (fun e1 => ?_)
  · refine spl_intro (fun e2 => trivial) (fun e2 => ?_)
    refine spl_intro (fun e3 => trivial) (fun e3 => ?_)
    have hn : n ≤ 1000000 := by simp only [decide_eq_false_iff_not] at e3; omega
    refine loop_ofH { t : Nat // t ≤ 2 ∧ (0 < t → n0 ≤ 261) ∧ (1 < t → n1 ≤ 261) } (fun t => [(24, .int .i64 (t.1 : Int)), (23, .agg [.row n0 3 fun i j => .int .i64 (a0 i j), .row n1 3 fun i j => .int .i64 (a1 i j)]), (8, .bool false), (6, .ptr 0 0), (3, .int .i64 team), (1, .int .i64 second), (0, .row n 4 fun i j => .int .i64 (l i j))]) (fun h _ => h) (fun t => 2 - t.1) (fun _ => ⟨rfl, rfl⟩) ⟨0, by omega, by omega, by omega⟩ (by (apply sub_of <;> simp only [go_sem, ↓reduceIte, Nat.reduceAdd, Nat.reduceSub, Nat.reduceMul, Nat.reduceEqDiff, Nat.reduceLT, Nat.reduceLeDiff, Int.reduceToNat, Int.reduceLE, Int.reduceLT, Int.reduceEq, Int.reduceNeg, reduceCtorEq] <;> (try simp [catF]) <;> (try exact fun j _ => Bd_nth (by simp [BdL, Bd]) j) <;> (try exact bd_setL (by simp [bdAs, BdL, Bd])) <;> (try exact nestF_bd _ _ _ _ _ _ _ _ _))) ?_
    rintro ⟨t, ht, h0, h1⟩
    obtain rfl | rfl | rfl : t = 0 ∨ t = 1 ∨ t = 2 := by omega
    · simp only [alive_eq, whole_eq, strengths_eq, wholeT_eq, strEq_eq, strT_eq, Try.f15, boS, rowP, pl_pf, stR_stT, wholeR_wholeRT, Try.f4, go_sem, ↓reduceIte, Nat.reduceAdd, Nat.reduceSub, Nat.reduceMul, Nat.reduceEqDiff, Nat.reduceLT, Nat.reduceLeDiff, Int.reduceToNat, Int.reduceLE, Int.reduceLT, Int.reduceEq, Int.reduceNeg, reduceCtorEq]
      refine ⟨fun _ => ⟨by omega, ⟨fun e1 => ⟨fun _ => trivial, fun e2 => ⟨fun _ => trivial, fun e3 => ?_⟩⟩, fun e1 => ⟨fun _ => trivial, fun e3 => ?_⟩⟩⟩, fun h => absurd h (by simp)⟩
      all_goals
        simp only [decide_eq_false_iff_not] at e3
        refine ⟨⟨1, by omega, fun _ => by omega, fun h => by omega⟩, by simp only []; omega, ?_⟩
        apply sub_of <;> simp only [go_sem, ↓reduceIte, Nat.reduceAdd, Nat.reduceSub, Nat.reduceMul, Nat.reduceEqDiff, Nat.reduceLT, Nat.reduceLeDiff, Int.reduceToNat, Int.reduceLE, Int.reduceLT, Int.reduceEq, Int.reduceNeg, reduceCtorEq] <;> (try simp) <;> (try exact fun j _ => Bd_nth (by simp [BdL, Bd]) j) <;> (try exact bd_setL (by simp [bdAs, BdL, Bd])) <;> (try exact nestF_bd _ _ _ _ _ _ _ _ _)
        try rfl
    · simp only [alive_eq, whole_eq, strengths_eq, wholeT_eq, strEq_eq, strT_eq, Try.f15, boS, rowP, pl_pf, stR_stT, wholeR_wholeRT, Try.f4, go_sem, ↓reduceIte, Nat.reduceAdd, Nat.reduceSub, Nat.reduceMul, Nat.reduceEqDiff, Nat.reduceLT, Nat.reduceLeDiff, Int.reduceToNat, Int.reduceLE, Int.reduceLT, Int.reduceEq, Int.reduceNeg, reduceCtorEq]
      refine ⟨fun _ => ⟨by omega, ⟨fun e1 => ⟨fun _ => trivial, fun e2 => ⟨fun _ => trivial, fun e3 => ?_⟩⟩, fun e1 => ⟨fun _ => trivial, fun e3 => ?_⟩⟩⟩, fun h => absurd h (by simp)⟩
      all_goals
        simp only [decide_eq_false_iff_not] at e3
        refine ⟨⟨2, by omega, fun _ => h0 (by omega), fun h => by omega⟩, by simp only []; omega, ?_⟩
        apply sub_of <;> simp only [go_sem, ↓reduceIte, Nat.reduceAdd, Nat.reduceSub, Nat.reduceMul, Nat.reduceEqDiff, Nat.reduceLT, Nat.reduceLeDiff, Int.reduceToNat, Int.reduceLE, Int.reduceLT, Int.reduceEq, Int.reduceNeg, reduceCtorEq] <;> (try simp) <;> (try exact fun j _ => Bd_nth (by simp [BdL, Bd]) j) <;> (try exact bd_setL (by simp [bdAs, BdL, Bd])) <;> (try exact nestF_bd _ _ _ _ _ _ _ _ _)
        try rfl
    · simp only [alive_eq, whole_eq, strengths_eq, wholeT_eq, strEq_eq, strT_eq, Try.f15, boS, rowP, pl_pf, stR_stT, wholeR_wholeRT, Try.f4, go_sem, ↓reduceIte, Nat.reduceAdd, Nat.reduceSub, Nat.reduceMul, Nat.reduceEqDiff, Nat.reduceLT, Nat.reduceLeDiff, Int.reduceToNat, Int.reduceLE, Int.reduceLT, Int.reduceEq, Int.reduceNeg, reduceCtorEq]
      have := h0 (by omega)
      have := h1 (by omega)
      refine ⟨fun h => absurd h (by simp), fun _ => ⟨hn, hn, ⟨by omega, by omega⟩, ⟨by rw [pl_len]; omega, by rw [pl_len]; omega⟩, Nat.le_trans (stT_sm hn) (by omega)⟩⟩
  · refine spl_intro (fun e3 => trivial) (fun e3 => ?_)
    have hn : n ≤ 1000000 := by simp only [decide_eq_false_iff_not] at e3; omega
    refine loop_ofH { t : Nat // t ≤ 2 ∧ (0 < t → n0 ≤ 261) ∧ (1 < t → n1 ≤ 261) } (fun t => [(24, .int .i64 (t.1 : Int)), (23, .agg [.row n0 3 fun i j => .int .i64 (a0 i j), .row n1 3 fun i j => .int .i64 (a1 i j)]), (8, .bool false), (6, .ptr 0 0), (3, .int .i64 team), (1, .int .i64 second), (0, .row n 4 fun i j => .int .i64 (l i j))]) (fun h _ => h) (fun t => 2 - t.1) (fun _ => ⟨rfl, rfl⟩) ⟨0, by omega, by omega, by omega⟩ (by (apply sub_of <;> simp only [go_sem, ↓reduceIte, Nat.reduceAdd, Nat.reduceSub, Nat.reduceMul, Nat.reduceEqDiff, Nat.reduceLT, Nat.reduceLeDiff, Int.reduceToNat, Int.reduceLE, Int.reduceLT, Int.reduceEq, Int.reduceNeg, reduceCtorEq] <;> (try simp [catF]) <;> (try exact fun j _ => Bd_nth (by simp [BdL, Bd]) j) <;> (try exact bd_setL (by simp [bdAs, BdL, Bd])) <;> (try exact nestF_bd _ _ _ _ _ _ _ _ _))) ?_
    rintro ⟨t, ht, h0, h1⟩
    obtain rfl | rfl | rfl : t = 0 ∨ t = 1 ∨ t = 2 := by omega
    · simp only [alive_eq, whole_eq, strengths_eq, wholeT_eq, strEq_eq, strT_eq, Try.f15, boS, rowP, pl_pf, stR_stT, wholeR_wholeRT, Try.f4, go_sem, ↓reduceIte, Nat.reduceAdd, Nat.reduceSub, Nat.reduceMul, Nat.reduceEqDiff, Nat.reduceLT, Nat.reduceLeDiff, Int.reduceToNat, Int.reduceLE, Int.reduceLT, Int.reduceEq, Int.reduceNeg, reduceCtorEq]
      refine ⟨fun _ => ⟨by omega, ⟨fun e1 => ⟨fun _ => trivial, fun e2 => ⟨fun _ => trivial, fun e3 => ?_⟩⟩, fun e1 => ⟨fun _ => trivial, fun e3 => ?_⟩⟩⟩, fun h => absurd h (by simp)⟩
      all_goals
        simp only [decide_eq_false_iff_not] at e3
        refine ⟨⟨1, by omega, fun _ => by omega, fun h => by omega⟩, by simp only []; omega, ?_⟩
        apply sub_of <;> simp only [go_sem, ↓reduceIte, Nat.reduceAdd, Nat.reduceSub, Nat.reduceMul, Nat.reduceEqDiff, Nat.reduceLT, Nat.reduceLeDiff, Int.reduceToNat, Int.reduceLE, Int.reduceLT, Int.reduceEq, Int.reduceNeg, reduceCtorEq] <;> (try simp) <;> (try exact fun j _ => Bd_nth (by simp [BdL, Bd]) j) <;> (try exact bd_setL (by simp [bdAs, BdL, Bd])) <;> (try exact nestF_bd _ _ _ _ _ _ _ _ _)
        try rfl
    · simp only [alive_eq, whole_eq, strengths_eq, wholeT_eq, strEq_eq, strT_eq, Try.f15, boS, rowP, pl_pf, stR_stT, wholeR_wholeRT, Try.f4, go_sem, ↓reduceIte, Nat.reduceAdd, Nat.reduceSub, Nat.reduceMul, Nat.reduceEqDiff, Nat.reduceLT, Nat.reduceLeDiff, Int.reduceToNat, Int.reduceLE, Int.reduceLT, Int.reduceEq, Int.reduceNeg, reduceCtorEq]
      refine ⟨fun _ => ⟨by omega, ⟨fun e1 => ⟨fun _ => trivial, fun e2 => ⟨fun _ => trivial, fun e3 => ?_⟩⟩, fun e1 => ⟨fun _ => trivial, fun e3 => ?_⟩⟩⟩, fun h => absurd h (by simp)⟩
      all_goals
        simp only [decide_eq_false_iff_not] at e3
        refine ⟨⟨2, by omega, fun _ => h0 (by omega), fun h => by omega⟩, by simp only []; omega, ?_⟩
        apply sub_of <;> simp only [go_sem, ↓reduceIte, Nat.reduceAdd, Nat.reduceSub, Nat.reduceMul, Nat.reduceEqDiff, Nat.reduceLT, Nat.reduceLeDiff, Int.reduceToNat, Int.reduceLE, Int.reduceLT, Int.reduceEq, Int.reduceNeg, reduceCtorEq] <;> (try simp) <;> (try exact fun j _ => Bd_nth (by simp [BdL, Bd]) j) <;> (try exact bd_setL (by simp [bdAs, BdL, Bd])) <;> (try exact nestF_bd _ _ _ _ _ _ _ _ _)
        try rfl
    · simp only [alive_eq, whole_eq, strengths_eq, wholeT_eq, strEq_eq, strT_eq, Try.f15, boS, rowP, pl_pf, stR_stT, wholeR_wholeRT, Try.f4, go_sem, ↓reduceIte, Nat.reduceAdd, Nat.reduceSub, Nat.reduceMul, Nat.reduceEqDiff, Nat.reduceLT, Nat.reduceLeDiff, Int.reduceToNat, Int.reduceLE, Int.reduceLT, Int.reduceEq, Int.reduceNeg, reduceCtorEq]
      have := h0 (by omega)
      have := h1 (by omega)
      refine ⟨fun h => absurd h (by simp), fun _ => ⟨hn, hn, ⟨by omega, by omega⟩, ⟨by rw [pl_len]; omega, by rw [pl_len]; omega⟩, Nat.le_trans (stT_sm hn) (by omega)⟩⟩
end Go.Eng
end

/-
  ClockShows: for every input the law returns true, and each argument reads afterwards as it read before. No condition.
-/
section
namespace Go.Proofs.Ytjkbmnhpbncdcaa.clockShows
open Go.ChangeShapes Go.WideShapes Go.ChangeAt Go.RowKit Go.Eng
set_option linter.unusedVariables false
theorem own : ownKnob Try.prog.godebug = none := by kernel_rfl
theorem laid : laidOutB Try.prog = true := by kernel_rfl
set_option maxRecDepth 100000 in
theorem lifted (os : Os) (started : os.Started) (H : Type) (enc : TypeId × Value → H) :
    ReturnsInHanded {} Try.checked os 4 .any (Rows.clockShowsSpec.pre6 enc Try.prog Try.f4 Rows.clockShowsRow.domain false) (Rows.clockShowsSpec.post enc Try.prog Try.f4 false true false false) := by
  refine returnsInHanded_of_change (C := Try.checked) own started (by kernel_rfl) Try.func4
    (ChangeSpec.witness6 (enc := enc) (C := Try.checked) false ⟨#[], #[.slice none 0 0, .int .i64 0, .agg #[.int .i64 0, .int .i64 0, .bool false, .int .i64 0, .int .i64 0, .slice none 0 0, .slice none 0 0, .slice none 0 0, .slice none 0 0], .int .i64 0], []⟩ 8 (by kernel_rfl) (by kernel_rfl) (by kernel_rfl) (by kernel_rfl)) ?_
  intro W base args ds gs before hval0 hW hcnd _
  have hval : ∀ (j : Nat) t v, Try.f4.params[j]? = some t → args[j]? = some v → Value.okWide Try.prog W .any base t v := hval0
  have hW' := hW
  obtain ⟨p, q, hA0, hV, rfl, hfz, hnd⟩ := hW
  have hA : DataW.TrodAll enc Try.prog W 0 (fun _ => true) true Try.f4.params.toList args.toList ds p := hA0
  rw [Try.params4] at hA hval
  obtain ⟨v0, vs0, d0, ds0, p0, q0, hargs, rfl, rfl, h0, r0⟩ := trodAll_cons hA
  obtain ⟨v1, vs1, d1, ds1, p1, q1, rfl, rfl, rfl, h1, r1⟩ := trodAll_cons r0
  obtain ⟨v2, vs2, d2, ds2, p2, q2, rfl, rfl, rfl, h2, r2⟩ := trodAll_cons r1
  obtain ⟨v3, vs3, d3, ds3, p3, q3, rfl, rfl, rfl, h3, r3⟩ := trodAll_cons r2
  obtain ⟨rfl, rfl, rfl⟩ := trodAll_nil r3
  obtain rfl : args = #[v0, v1, v2, v3] := by cases args; simp_all
  obtain ⟨rfl, rfl⟩ := trodVars_none hV
  obtain ⟨n0, f0, e0, m0, t0⟩ := arg_row (s := [.int .i64, .int .i64, .int .i64, .int .i64]) Try.underlying22 (by kernel_rfl) (hval 0 22 v0 rfl rfl) h0
  obtain ⟨i0, b0⟩ := intK_of_typ (k := .i64) (c := 4) rfl t0
  obtain ⟨x1, rfl, rfl, rfl, w1⟩ := open_int Try.underlying3 (hval 1 3 v1 rfl rfl) h1
  obtain ⟨xs2, e2, l2, t2⟩ := arg_agg (shs := [.int .i64, .int .i64, .bool, .int .i64, .int .i64, .sl [.int .i64, .int .i64, .int .i64], .sl [.int .i64, .int .i64, .int .i64], .sl [.int .i64, .int .i64, .int .i64], .sl [.int .i64, .int .i64, .int .i64]]) Try.underlying28 (by kernel_rfl) (hval 2 28 v2 rfl rfl) h2
  obtain ⟨a2_0, a2_1, a2_2, a2_3, a2_4, a2_5, a2_6, a2_7, a2_8, rfl⟩ : ∃ a2_0 a2_1 a2_2 a2_3 a2_4 a2_5 a2_6 a2_7 a2_8, xs2 = [a2_0, a2_1, a2_2, a2_3, a2_4, a2_5, a2_6, a2_7, a2_8] := by
    match xs2, l2 with
    | [a2_0, a2_1, a2_2, a2_3, a2_4, a2_5, a2_6, a2_7, a2_8], _ => exact ⟨a2_0, a2_1, a2_2, a2_3, a2_4, a2_5, a2_6, a2_7, a2_8, rfl⟩
  obtain ⟨x2_0, rfl, w2_0⟩ := typ_int (t2 0 _ _ rfl rfl)
  obtain ⟨x2_1, rfl, w2_1⟩ := typ_int (t2 1 _ _ rfl rfl)
  obtain ⟨x2_2, rfl⟩ := typ_bool (t2 2 _ _ rfl rfl)
  obtain ⟨x2_3, rfl, w2_3⟩ := typ_int (t2 3 _ _ rfl rfl)
  obtain ⟨x2_4, rfl, w2_4⟩ := typ_int (t2 4 _ _ rfl rfl)
  obtain ⟨n2_5, f2_5, rfl, m2_5, s2_5⟩ := typ_sl (t2 5 _ _ rfl rfl)
  obtain ⟨i2_5, b2_5⟩ := intK_of_typ (k := .i64) (c := 3) rfl s2_5
  obtain ⟨n2_6, f2_6, rfl, m2_6, s2_6⟩ := typ_sl (t2 6 _ _ rfl rfl)
  obtain ⟨i2_6, b2_6⟩ := intK_of_typ (k := .i64) (c := 3) rfl s2_6
  obtain ⟨n2_7, f2_7, rfl, m2_7, s2_7⟩ := typ_sl (t2 7 _ _ rfl rfl)
  obtain ⟨i2_7, b2_7⟩ := intK_of_typ (k := .i64) (c := 3) rfl s2_7
  obtain ⟨n2_8, f2_8, rfl, m2_8, s2_8⟩ := typ_sl (t2 8 _ _ rfl rfl)
  obtain ⟨i2_8, b2_8⟩ := intK_of_typ (k := .i64) (c := 3) rfl s2_8
  obtain ⟨x3, rfl, rfl, rfl, w3⟩ := open_int Try.underlying3 (hval 3 3 v3 rfl rfl) h3
  have hd : DenL Env.emp W [.row n0 4 f0, .int .i64 x1, .agg [.int .i64 x2_0, .int .i64 x2_1, .bool x2_2, .int .i64 x2_3, .int .i64 x2_4, .row n2_5 3 f2_5, .row n2_6 3 f2_6, .row n2_7 3 f2_7, .row n2_8 3 f2_8], .int .i64 x3] [v0, .int .i64 x1, v2, .int .i64 x3] := ⟨e0, .int _ _, e2, .int _ _, trivial⟩
  refine (law_calls clockShows_base (args := [.row n0 4 f0, .int .i64 x1, .agg [.int .i64 x2_0, .int .i64 x2_1, .bool x2_2, .int .i64 x2_3, .int .i64 x2_4, .row n2_5 3 f2_5, .row n2_6 3 f2_6, .row n2_7 3 f2_7, .row n2_8 3 f2_8], .int .i64 x3]) rfl ⟨⟨rfl, fun i j hi hj => i0 i j hi hj⟩, ⟨rfl, fun i j hi hj => i2_5 i j hi hj⟩, ⟨rfl, fun i j hi hj => i2_6 i j hi hj⟩, ⟨rfl, fun i j hi hj => i2_7 i j hi hj⟩, ⟨rfl, fun i j hi hj => i2_8 i j hi hj⟩⟩ (denA_of hd)).mono fun e W' ⟨he, hb⟩ => ?_
  subst he
  exact ⟨_, rfl, law_end laid rfl Try.underlying4 (by kernel_rfl) rfl hW' rfl hb⟩
theorem over : Rows.clockShowsRow.holds Try.pinned (OpenSpec.ofChange Rows.clockShowsSpec) :=
  OpenClaim.holds_of_wide 4 Try.f4 rfl rfl rfl rfl rfl rfl rfl ⟨rfl, rfl, rfl, rfl, rfl⟩ rfl rfl rfl rfl rfl (by kernel_rfl) Try.func4 (by kernel_rfl)
    (of_decide_eq_true (by kernel_rfl)) (by unfold Func.isWrapper; first | (rw [if_pos (by decide +kernel)]; kernel_rfl) | (rw [if_neg (by decide +kernel)]; exact ⟨rfl, rfl⟩))
    (fun os started H enc _ => lifted os started H enc)
end Go.Proofs.Ytjkbmnhpbncdcaa.clockShows
namespace Go.Proofs.Ytjkbmnhpbncdcaa
/-- The given statement. -/
theorem clockShows_holds : Rows.ClockShowsSaid := clockShows.over
#print axioms clockShows_holds
end Go.Proofs.Ytjkbmnhpbncdcaa
end
