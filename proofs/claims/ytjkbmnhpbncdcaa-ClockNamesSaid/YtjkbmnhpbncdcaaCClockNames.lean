/-
  ClockNames: for every input the law returns true, and each argument reads afterwards as it read before. No condition.
-/
import Derived.Test.YtjkbmnhpbncdcaaRows
import Derived.WalkKit
import Derived.Test.YtjkbmnhpbncdcaaK4
set_option linter.unusedSimpArgs false
set_option linter.unusedVariables false
/- clock: ClockPlays. -/
section
namespace Go.Eng
open Go Go.RowKit Go.Proofs
set_option maxRecDepth 100000
set_option maxHeartbeats 4000000
attribute [local irreducible] OwnT DefS
/-- No list is long. -/
def Bo.Sm (b : Bo) : Prop := b.p0.length ≤ 600 ∧ b.p1.length ≤ 600 ∧ b.m0.length ≤ 600 ∧ b.m1.length ≤ 600
theorem z_sm : Bo.z.Sm := ⟨by decide, by decide, by decide, by decide⟩
theorem cnt_sm {b : Bo} {n : Nat} (h : b.Cnt n) (hn : n ≤ 300) : b.Sm := ⟨by have := h.p0; omega, by have := h.p1; omega, by have := h.m0; omega, by have := h.m1; omega⟩
theorem plR_sm (n : Nat) (l : Nat → Nat → Int) : (plR n l).1.Sm := by
  unfold plR
  split
  · exact z_sm
  · split
    · exact z_sm
    · exact cnt_sm (playP_ok (ev := evN l) (to := 1048576) (by omega) n 0 G0 G0_ok G0_cnt (by omega)).2 (by omega)
theorem plT_sm (n : Nat) (l : Nat → Nat → Int) : (plT n l).1.Sm := by rw [← plR_plT]; exact plR_sm n l
theorem atR_sm (n : Nat) (l : Nat → Nat → Int) (to : Int) : (atR n l to).1.Sm := by
  unfold atR
  rw [plR_plT]
  split
  · exact z_sm
  · rename_i h
    split
    · exact z_sm
    · rename_i h2
      have hto := in3_iff.1 (show in3 to 0 1048576 = true by simpa using h2)
      have hn := (plT_len (by simpa using h)).1
      exact cnt_sm (passP_cnt _ _ (playP_ok (ev := evN l) (to := to) hto n 0 G0 G0_ok G0_cnt (by omega)).2) (by omega)
theorem agT_sm (n : Nat) (l : Nat → Nat → Int) (to : Int) : (agT n l to).1.b.Sm := by
  have := atR_sm n l to
  rw [atR_agT] at this
  exact this
theorem wiT_sm (n : Nat) (l : Nat → Nat → Int) (q : Int) : (wiT n l q).1.Sm := by
  unfold wiT
  repeat' split
  all_goals first | exact z_sm | exact plT_sm _ _
def clockPlaysBase : BaseF := fun args => match args with
  | [.row n sz_l f_l, .int .i64 second, .int .i64 index] => some ((sz_l = 4 ∧ IntR n 4 f_l), .bool true)
  | _ => none
theorem clockPlays_eq (n : Nat) (sz_l : Nat) (f_l : Nat → Nat → SV) (second : Int) (index : Int) : clockPlaysBase [.row n sz_l f_l, .int .i64 second, .int .i64 index] = some ((sz_l = 4 ∧ IntR n 4 f_l), .bool true) := rfl
theorem clockPlays_base : Base Try.prog 7 clockPlaysBase := by
  intro args p v hq hp
  unfold clockPlaysBase at hq
  split at hq
  rotate_left
  · cases hq
  rename_i n sz_l f_l second index
  cases hq
  obtain ⟨rfl, i_l⟩ := hp
  refine base_of (C := cxn [] [(23, playTBase), (24, atTBase), (25, withoutBase), (26, withTBase)] [] [(11, aliveBase), (12, playBase), (14, atBase), (20, sameBase)] [] none) (cxn_ok ⟨playT_base, atT_base, without_base, withT_base, trivial⟩ trivial ⟨alive_base, play_base, at_base, same_base, trivial⟩) rfl (g := 7) (fn := Try.f7)
    (args' := [.row n 4 (rowF .i64 (ivf f_l)), .int .i64 second, .int .i64 index]) (fn_7) rfl 1000 (by
    simp only [BdL, Bd, and_self, and_true, true_and]
    exact (fun i j hi hj => by rw [i_l i j hi hj]; trivial)) ⟨SameD.int i_l, SameD.rfl' _, SameD.rfl' _, trivial⟩ ?_
  generalize ivf f_l = l
  simp only [rowF_eq]
  simp only [alive_eq, play_eq, at_eq, same_eq, playT_eq, atT_eq, without_eq, withT_eq, Try.f15, boS, rowP, pl_pf, plR_plT, atR_agT, wiR_wiT, Try.f7, go_sem, ↓reduceIte, Nat.reduceAdd, Nat.reduceSub, Nat.reduceMul, Nat.reduceEqDiff, Nat.reduceLT, Nat.reduceLeDiff, Int.reduceToNat, Int.reduceLE, Int.reduceLT, Int.reduceEq, Int.reduceNeg, reduceCtorEq]
  have h1 := plT_sm n l
  have h2 := agT_sm n l second
  have h3 := wiT_sm n l index
  unfold Bo.Sm at h1 h2 h3
  repeat' first | refine spl_intro (fun _ => ?_) (fun _ => ?_) | apply And.intro
  all_goals first | trivial | omega | skip
  all_goals (simp only [decide_eq_true_eq, decide_eq_false_iff_not] at *; omega)
end Go.Eng
end

/- clock: ClockNames. -/
section
namespace Go.Eng
open Go Go.RowKit Go.Proofs
set_option maxRecDepth 100000
set_option maxHeartbeats 4000000
attribute [local irreducible] OwnT DefS
theorem smp_int : (IntR 9 4 fun i j => nth [.int .i64 0, .int .i64 100, .int .i64 0, .int .i64 0, .int .i64 1, .int .i64 130, .int .i64 0, .int .i64 0, .int .i64 3, .int .i64 140, .int .i64 0, .int .i64 7, .int .i64 3, .int .i64 140, .int .i64 0, .int .i64 9, .int .i64 3, .int .i64 140, .int .i64 0, .int .i64 8, .int .i64 0, .int .i64 150, .int .i64 0, .int .i64 0, .int .i64 2, .int .i64 200, .int .i64 1, .int .i64 0, .int .i64 0, .int .i64 210, .int .i64 0, .int .i64 0, .int .i64 1, .int .i64 260, .int .i64 0, .int .i64 0] (i * 4 + j)) = True := eq_true (intR_chk (by decide +kernel))
theorem na_at1 : atR 9 (ivf fun i j => nth [.int .i64 0, .int .i64 100, .int .i64 0, .int .i64 0, .int .i64 1, .int .i64 130, .int .i64 0, .int .i64 0, .int .i64 3, .int .i64 140, .int .i64 0, .int .i64 7, .int .i64 3, .int .i64 140, .int .i64 0, .int .i64 9, .int .i64 3, .int .i64 140, .int .i64 0, .int .i64 8, .int .i64 0, .int .i64 150, .int .i64 0, .int .i64 0, .int .i64 2, .int .i64 200, .int .i64 1, .int .i64 0, .int .i64 0, .int .i64 210, .int .i64 0, .int .i64 0, .int .i64 1, .int .i64 260, .int .i64 0, .int .i64 0] (i * 4 + j)) 205 = (⟨0, 80, false, 0, 1, [⟨9, 3, 70⟩, ⟨8, 3, 120⟩], [], [], []⟩, 0) := by decide +kernel
theorem na_at2 : atR 9 (ivf fun i j => nth [.int .i64 0, .int .i64 100, .int .i64 0, .int .i64 0, .int .i64 1, .int .i64 130, .int .i64 0, .int .i64 0, .int .i64 3, .int .i64 140, .int .i64 0, .int .i64 7, .int .i64 3, .int .i64 140, .int .i64 0, .int .i64 9, .int .i64 3, .int .i64 140, .int .i64 0, .int .i64 8, .int .i64 0, .int .i64 150, .int .i64 0, .int .i64 0, .int .i64 2, .int .i64 200, .int .i64 1, .int .i64 0, .int .i64 0, .int .i64 210, .int .i64 0, .int .i64 0, .int .i64 1, .int .i64 260, .int .i64 0, .int .i64 0] (i * 4 + j)) 145 = (⟨0, 30, false, 0, 0, [⟨7, 3, 120⟩, ⟨9, 3, 120⟩, ⟨8, 3, 120⟩], [], [], []⟩, 0) := by decide +kernel
theorem na_at3 : atR 9 (ivf fun i j => nth [.int .i64 0, .int .i64 100, .int .i64 0, .int .i64 0, .int .i64 1, .int .i64 130, .int .i64 0, .int .i64 0, .int .i64 3, .int .i64 140, .int .i64 0, .int .i64 7, .int .i64 3, .int .i64 140, .int .i64 0, .int .i64 9, .int .i64 3, .int .i64 140, .int .i64 0, .int .i64 8, .int .i64 0, .int .i64 150, .int .i64 0, .int .i64 0, .int .i64 2, .int .i64 200, .int .i64 1, .int .i64 0, .int .i64 0, .int .i64 210, .int .i64 0, .int .i64 0, .int .i64 1, .int .i64 260, .int .i64 0, .int .i64 0] (i * 4 + j)) 170 = (⟨0, 50, true, 0, 0, [⟨7, 3, 100⟩, ⟨9, 3, 100⟩, ⟨8, 3, 120⟩], [], [], []⟩, 0) := by decide +kernel
theorem na_st1 : stR 9 (ivf fun i j => nth [.int .i64 0, .int .i64 100, .int .i64 0, .int .i64 0, .int .i64 1, .int .i64 130, .int .i64 0, .int .i64 0, .int .i64 3, .int .i64 140, .int .i64 0, .int .i64 7, .int .i64 3, .int .i64 140, .int .i64 0, .int .i64 9, .int .i64 3, .int .i64 140, .int .i64 0, .int .i64 8, .int .i64 0, .int .i64 150, .int .i64 0, .int .i64 0, .int .i64 2, .int .i64 200, .int .i64 1, .int .i64 0, .int .i64 0, .int .i64 210, .int .i64 0, .int .i64 0, .int .i64 1, .int .i64 260, .int .i64 0, .int .i64 0] (i * 4 + j)) 260 = ([⟨0, 5, 5⟩, ⟨30, 3, 5⟩], 0) := by decide +kernel
theorem na_st2 : stR 9 (ivf fun i j => nth [.int .i64 0, .int .i64 100, .int .i64 0, .int .i64 0, .int .i64 1, .int .i64 130, .int .i64 0, .int .i64 0, .int .i64 3, .int .i64 140, .int .i64 0, .int .i64 7, .int .i64 3, .int .i64 140, .int .i64 0, .int .i64 9, .int .i64 3, .int .i64 140, .int .i64 0, .int .i64 8, .int .i64 0, .int .i64 150, .int .i64 0, .int .i64 0, .int .i64 2, .int .i64 200, .int .i64 1, .int .i64 0, .int .i64 0, .int .i64 210, .int .i64 0, .int .i64 0, .int .i64 1, .int .i64 260, .int .i64 0, .int .i64 0] (i * 4 + j)) 90 = ([], 0) := by decide +kernel
def smpL : List Int := [0, 100, 0, 0, 1, 130, 0, 0, 3, 140, 0, 7, 3, 140, 0, 9, 3, 140, 0, 8, 0, 150, 0, 0, 2, 200, 1, 0, 0, 210, 0, 0, 1, 260, 0, 0]
def smpF (i j : Nat) : Int := smpL.getD (i * 4 + j) 0
theorem na_wi : wiR 9 smpF 6 = (⟨0, 130, false, 0, 0, [⟨7, 3, 20⟩, ⟨9, 3, 20⟩, ⟨8, 3, 120⟩], [], [], []⟩, 0) := by decide +kernel
theorem smpF_eq : ∀ i j, i < 9 → j < 4 → cellAt [.int .i64 0, .int .i64 100, .int .i64 0, .int .i64 0, .int .i64 1, .int .i64 130, .int .i64 0, .int .i64 0, .int .i64 3, .int .i64 140, .int .i64 0, .int .i64 7, .int .i64 3, .int .i64 140, .int .i64 0, .int .i64 9, .int .i64 3, .int .i64 140, .int .i64 0, .int .i64 8, .int .i64 0, .int .i64 150, .int .i64 0, .int .i64 0, .int .i64 2, .int .i64 200, .int .i64 1, .int .i64 0, .int .i64 0, .int .i64 210, .int .i64 0, .int .i64 0, .int .i64 1, .int .i64 260, .int .i64 0, .int .i64 0] 4 i j = .int .i64 (smpF i j) := by
  have h : ∀ i, i < 9 → ∀ j, j < 4 → (match cellAt [.int .i64 0, .int .i64 100, .int .i64 0, .int .i64 0, .int .i64 1, .int .i64 130, .int .i64 0, .int .i64 0, .int .i64 3, .int .i64 140, .int .i64 0, .int .i64 7, .int .i64 3, .int .i64 140, .int .i64 0, .int .i64 9, .int .i64 3, .int .i64 140, .int .i64 0, .int .i64 8, .int .i64 0, .int .i64 150, .int .i64 0, .int .i64 0, .int .i64 2, .int .i64 200, .int .i64 1, .int .i64 0, .int .i64 0, .int .i64 210, .int .i64 0, .int .i64 0, .int .i64 1, .int .i64 260, .int .i64 0, .int .i64 0] 4 i j with | .int .i64 x => decide (x = smpF i j) | _ => false) = true := by decide +kernel
  intro i j hi hj
  have := h i hi j hj
  revert this
  generalize cellAt [.int .i64 0, .int .i64 100, .int .i64 0, .int .i64 0, .int .i64 1, .int .i64 130, .int .i64 0, .int .i64 0, .int .i64 3, .int .i64 140, .int .i64 0, .int .i64 7, .int .i64 3, .int .i64 140, .int .i64 0, .int .i64 9, .int .i64 3, .int .i64 140, .int .i64 0, .int .i64 8, .int .i64 0, .int .i64 150, .int .i64 0, .int .i64 0, .int .i64 2, .int .i64 200, .int .i64 1, .int .i64 0, .int .i64 0, .int .i64 210, .int .i64 0, .int .i64 0, .int .i64 1, .int .i64 260, .int .i64 0, .int .i64 0] 4 i j = x
  intro this
  split at this
  · rw [of_decide_eq_true this]
  · cases this
def smp10 (i j : Nat) : SV := catF 9 (cellAt [.int .i64 0, .int .i64 100, .int .i64 0, .int .i64 0, .int .i64 1, .int .i64 130, .int .i64 0, .int .i64 0, .int .i64 3, .int .i64 140, .int .i64 0, .int .i64 7, .int .i64 3, .int .i64 140, .int .i64 0, .int .i64 9, .int .i64 3, .int .i64 140, .int .i64 0, .int .i64 8, .int .i64 0, .int .i64 150, .int .i64 0, .int .i64 0, .int .i64 2, .int .i64 200, .int .i64 1, .int .i64 0, .int .i64 0, .int .i64 210, .int .i64 0, .int .i64 0, .int .i64 1, .int .i64 260, .int .i64 0, .int .i64 0] 4) (oneF [.int .i64 2, .int .i64 270, .int .i64 0, .int .i64 0]) i j
theorem smp10_frz (k : Nat) (h : HS) (i j : Nat) : frzF (k + 1) h (catF 9 (cellAt [.int .i64 0, .int .i64 100, .int .i64 0, .int .i64 0, .int .i64 1, .int .i64 130, .int .i64 0, .int .i64 0, .int .i64 3, .int .i64 140, .int .i64 0, .int .i64 7, .int .i64 3, .int .i64 140, .int .i64 0, .int .i64 9, .int .i64 3, .int .i64 140, .int .i64 0, .int .i64 8, .int .i64 0, .int .i64 150, .int .i64 0, .int .i64 0, .int .i64 2, .int .i64 200, .int .i64 1, .int .i64 0, .int .i64 0, .int .i64 210, .int .i64 0, .int .i64 0, .int .i64 1, .int .i64 260, .int .i64 0, .int .i64 0] 4) (oneF [.int .i64 2, .int .i64 270, .int .i64 0, .int .i64 0]) i j) = smp10 i j := by
  unfold smp10 catF
  split
  · unfold cellAt; rw [frzF_nth]; rfl
  · unfold oneF; rw [frzF_nth]; rfl
theorem smp10_int : (IntR 10 4 fun i j => smp10 i j) = True := eq_true (intR_chk (by decide +kernel))
theorem smp10_pl : plR 10 (ivf fun i j => smp10 i j) = (Bo.z, 9, 6) := by decide +kernel
theorem without_at {n : Nat} (hn : n ≤ 1000000) (l : Nat → Nat → Int) (q : Int) (h : HS) : CallsS Try.prog 25 [.row n 4 (fun i j => .int .i64 (l i j)), .int .i64 q] h (fun o h' => o = .ret (.tup [boS (wiR n l q).1, .int .i64 (wiR n l q).2]) ∧ h' = h) := by
  refine calls_mono ?_ (bareS_ok without_base [.row n 4 (fun i j => .int .i64 (l i j)), .int .i64 q] h ((4 = 4 ∧ IntR n 4 (fun i j => .int .i64 (l i j))) ∧ n ≤ 1000000) (.tup [boS (wiR n l q).1, .int .i64 (wiR n l q).2]) h rfl ⟨⟨rfl, fun _ _ _ _ => rfl⟩, hn⟩)
  rintro o h' ⟨h1, h2⟩
  exact ⟨h1, h2⟩
theorem without_own {n : Nat} (hn : n ≤ 1000000) (l : Nat → Nat → Int) (q : Int) (h : HS) (k v ty : Nat) {F : Nat → Nat → SV} (hk : getV h.vecs k = .live v ty 4 n F) (hF : ∀ i j, i < n → j < 4 → F i j = .int .i64 (l i j)) :
    CallsS Try.prog 25 [.vec k v, .int .i64 q] h (fun o h' => o = .ret (.tup [boS (wiR n l q).1, .int .i64 (wiR n l q).2]) ∧ h' = { h with vecs := setV h.vecs k .dead }) := by
  refine calls_give (l1 := []) (l2 := [.int .i64 q]) hk ?_
  refine calls_congr (args' := [.row n 4 (fun i j => .int .i64 (l i j)), .int .i64 q]) ⟨SameD.rowD fun i j hi hj => by rw [hF i j hi hj]; exact SameD.rfl' _, SameD.rfl' _, trivial⟩ ?_
  exact without_at hn l q _
def minorBase : BaseF := fun args => match args with
  | [.int .i64 p, .int .i64 s] => some (True, .agg [.int .i64 p, .int .i64 3, .int .i64 s])
  | _ => none
theorem minor_eq (p : Int) (s : Int) : minorBase [.int .i64 p, .int .i64 s] = some (True, .agg [.int .i64 p, .int .i64 3, .int .i64 s]) := rfl
theorem minor_base : Base Try.prog 29 minorBase := by
  intro args p v hq hp
  unfold minorBase at hq
  split at hq
  rotate_left
  · cases hq
  rename_i p s
  cases hq
  refine base_of (C := cx [] [] [] [] none) (cx_ok trivial trivial) rfl (g := 29) (fn := Try.f29)
    (args' := [.int .i64 p, .int .i64 s]) (fn_29) rfl 1000 (by simp only [BdL, Bd, and_self, and_true, true_and]) ⟨SameD.rfl' _, SameD.rfl' _, trivial⟩ ?_
  simp only [Try.f29, go_sem, ↓reduceIte, Nat.reduceAdd, Nat.reduceSub, Nat.reduceMul, Nat.reduceEqDiff, Nat.reduceLT, Nat.reduceLeDiff, Int.reduceToNat, Int.reduceLE, Int.reduceLT, Int.reduceEq, Int.reduceNeg, reduceCtorEq]
def clockNamesBase : BaseF := fun args => match args with
  | [] => some (True, .bool true)
  | _ => none
theorem clockNames_eq  : clockNamesBase [] = some (True, .bool true) := rfl
theorem clockNames_base : Base Try.prog 10 clockNamesBase := by
  intro args p v hq hp
  unfold clockNamesBase at hq
  split at hq
  rotate_left
  · cases hq
  cases hq
  refine base_of (C := cx [25] [] [(11, aliveBase), (12, playBase), (13, wholeBase), (14, atBase), (16, strengthsBase), (19, strEqBase), (20, sameBase), (29, minorBase)] [(10, 5, p10_5), (10, 13, p10_13)] none) (cx_ok trivial ⟨alive_base, play_base, whole_base, at_base, strengths_base, strEq_base, same_base, minor_base, trivial⟩) rfl (g := 10) (fn := Try.f10)
    (args' := []) (fn_10) rfl 1000 (by simp only [BdL, Bd, and_self, and_true, true_and]) trivial ?_
  simp only [alive_eq, play_eq, whole_eq, at_eq, strengths_eq, strEq_eq, same_eq, minor_eq, p10_5, p10_13, Try.f28, boS, rowP, frzF_nth, cellAt, smp_pl, smp_int, na_at1, na_at2, na_at3, na_st1, na_st2, na_wi, smp10_frz, smp10_int, smp10_pl, Try.f10, go_sem, ↓reduceIte, Nat.reduceAdd, Nat.reduceSub, Nat.reduceMul, Nat.reduceEqDiff, Nat.reduceLT, Nat.reduceLeDiff, Int.reduceToNat, Int.reduceLE, Int.reduceLT, Int.reduceEq, Int.reduceNeg, reduceCtorEq]
  refine ⟨⟨by decide +kernel, by decide +kernel⟩, ⟨intR_chk (by decide +kernel), intR_0, intR_0, intR_0, by decide +kernel, by decide +kernel⟩, spl_yes (by decide +kernel) ⟨⟨intR_chk (by decide +kernel), intR_0, intR_0, intR_0, by decide +kernel, by decide +kernel⟩, spl_yes (by decide +kernel) ⟨⟨intR_chk (by decide +kernel), intR_0, intR_0, intR_0, by decide +kernel, by decide +kernel⟩, ?_⟩⟩⟩
  unfold callS
  refine calls_mono ?_ (without_own (n := 9) (by omega) smpF 6 _ 1 0 35 rfl smpF_eq)
  · rintro o h' ⟨rfl, rfl⟩
    simp only [boS, rowP, frzF_nth, smp_int, na_wi, smp10_frz, smp10_int, smp10_pl, p10_13, alive_eq, play_eq, whole_eq, at_eq, strengths_eq, strEq_eq, same_eq, minor_eq, p10_5, p10_13, Try.f28, boS, rowP, frzF_nth, cellAt, smp_pl, smp_int, na_at1, na_at2, na_at3, na_st1, na_st2, na_wi, smp10_frz, smp10_int, smp10_pl, Try.f10, go_sem, ↓reduceIte, Nat.reduceAdd, Nat.reduceSub, Nat.reduceMul, Nat.reduceEqDiff, Nat.reduceLT, Nat.reduceLeDiff, Int.reduceToNat, Int.reduceLE, Int.reduceLT, Int.reduceEq, Int.reduceNeg, reduceCtorEq]
    exact ⟨⟨by decide, by decide⟩, ⟨intR_chk (by decide +kernel), by decide +kernel⟩, spl_yes (by decide +kernel) ⟨⟨by decide +kernel, by decide +kernel⟩, ⟨intR_chk (by decide +kernel), intR_0, intR_0, intR_0, by decide +kernel, by decide +kernel⟩, spl_yes (by decide +kernel) (spl_yes (by decide +kernel) (spl_yes (by decide +kernel) (spl_yes (by decide +kernel) trivial)))⟩⟩
end Go.Eng
end

/-
  ClockNames: for every input the law returns true, and each argument reads afterwards as it read before. No condition.
-/
section
namespace Go.Proofs.Ytjkbmnhpbncdcaa.clockNames
open Go.ChangeShapes Go.WideShapes Go.ChangeAt Go.RowKit Go.Eng
set_option linter.unusedVariables false
theorem own : ownKnob Try.prog.godebug = none := by kernel_rfl
theorem laid : laidOutB Try.prog = true := by kernel_rfl
set_option maxRecDepth 100000 in
theorem lifted (os : Os) (started : os.Started) (H : Type) (enc : TypeId × Value → H) :
    ReturnsInHanded {} Try.checked os 10 .any (Rows.clockNamesSpec.pre6 enc Try.prog Try.f10 Rows.clockNamesRow.domain false) (Rows.clockNamesSpec.post enc Try.prog Try.f10 false true false false) := by
  refine returnsInHanded_of_change (C := Try.checked) own started (by kernel_rfl) Try.func10
    (ChangeSpec.witness6 (enc := enc) (C := Try.checked) false ⟨#[], #[], []⟩ 8 (by kernel_rfl) (by kernel_rfl) (by kernel_rfl) (by kernel_rfl)) ?_
  intro W base args ds gs before hval0 hW hcnd _
  have hval : ∀ (j : Nat) t v, Try.f10.params[j]? = some t → args[j]? = some v → Value.okWide Try.prog W .any base t v := hval0
  have hW' := hW
  obtain ⟨p, q, hA0, hV, rfl, hfz, hnd⟩ := hW
  have hA : DataW.TrodAll enc Try.prog W 0 (fun _ => true) true Try.f10.params.toList args.toList ds p := hA0
  rw [Try.params10] at hA hval
  obtain ⟨rfl, rfl, rfl⟩ := trodAll_none hA
  obtain ⟨rfl, rfl⟩ := trodVars_none hV
  have hd : DenL Env.emp W [] [] := trivial
  refine (law_calls clockNames_base (args := []) rfl trivial (denA_of hd)).mono fun e W' ⟨he, hb⟩ => ?_
  subst he
  exact ⟨_, rfl, law_end laid rfl Try.underlying4 (by kernel_rfl) rfl hW' rfl hb⟩
theorem over : Rows.clockNamesRow.holds Try.pinned (OpenSpec.ofChange Rows.clockNamesSpec) :=
  OpenClaim.holds_of_wide 10 Try.f10 rfl rfl rfl rfl rfl rfl rfl ⟨rfl, rfl, rfl, rfl, rfl⟩ rfl rfl rfl rfl rfl (by kernel_rfl) Try.func10 (by kernel_rfl)
    (of_decide_eq_true (by kernel_rfl)) (by unfold Func.isWrapper; first | (rw [if_pos (by decide +kernel)]; kernel_rfl) | (rw [if_neg (by decide +kernel)]; exact ⟨rfl, rfl⟩))
    (fun os started H enc _ => lifted os started H enc)
end Go.Proofs.Ytjkbmnhpbncdcaa.clockNames
namespace Go.Proofs.Ytjkbmnhpbncdcaa
/-- The given statement. -/
theorem clockNames_holds : Rows.ClockNamesSaid := clockNames.over
#print axioms clockNames_holds
end Go.Proofs.Ytjkbmnhpbncdcaa
end
