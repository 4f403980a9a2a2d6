/-
  ClockOwns: for every input the law returns true, and each argument reads afterwards as it read before. No condition.
-/
import Derived.Test.YtjkbmnhpbncdcaaRows
import Derived.WalkKit
import Derived.Test.YtjkbmnhpbncdcaaK4
set_option linter.unusedSimpArgs false
set_option linter.unusedVariables false
/- clock: At whose slices are the caller's own. -/
section
namespace Go.Eng
open Go Go.RowKit Go.Proofs
set_option maxRecDepth 100000
set_option maxHeartbeats 4000000
attribute [local irreducible] OwnT DefS
def ownA (b : Bo) (e : Int) (v : Vers) (q : Nat) : SV := .tup [.agg [.int .i64 b.per, .int .i64 b.pl, .bool b.run, .int .i64 b.g0, .int .i64 b.g1, .vec q v.a, .vec (q + 1) v.b, .vec (q + 2) v.c, .vec (q + 3) v.d], .int .i64 e]
def ownV (b : Bo) (v : Vers) : List Vc := [vecL v.a b.p0, vecL v.b b.p1, vecL v.c b.m0, vecL v.d b.m1]
def ownD (q : Nat) (b : Bo) (v : Vers) : HS := ⟨[], if q = 12 then [.dead, .dead, .dead, .dead, .dead, .dead, .dead, .dead, .dead, .dead, .dead, .dead, vecL v.a b.p0, vecL v.b b.p1, vecL v.c b.m0, vecL v.d b.m1] else [.dead, .dead, .dead, .dead, .dead, .dead, .dead, .dead, .dead, .dead, .dead, .dead, .dead, .dead, .dead, .dead, vecL v.a b.p0, vecL v.b b.p1, vecL v.c b.m0, vecL v.d b.m1]⟩
def atK (r : Bo × Int) (o : Out) (h' : HS) : Prop := (∃ (B : List Blk) (V1 V2 V3 V4 V5 V6 V7 V8 V9 V10 V11 V12 : Vc), r.1 = Bo.z ∧ o = .ret (ownA Bo.z r.2 ⟨0, 0, 0, 0⟩ 12) ∧ h' = ⟨B, [V1, V2, V3, V4, V5, V6, V7, V8, V9, V10, V11, V12, .live 0 55 3 0 (fun _ _ => .any), .live 0 55 3 0 (fun _ _ => .any), .live 0 55 3 0 (fun _ _ => .any), .live 0 55 3 0 (fun _ _ => .any)]⟩) ∨
  (∃ (v : Vers) (B : List Blk) (V1 V2 V3 V4 V5 V6 V7 V8 V9 V10 V11 V12 V13 V14 V15 V16 : Vc), o = .ret (ownA r.1 r.2 v 16) ∧ h' = ⟨B, [V1, V2, V3, V4, V5, V6, V7, V8, V9, V10, V11, V12, V13, V14, V15, V16, vecL v.a r.1.p0, vecL v.b r.1.p1, vecL v.c r.1.m0, vecL v.d r.1.m1]⟩)
def atO (r : Bo × Int) (o : Out) (h' : HS) : Prop := (∃ v : Vers, o = .ret (ownA r.1 r.2 v 12) ∧ h' = ownD 12 r.1 v) ∨ (∃ v : Vers, o = .ret (ownA r.1 r.2 v 16) ∧ h' = ownD 16 r.1 v)
theorem at_small {n : Nat} (hn : n ≤ 1000000) (l : Nat → Nat → Int) {to : Int} :
    CallsS Try.prog 14 [.row n 4 (fun i j => .int .i64 (l i j)), .int .i64 to] ⟨[], []⟩ (atO (atR n l to)) := by
  refine calls_trim (K := atK (atR n l to)) ?_ ?_
  · refine calls_of_run (C := cx [30, 50] [] [(12, playBase), (32, withinBase)] [] none) (cx_ok trivial ⟨play_base, within_base, trivial⟩) rfl (g := 14) (fn := Try.f14) (fn_14) rfl 1000 ?_
    simp only [play_eq, within_eq, Try.f38, boS, rowP, Try.f14, go_sem, ↓reduceIte, Nat.reduceAdd, Nat.reduceSub, Nat.reduceMul, Nat.reduceEqDiff, Nat.reduceLT, Nat.reduceLeDiff, Int.reduceToNat, Int.reduceLE, Int.reduceLT, Int.reduceEq, Int.reduceNeg, reduceCtorEq]
    refine ⟨hn, fun e1 => ?_, fun e1 => ⟨fun e2 => ?_, fun e2 => ?_⟩⟩
    · have h : atR n l to = (Bo.z, (plR n l).2.2) := by unfold atR; rw [if_pos (by simpa using e1)]
      rw [h]
      exact .inl ⟨_, _, _, _, _, _, _, _, _, _, _, _, _, rfl, rfl, rfl⟩
    · have h : atR n l to = (Bo.z, 2) := by unfold atR; rw [if_neg (by simpa using e1), if_pos (by simpa using e2)]
      rw [h]
      exact .inl ⟨_, _, _, _, _, _, _, _, _, _, _, _, _, rfl, rfl, rfl⟩
    have hto : 0 ≤ to ∧ to ≤ 1048576 := in3_iff.1 (by simpa using e2)
    have h : atR n l to = ((atG n l to).b, 0) := by unfold atR; rw [if_neg (by simpa using e1), if_neg (by simpa using e2)]
    have hn : n ≤ 256 := by
      have : (plR n l).2.2 = 0 := by simpa using e1
      unfold plR at this
      split at this
      · cases this
      · omega
    rw [h]
    unfold callS
    have hok : (playP (evN l) to n 0 G0).1.Ok := (playP_ok hto _ _ _ G0_ok G0_cnt (by omega)).1
    refine calls_mono ?_ (ga_gen (k := 3) (q := 16) (s := G0) (v := ⟨0, 0, 0, 0⟩) (xs := [.row n 4 (fun i j => .int .i64 (l i j)), .int .i64 to]) (O := .ret (.tup [.int .i64 ((playP (evN l) to n 0 G0).2.1 : Int), .int .i64 (playP (evN l) to n 0 G0).2.2])) (h0 := ⟨(gaH G0 ⟨0, 0, 0, 0⟩).blks, [.live 0 55 3 0 (fun _ _ => .any), .live 0 55 3 0 (fun _ _ => .any), .live 0 55 3 0 (fun _ _ => .any), .live 0 55 3 0 (fun _ _ => .any)]⟩) rfl (by simp [bdV]) rfl (by simp [BdL, Bd]) (fun _ _ => rfl) (by simp [bdO, BdL, Bd]) (fun _ _ => rfl) (play_small (n := n) (by omega) l hto) _ rfl (by simp only [matV, go_sem, ↓reduceIte, Nat.reduceAdd, Nat.reduceSub, Nat.reduceMul, Nat.reduceEqDiff, Nat.reduceLT, Nat.reduceLeDiff, Int.reduceToNat, Int.reduceLE, Int.reduceLT, Int.reduceEq, Int.reduceNeg, reduceCtorEq]) (by intro j hj; simp at hj; simp [lenV]; omega))
    rintro o h' ⟨v', rfl, rfl⟩
    simp only [gaQ, vecL, play_eq, within_eq, boS, rowP, Try.f38, Try.f14, go_sem, ↓reduceIte, Nat.reduceAdd, Nat.reduceSub, Nat.reduceMul, Nat.reduceEqDiff, Nat.reduceLT, Nat.reduceLeDiff, Int.reduceToNat, Int.reduceLE, Int.reduceLT, Int.reduceEq, Int.reduceNeg, reduceCtorEq]
    refine calls_mono ?_ (ga_gen (k := 3) (q := 16) (s := (playP (evN l) to n 0 G0).1) (v := v') (xs := [.int .i64 to]) (O := .ret (.tup [])) (h0 := gaH _ v') rfl (by simp [gaH, vecL, bdV, Bd]) rfl (by simp [BdL, Bd]) (fun _ _ => rfl) (by simp [bdO, BdL, Bd]) (fun _ _ => rfl) (pass_calls hok hto v' (to - (playP (evN l) to n 0 G0).1.now).toNat (by omega)) _ rfl (by simp only [gaH, vecL, matV, go_sem, ↓reduceIte, Nat.reduceAdd, Nat.reduceSub, Nat.reduceMul, Nat.reduceEqDiff, Nat.reduceLT, Nat.reduceLeDiff, Int.reduceToNat, Int.reduceLE, Int.reduceLT, Int.reduceEq, Int.reduceNeg, reduceCtorEq]) (by intro j hj; simp at hj; simp [lenV]; omega))
    rintro o h' ⟨v', rfl, rfl⟩
    simp only [gaQ, vecL, play_eq, within_eq, boS, rowP, Try.f38, Try.f14, go_sem, ↓reduceIte, Nat.reduceAdd, Nat.reduceSub, Nat.reduceMul, Nat.reduceEqDiff, Nat.reduceLT, Nat.reduceLeDiff, Int.reduceToNat, Int.reduceLE, Int.reduceLT, Int.reduceEq, Int.reduceNeg, reduceCtorEq]

    exact Or.inr ⟨v', _, _, _, _, _, _, _, _, _, _, _, _, _, _, _, _, _, rfl, rfl⟩
  · rintro o h' (⟨B, V1, V2, V3, V4, V5, V6, V7, V8, V9, V10, V11, V12, hz, rfl, rfl⟩ | ⟨v', B, V1, V2, V3, V4, V5, V6, V7, V8, V9, V10, V11, V12, V13, V14, V15, V16, rfl, rfl⟩)
    · refine ⟨_, ownA (atR n l to).1 (atR n l to).2 ⟨0, 0, 0, 0⟩ 12, ownD 12 (atR n l to).1 ⟨0, 0, 0, 0⟩, ⟨rfl, .inl ⟨⟨0, 0, 0, 0⟩, rfl, rfl⟩⟩, ⟨?_, ?_, ?_, ?_, ?_, ?_⟩, ⟨?_, ?_⟩, ⟨?_, ?_⟩⟩ <;> (try rw [hz]) <;> (try simp only [ownD, ownA, vecL, Bo.z, go_sem, ↓reduceIte, Nat.reduceAdd, Nat.reduceSub, Nat.reduceMul, Nat.reduceEqDiff, Nat.reduceLT, Nat.reduceLeDiff, Int.reduceToNat, Int.reduceLE, Int.reduceLT, Int.reduceEq, Int.reduceNeg, reduceCtorEq]) <;> (try simp [subVk, subV, subB])
    · refine ⟨_, _, ownD 16 (atR n l to).1 v', ⟨rfl, .inr ⟨v', rfl, rfl⟩⟩, ⟨?_, ?_, ?_, ?_, ?_, ?_⟩, ⟨?_, ?_⟩, ⟨?_, ?_⟩⟩ <;> (try simp only [ownD, ownA, vecL, go_sem, ↓reduceIte, Nat.reduceAdd, Nat.reduceSub, Nat.reduceMul, Nat.reduceEqDiff, Nat.reduceLT, Nat.reduceLeDiff, Int.reduceToNat, Int.reduceLE, Int.reduceLT, Int.reduceEq, Int.reduceNeg, reduceCtorEq]) <;> (try simp [subVk, subV, subB])
def atM (r : Bo × Int) (h : HS) (o : Out) (h' : HS) : Prop :=
  (∃ v : Vers, o = .ret (ownA r.1 r.2 v (lenV h.vecs + 12)) ∧ h' = ⟨h.blks, appV (· + lenB h.blks) (· + lenV h.vecs) h.vecs [.dead, .dead, .dead, .dead, .dead, .dead, .dead, .dead, .dead, .dead, .dead, .dead, vecL v.a r.1.p0, vecL v.b r.1.p1, vecL v.c r.1.m0, vecL v.d r.1.m1]⟩) ∨
  (∃ v : Vers, o = .ret (ownA r.1 r.2 v (lenV h.vecs + 16)) ∧ h' = ⟨h.blks, appV (· + lenB h.blks) (· + lenV h.vecs) h.vecs [.dead, .dead, .dead, .dead, .dead, .dead, .dead, .dead, .dead, .dead, .dead, .dead, .dead, .dead, .dead, .dead, vecL v.a r.1.p0, vecL v.b r.1.p1, vecL v.c r.1.m0, vecL v.d r.1.m1]⟩)
theorem appB_nil (b v : Nat → Nat) : ∀ l : List Blk, appB b v l [] = l
  | [] => by simp [appB]
  | x :: l => by simp [appB, appB_nil b v l]
theorem at_own {n : Nat} (hn : n ≤ 1000000) (l : Nat → Nat → Int) {to : Int} (h : HS) :
    CallsS Try.prog 14 [.row n 4 (fun i j => .int .i64 (l i j)), .int .i64 to] h (atM (atR n l to) h) := by
  refine calls_mono ?_ (calls_grow (at_small hn l) (by simp [BdL, Bd]) ?_ h)
  · rintro o h' ⟨o0, h0', (⟨v, rfl, rfl⟩ | ⟨v, rfl, rfl⟩), rfl, rfl⟩
    · refine .inl ⟨v, ?_, ?_⟩
      · simp only [ownA, renO, renS, renL, Out.ret.injEq, SV.tup.injEq, List.cons.injEq, SV.agg.injEq, and_true, true_and, SV.vec.injEq]
        omega
      · simp only [ownD, if_pos, appB_nil]
    · refine .inr ⟨v, ?_, ?_⟩
      · simp only [ownA, renO, renS, renL, Out.ret.injEq, SV.tup.injEq, List.cons.injEq, SV.agg.injEq, and_true, true_and, SV.vec.injEq]
        omega
      · simp only [ownD, appB_nil]
        rfl
  · rintro o h' (⟨v, rfl, rfl⟩ | ⟨v, rfl, rfl⟩) <;> refine ⟨?_, ?_, ?_⟩ <;> simp [ownD, ownA, bdB, bdV, bdO, BdL, Bd, vecL, lenB, lenV]
end Go.Eng
end

/- clock: ClockPlays. -/
section
namespace Go.Eng
open Go Go.RowKit Go.Proofs
set_option maxRecDepth 100000
set_option maxHeartbeats 4000000
attribute [local irreducible] OwnT DefS
/-- No list is long. -/
def Bo.Sm (b : Bo) : Prop := b.p0.length ≤ 600 ∧ b.p1.length ≤ 600 ∧ b.m0.length ≤ 600 ∧ b.m1.length ≤ 600
theorem z_sm : Bo.z.Sm := ⟨by decide, by decide, by decide, by decide⟩
theorem cnt_sm {b : Bo} {n : Nat} (h : b.Cnt n) (hn : n ≤ 300) : b.Sm := ⟨by have := h.p0; omega, by have := h.p1; omega, by have := h.m0; omega, by have := h.m1; omega⟩
theorem plR_sm (n : Nat) (l : Nat → Nat → Int) : (plR n l).1.Sm := by
  unfold plR
  split
  · exact z_sm
  · split
    · exact z_sm
    · exact cnt_sm (playP_ok (ev := evN l) (to := 1048576) (by omega) n 0 G0 G0_ok G0_cnt (by omega)).2 (by omega)
theorem plT_sm (n : Nat) (l : Nat → Nat → Int) : (plT n l).1.Sm := by rw [← plR_plT]; exact plR_sm n l
theorem atR_sm (n : Nat) (l : Nat → Nat → Int) (to : Int) : (atR n l to).1.Sm := by
  unfold atR
  rw [plR_plT]
  split
  · exact z_sm
  · rename_i h
    split
    · exact z_sm
    · rename_i h2
      have hto := in3_iff.1 (show in3 to 0 1048576 = true by simpa using h2)
      have hn := (plT_len (by simpa using h)).1
      exact cnt_sm (passP_cnt _ _ (playP_ok (ev := evN l) (to := to) hto n 0 G0 G0_ok G0_cnt (by omega)).2) (by omega)
theorem agT_sm (n : Nat) (l : Nat → Nat → Int) (to : Int) : (agT n l to).1.b.Sm := by
  have := atR_sm n l to
  rw [atR_agT] at this
  exact this
theorem wiT_sm (n : Nat) (l : Nat → Nat → Int) (q : Int) : (wiT n l q).1.Sm := by
  unfold wiT
  repeat' split
  all_goals first | exact z_sm | exact plT_sm _ _
def clockPlaysBase : BaseF := fun args => match args with
  | [.row n sz_l f_l, .int .i64 second, .int .i64 index] => some ((sz_l = 4 ∧ IntR n 4 f_l), .bool true)
  | _ => none
theorem clockPlays_eq (n : Nat) (sz_l : Nat) (f_l : Nat → Nat → SV) (second : Int) (index : Int) : clockPlaysBase [.row n sz_l f_l, .int .i64 second, .int .i64 index] = some ((sz_l = 4 ∧ IntR n 4 f_l), .bool true) := rfl
theorem clockPlays_base : Base Try.prog 7 clockPlaysBase := by
  intro args p v hq hp
  unfold clockPlaysBase at hq
  split at hq
  rotate_left
  · cases hq
  rename_i n sz_l f_l second index
  cases hq
  obtain ⟨rfl, i_l⟩ := hp
  refine base_of (C := cxn [] [(23, playTBase), (24, atTBase), (25, withoutBase), (26, withTBase)] [] [(11, aliveBase), (12, playBase), (14, atBase), (20, sameBase)] [] none) (cxn_ok ⟨playT_base, atT_base, without_base, withT_base, trivial⟩ trivial ⟨alive_base, play_base, at_base, same_base, trivial⟩) rfl (g := 7) (fn := Try.f7)
    (args' := [.row n 4 (rowF .i64 (ivf f_l)), .int .i64 second, .int .i64 index]) (fn_7) rfl 1000 (by
    simp only [BdL, Bd, and_self, and_true, true_and]
    exact (fun i j hi hj => by rw [i_l i j hi hj]; trivial)) ⟨SameD.int i_l, SameD.rfl' _, SameD.rfl' _, trivial⟩ ?_
  generalize ivf f_l = l
  simp only [rowF_eq]
  simp only [alive_eq, play_eq, at_eq, same_eq, playT_eq, atT_eq, without_eq, withT_eq, Try.f15, boS, rowP, pl_pf, plR_plT, atR_agT, wiR_wiT, Try.f7, go_sem, ↓reduceIte, Nat.reduceAdd, Nat.reduceSub, Nat.reduceMul, Nat.reduceEqDiff, Nat.reduceLT, Nat.reduceLeDiff, Int.reduceToNat, Int.reduceLE, Int.reduceLT, Int.reduceEq, Int.reduceNeg, reduceCtorEq]
  have h1 := plT_sm n l
  have h2 := agT_sm n l second
  have h3 := wiT_sm n l index
  unfold Bo.Sm at h1 h2 h3
  repeat' first | refine spl_intro (fun _ => ?_) (fun _ => ?_) | apply And.intro
  all_goals first | trivial | omega | skip
  all_goals (simp only [decide_eq_true_eq, decide_eq_false_iff_not] at *; omega)
end Go.Eng
end

/- clock: event by event (plain). -/
section
namespace Go.Eng
open Go Go.RowKit Go.Proofs
set_option maxRecDepth 100000
set_option maxHeartbeats 4000000
attribute [local irreducible] OwnT DefS
/-- One more event. -/
def oneT (ev : Nat → Ev) (i : Nat) (s : Ga) : Ga × Nat × Int :=
  if evOk (ev i) = false then (s, i, 1) else if i ≠ 0 ∧ (ev i).s < (ev (i - 1)).s then (s, i, 7) else
    if ((passTF s (ev i).s).b.deed (ev i)).2 ≠ 0 then (s, i, ((passTF s (ev i).s).b.deed (ev i)).2)
    else (⟨((passTF s (ev i).s).b.deed (ev i)).1, (ev i).s, (passTF s (ev i).s).out⟩, i + 1, 0)
theorem playT_one (ev : Nat → Ev) (k i : Nat) (s : Ga) : playT ev 1048576 (k + 1) i s = if (oneT ev i s).2.2 = 0 then playT ev 1048576 k (i + 1) (oneT ev i s).1 else oneT ev i s := by
  unfold oneT
  conv => lhs; unfold playT
  by_cases h1 : evOk (ev i) = false
  · rw [if_pos h1, if_pos h1, if_neg (by simp)]
  have he := evOk_iff.1 (by simpa using h1)
  rw [if_neg h1, if_neg h1]
  by_cases h2 : i ≠ 0 ∧ (ev i).s < (ev (i - 1)).s
  · rw [if_pos h2, if_pos h2, if_neg (by simp)]
  rw [if_neg h2, if_neg h2, if_neg (show ¬ (1048576 : Int) < (ev i).s by omega)]
  by_cases h3 : ((passTF s (ev i).s).b.deed (ev i)).2 ≠ 0
  · rw [if_pos h3, if_pos h3, if_neg h3]
  · rw [if_neg h3, if_neg h3, if_pos rfl]
theorem playT_snoc (ev : Nat → Ev) : ∀ (k i : Nat) (s : Ga), playT ev 1048576 (k + 1) i s = if (playT ev 1048576 k i s).2.2 = 0 then oneT ev (i + k) (playT ev 1048576 k i s).1 else playT ev 1048576 k i s
  | 0, i, s => by
    rw [playT_one]
    simp only [playT, Nat.add_zero]
    split
    · rename_i h
      unfold oneT at h ⊢
      repeat' split at h
      all_goals first | cases h | exact absurd h ‹_› | skip
      rename_i a b c
      rw [if_neg a, if_neg b, if_neg c, if_pos trivial]
    · rw [if_pos trivial]
  | k + 1, i, s => by
    rw [playT_one ev (k + 1), playT_snoc ev k (i + 1), playT_one ev k i s]
    by_cases h : (oneT ev i s).2.2 = 0
    · simp only [if_pos h]
      rw [show i + 1 + k = i + (k + 1) by omega]
    · simp only [if_neg h]
/-- The state behind so many events, and its error. -/
def stA (ev : Nat → Ev) (k : Nat) : Ga := (playT ev 1048576 k 0 G0).1
def erA (ev : Nat → Ev) (k : Nat) : Int := (playT ev 1048576 k 0 G0).2.2
theorem erA_le {ev : Nat → Ev} {n : Nat} (h : erA ev n = 0) : ∀ k, k ≤ n → erA ev k = 0 := by
  induction n with
  | zero => intro k hk; obtain rfl : k = 0 := by omega
            exact h
  | succ n ih =>
    have h1 : erA ev n = 0 := by
      unfold erA at h ⊢
      rw [playT_snoc] at h
      by_cases q : (playT ev 1048576 n 0 G0).2.2 = 0
      · exact q
      · rw [if_neg q] at h; exact h
    intro k hk
    rcases Nat.lt_or_ge k (n + 1) with q | q
    · exact ih h1 k (by omega)
    · obtain rfl : k = n + 1 := by omega
      exact h
theorem stA_succ {ev : Nat → Ev} {k : Nat} (h : erA ev (k + 1) = 0) : evOk (ev k) = true ∧ (k ≠ 0 → (ev (k - 1)).s ≤ (ev k).s) ∧ ((passTF (stA ev k) (ev k).s).b.deed (ev k)).2 = 0 ∧
    stA ev (k + 1) = ⟨((passTF (stA ev k) (ev k).s).b.deed (ev k)).1, (ev k).s, (passTF (stA ev k) (ev k).s).out⟩ := by
  have h0 := erA_le h k (by omega)
  have e : playT ev 1048576 (k + 1) 0 G0 = oneT ev k (stA ev k) := by
    rw [playT_snoc, Nat.zero_add, if_pos (show (playT ev 1048576 k 0 G0).2.2 = 0 from h0)]; rfl
  unfold erA at h
  have e2 : stA ev (k + 1) = (oneT ev k (stA ev k)).1 := by rw [← e]; rfl
  rw [e] at h
  rw [e2]
  generalize stA ev k = s at h ⊢
  unfold oneT at h ⊢
  repeat' split at h
  all_goals first | cases h | exact absurd h ‹_› | skip
  rename_i a b c
  rw [if_neg a, if_neg b, if_neg c]
  exact ⟨by simpa using a, fun q => by omega, by simpa using c, rfl⟩
theorem stA_now {ev : Nat → Ev} {k : Nat} (h : erA ev (k + 1) = 0) : (stA ev (k + 1)).now = (ev k).s := by rw [(stA_succ h).2.2.2]
theorem ev_mono {ev : Nat → Ev} {n : Nat} (h : erA ev n = 0) : ∀ k, k < n → ∀ j, j ≤ k → (ev j).s ≤ (ev k).s
  | 0, _, j, hj => by obtain rfl : j = 0 := by omega
                      exact Int.le_refl _
  | k + 1, hk, j, hj => by
    rcases Nat.lt_or_ge j (k + 1) with q | q
    · have h1 := ev_mono h k (by omega) j (by omega)
      have h2 := (stA_succ (erA_le h (k + 2) (by omega))).2.1 (by omega)
      rw [Nat.add_sub_cancel] at h2
      omega
    · obtain rfl : j = k + 1 := by omega
      exact Int.le_refl _
/-- Up to a second that none of the events is behind. -/
theorem playT_all {ev : Nat → Ev} {to : Int} (hto : to ≤ 1048576) : ∀ (k i : Nat) (s : Ga), (∀ j, i ≤ j → j < i + k → (ev j).s ≤ to) → playT ev to k i s = playT ev 1048576 k i s
  | 0, i, s, _ => rfl
  | k + 1, i, s, h => by
    have h1 := h i (by omega) (by omega)
    unfold playT
    rw [if_neg (show ¬ to < (ev i).s by omega), if_neg (show ¬ (1048576 : Int) < (ev i).s by omega), playT_all hto k (i + 1) _ (fun j a b => h j (by omega) (by omega))]
theorem plT_eq {k : Nat} {l : Nat → Nat → Int} (hk : k ≤ 256) (h : erA (evN l) k = 0) : plT k l = ((stA (evN l) k).b, (k : Int), 0) := by
  unfold plT
  rw [if_neg (by omega), if_neg (show ¬ (playT (evN l) 1048576 k 0 G0).2.2 ≠ 0 from fun q => q h)]
  have := ((rel_play (ev := evN l) k 0 G0 G0 rel0 G0_ok G0_cnt (by omega)).2.2 h).1
  rw [this, Nat.zero_add]
  rfl
theorem plT_er {k : Nat} {l : Nat → Nat → Int} (hk : k ≤ 256) : (plT k l).2.2 = erA (evN l) k := by
  by_cases h : erA (evN l) k = 0
  · rw [plT_eq hk h, h]
  · unfold plT
    rw [if_neg (by omega), if_pos (show (playT (evN l) 1048576 k 0 G0).2.2 ≠ 0 from h)]
    rfl
theorem agT_sec {k : Nat} {l : Nat → Nat → Int} {to : Int} (hk : k ≤ 256) (h : erA (evN l) k = 0) (h0 : 0 ≤ to) (hto : to ≤ 1048576) (ht : ∀ j, j < k → (evN l j).s ≤ to) : agT k l to = (passTF (stA (evN l) k) to, 0) := by
  unfold agT
  rw [if_neg (by rw [plT_er hk, h]; simp), if_neg (by rw [in3_iff.2 ⟨h0, hto⟩]; simp), playT_all hto k 0 G0 (fun j _ b => ht j (by omega))]
  rfl
theorem stA_ok {ev : Nat → Ev} {k : Nat} (hk : k ≤ 256) : (stA ev k).Ok := playT_ok (ev := ev) (to := 1048576) k 0 G0 G0_ok G0_cnt (by omega)
/-- So many seconds of a team's penalties. -/
def itS : Nat → List Pen → List Pen
  | 0, l => l
  | m + 1, l => itS m (goneS 1 l)
theorem passT_it {to : Int} : ∀ (m : Nat) (s : Ga), (0 < m → s.b.run = true ∧ s.b.pl + m ≤ 1200) → s.now + m = to → (passT m s to).b.p0 = itS m s.b.p0 ∧ (passT m s to).b.p1 = itS m s.b.p1
  | 0, s, _, _ => ⟨rfl, rfl⟩
  | m + 1, s, h, hn => by
    obtain ⟨h1, h2⟩ := h (by omega)
    simp only [passT]
    rw [if_pos ⟨h1, by omega⟩]
    exact passT_it m s.tick (fun q => ⟨by simp only [Ga.tick, Bo.pass, decide_eq_true_eq]; omega, by simp only [Ga.tick, Bo.pass]; omega⟩) (by simp only [Ga.tick]; omega)
theorem wholeT_bd : ∀ (f : Nat) (l : List Pen), 0 ≤ wholeT f l ∧ wholeT f l ≤ f
  | 0, l => ⟨Int.le_refl _, Int.le_refl _⟩
  | f + 1, l => by
    have := wholeT_bd f (goneS 1 l)
    unfold wholeT
    split <;> omega
theorem wholeT_it : ∀ (f : Nat) (l : List Pen), (wholeT f l < f → itS (wholeT f l).toNat l = []) ∧ ∀ m : Nat, (m : Int) < wholeT f l → itS m l ≠ []
  | 0, l => ⟨fun h => absurd h (by simp [wholeT]), fun m h => absurd h (by simp [wholeT])⟩
  | f + 1, l => by
    obtain ⟨a, b⟩ := wholeT_it f (goneS 1 l)
    obtain ⟨c, d⟩ := wholeT_bd f (goneS 1 l)
    unfold wholeT
    split
    · rename_i h; exact ⟨fun _ => by rw [h]; rfl, fun m hm => by omega⟩
    · rename_i h
      refine ⟨fun q => ?_, fun m hm => ?_⟩
      · rw [show (1 + wholeT f (goneS 1 l)).toNat = (wholeT f (goneS 1 l)).toNat + 1 by omega]
        exact a (by omega)
      · cases m with
        | zero => exact h
        | succ m => exact b m (by omega)
end Go.Eng
end

/- clock: Whole from a game (plain). -/
section
namespace Go.Eng
open Go Go.RowKit Go.Proofs
set_option maxRecDepth 100000
set_option maxHeartbeats 4000000
attribute [local irreducible] OwnT DefS
/-- Penalties as events give them. -/
def pkL (l : List Pen) : Prop := ∀ p ∈ l, (0 ≤ p.a ∧ p.a ≤ 4095) ∧ p.l ≤ 300
def Bo.Pk (b : Bo) : Prop := pkL b.p0 ∧ pkL b.p1
theorem goneW_mem {m : Nat} {w : Nat → Int} {n : Int} {l : List Pen} (hn : 0 ≤ n) {p : Pen} (hp : p ∈ goneW m w n l) : ∃ q ∈ l, p.a = q.a ∧ p.k = q.k ∧ p.l ≤ q.l := by
  simp only [goneW, List.mem_filter] at hp
  obtain ⟨i, hi, rfl⟩ := mem_pl hp.1
  refine ⟨_, pf_mem hi, ?_, ?_, ?_⟩
  · simp [pn]
  · simp [pn]
  · simp only [pn]; split <;> omega
theorem goneS_pk {n : Int} {l : List Pen} (hn : 0 ≤ n) (h : pkL l) : pkL (goneS n l) := fun p hp => by
  obtain ⟨q, hq, h1, _, h3⟩ := goneW_mem hn hp
  have := h q hq
  omega
theorem passT_pk {to : Int} : ∀ (k : Nat) (s : Ga), s.b.Pk → (passT k s to).b.Pk
  | 0, s, h => h
  | k + 1, s, h => by
    simp only [passT]
    split
    · exact passT_pk k _ ⟨goneS_pk (by omega) h.1, goneS_pk (by omega) h.2⟩
    · exact h
theorem goal_pk {l : List Pen} (h : pkL l) : pkL (goalL l) := fun p hp => h p ((goalL_sub l).2 p hp)
theorem gives_pk {k p : Int} (h : 0 ≤ p ∧ p ≤ 4095) : pkL (gives k p) := by
  unfold gives pkL
  repeat' split
  all_goals simp
  all_goals omega
theorem app_pk {l k : List Pen} (h : pkL l) (h2 : pkL k) : pkL (l ++ k) := fun p hp => by
  rcases List.mem_append.1 hp with q | q
  · exact h p q
  · exact h2 p q
theorem deed_pk {b : Bo} (h : b.Pk) {x : Ev} (hx : evOk x = true) : (b.deed x).1.Pk := by
  have he := evOk_iff.1 hx
  obtain ⟨h1, h2⟩ := h
  have g1 := goal_pk h1
  have g2 := goal_pk h2
  have a1 : ¬ x.k = 0 → ¬ x.k = 1 → ¬ x.k = 2 → pkL (b.p0 ++ gives x.k x.p) := fun _ _ _ => app_pk h1 (gives_pk (by omega))
  have a2 : ¬ x.k = 0 → ¬ x.k = 1 → ¬ x.k = 2 → pkL (b.p1 ++ gives x.k x.p) := fun _ _ _ => app_pk h2 (gives_pk (by omega))
  unfold Bo.deed Bo.start Bo.stop Bo.goal Bo.give
  repeat' split
  all_goals constructor
  all_goals dsimp only
  all_goals first | exact h1 | exact h2 | exact g1 | exact g2 | exact a1 ‹_› ‹_› ‹_› | exact a2 ‹_› ‹_› ‹_› | (split <;> first | exact h1 | exact h2 | exact g1 | exact g2)
theorem stA_pk {ev : Nat → Ev} : ∀ {k : Nat}, erA ev k = 0 → (stA ev k).b.Pk
  | 0, _ => ⟨fun p hp => by simp [stA, playT, G0, Bo.z] at hp, fun p hp => by simp [stA, playT, G0, Bo.z] at hp⟩
  | k + 1, h => by
    obtain ⟨h1, _, _, h2⟩ := stA_succ h
    rw [h2]
    exact deed_pk (passT_pk _ _ (stA_pk (erA_le h k (by omega)))) h1
theorem stA_cnt {ev : Nat → Ev} : ∀ {k : Nat}, erA ev k = 0 → (stA ev k).b.Cnt k
  | 0, _ => G0_cnt
  | k + 1, h => by
    obtain ⟨h1, _, _, h2⟩ := stA_succ h
    rw [h2]
    exact deed_cnt (passT_cnt _ _ (stA_cnt (erA_le h k (by omega)))) _
theorem okL_of {l : List Pen} (h : lOk l) (h2 : pkL l) (hl : l.length ≤ 256) : okL l = true := by
  unfold okL
  rw [decide_eq_true hl, Bool.true_and, Bool.not_eq_true']
  cases e : anyB (pf l) l.length
  · rfl
  · obtain ⟨i, hi, hb⟩ := anyB_iff.1 e
    have h3 := h.2 _ (pf_mem hi)
    have h4 := h2 _ (pf_mem hi)
    simp only at h3 h4
    simp only [badF, Bool.not_eq_true', Bool.and_eq_false_iff, in3_false] at hb
    omega
def Bo.pt (b : Bo) (t : Int) : List Pen := if t = 0 then b.p0 else b.p1
theorem whole_st {ev : Nat → Ev} {k : Nat} (h : erA ev k = 0) (hk : k ≤ 60) {t : Int} (ht : t = 0 ∨ t = 1) : ∃ w : Nat, w ≤ 76800 ∧ wholeRT (stA ev k).b.p0 (stA ev k).b.p1 t = ((w : Int), 0) ∧ itS w ((stA ev k).b.pt t) = [] ∧ (∀ m, m < w → itS m ((stA ev k).b.pt t) ≠ []) ∧ ((w : Int) = 0 ↔ (stA ev k).b.pt t = []) := by
  have hok := (stA_ok (ev := ev) (k := k) (by omega)).b
  have hpk := stA_pk h
  have hc := stA_cnt h
  have c0 := hc.p0
  have c1 := hc.p1
  have e : wholeRT (stA ev k).b.p0 (stA ev k).b.p1 t = (wholeT 76800 ((stA ev k).b.pt t), 0) := by
    unfold wholeRT Bo.pt
    rw [okL_of hok.p0 hpk.1 (by omega), okL_of hok.p1 hpk.2 (by omega), if_neg (by simp), if_neg (by rw [in3_iff.2 (by omega)]; simp)]
    split <;> rfl
  rw [e]
  have hl : lOk ((stA ev k).b.pt t) ∧ (∀ p ∈ (stA ev k).b.pt t, p.l ≤ 300) ∧ ((stA ev k).b.pt t).length ≤ 120 := by
    unfold Bo.pt
    split
    · exact ⟨hok.p0, fun p hp => (hpk.1 p hp).2, by omega⟩
    · exact ⟨hok.p1, fun p hp => (hpk.2 p hp).2, by omega⟩
  generalize (stA ev k).b.pt t = l at hl
  obtain ⟨f, hf⟩ : ∃ f : Nat, f = 76799 := ⟨_, rfl⟩
  rw [show 76800 = f + 1 by omega]
  have e1 : wholeT (f + 1) l = wholeT f l := by
    rw [← whole_wholeT l.length f l hl.1 hl.2.1 (Nat.le_refl _) (by omega), ← whole_wholeT l.length (f + 1) l hl.1 hl.2.1 (Nat.le_refl _) (by omega)]
  have b1 := wholeT_bd f l
  obtain ⟨i1, i2⟩ := wholeT_it (f + 1) l
  refine ⟨(wholeT (f + 1) l).toNat, by omega, ?_, i1 (by omega), fun m hm => i2 m (by omega), ?_⟩
  · rw [Int.toNat_of_nonneg (by omega)]
  · rw [Int.toNat_of_nonneg (by omega)]
    have b2 := wholeT_bd f (goneS 1 l)
    unfold wholeT
    split
    · rename_i q; simp [q]
    · rename_i q; exact ⟨fun r => by omega, fun r => absurd r q⟩
/-- Behind one more start. -/
theorem whole_on {l on : Nat → Nat → Int} {n : Nat} (hn : n ≤ 60) (hE : erA (evN l) n = 0) (h0 : n ≠ 0) (hr : (stA (evN l) n).b.run = false) (hon : ∀ i, i < n → evN on i = evN l i) (hst : evN on n = ⟨0, (evN l (n - 1)).s, 0, 0⟩)
    {w : Nat} (hw : w ≠ 0) (hpl : (if (stA (evN l) n).b.pl = 1200 then 0 else (stA (evN l) n).b.pl) + w ≤ 1200) (hs : (evN l (n - 1)).s + w ≤ 1048576) :
    ((stA (evN l) n).b.per = 2 ∧ ∀ to, (agT (n + 1) on to).2 = 9) ∨ (∀ m : Nat, m ≤ w → (agT (n + 1) on ((evN l (n - 1)).s + m)).2 = 0 ∧ (agT (n + 1) on ((evN l (n - 1)).s + m)).1.b.p0 = itS m (stA (evN l) n).b.p0 ∧ (agT (n + 1) on ((evN l (n - 1)).s + m)).1.b.p1 = itS m (stA (evN l) n).b.p1) := by
  obtain ⟨k, rfl⟩ : ∃ k, n = k + 1 := ⟨n - 1, by omega⟩
  rw [Nat.add_sub_cancel] at *
  have hnow := stA_now hE
  have hok := stA_ok (ev := evN l) (k := k + 1) (by omega)
  have hs0 := hok.now
  rw [hnow] at hs0
  have hmono := ev_mono hE k (by omega)
  have ec : playT (evN on) 1048576 (k + 1) 0 G0 = playT (evN l) 1048576 (k + 1) 0 G0 := playT_congr _ _ _ (fun j hj => hon j (by omega))
  have e1 : erA (evN on) (k + 1) = 0 := by unfold erA; rw [ec]; exact hE
  have e2 : stA (evN on) (k + 1) = stA (evN l) (k + 1) := by unfold stA; rw [ec]
  have e3 : playT (evN on) 1048576 (k + 1 + 1) 0 G0 = oneT (evN on) (k + 1) (stA (evN l) (k + 1)) := by
    rw [playT_snoc, Nat.zero_add, if_pos (show (playT (evN on) 1048576 (k + 1) 0 G0).2.2 = 0 from e1)]
    exact congrArg _ e2
  generalize hS : stA (evN l) (k + 1) = S at *
  have hp : passTF S (evN l k).s = ⟨S.b, (evN l k).s, S.out⟩ := by
    unfold passTF
    rw [hnow, Int.sub_self]; rfl
  have e4 : oneT (evN on) (k + 1) S = if (S.b.start).2 ≠ 0 then (S, k + 1, (S.b.start).2) else (⟨(S.b.start).1, (evN l k).s, S.out⟩, k + 1 + 1, 0) := by
    unfold oneT
    rw [hst, if_neg (by rw [evOk_iff.2 ⟨by simp, by simpa using hs0, by simp, by simp⟩]; simp), if_neg (by rw [Nat.add_sub_cancel, hon k (by omega)]; simp)]
    simp only [hp, Bo.deed, if_true]
  rw [e4] at e3
  by_cases hf : S.b.pl = 1200 ∧ ¬ S.b.per < 2
  · left
    have hst9 : S.b.start = (S.b, 9) := by unfold Bo.start; rw [if_neg (by simp [hr]), if_pos hf.1, if_neg hf.2]
    rw [hst9, if_pos (by simp)] at e3
    have hper := hok.b.per
    refine ⟨by omega, fun to => ?_⟩
    have : (plT (k + 1 + 1) on).2.2 = 9 := by rw [plT_er (by omega)]; unfold erA; rw [e3]
    unfold agT
    rw [if_pos (by rw [this]; simp), this]
  · right
    have hst0 : (S.b.start).2 = 0 ∧ (S.b.start).1.run = true ∧ (S.b.start).1.pl = (if S.b.pl = 1200 then 0 else S.b.pl) ∧ (S.b.start).1.p0 = S.b.p0 ∧ (S.b.start).1.p1 = S.b.p1 := by
      unfold Bo.start
      rw [if_neg (by simp [hr])]
      by_cases q : S.b.pl = 1200
      · rw [if_pos q, if_pos (by omega), if_pos q]; exact ⟨rfl, rfl, rfl, rfl, rfl⟩
      · rw [if_neg q, if_neg q]; exact ⟨rfl, rfl, rfl, rfl, rfl⟩
    obtain ⟨s1, s2, s3, s4, s5⟩ := hst0
    rw [s1, if_neg (by simp)] at e3
    have x1 : erA (evN on) (k + 1 + 1) = 0 := by unfold erA; rw [e3]
    have x2 : stA (evN on) (k + 1 + 1) = ⟨(S.b.start).1, (evN l k).s, S.out⟩ := by unfold stA; rw [e3]
    intro m hm
    have hm2 : (m : Int) ≤ w := by omega
    rw [agT_sec (by omega) x1 (by omega) (by omega) (fun j hj => by
      rcases Nat.lt_or_ge j (k + 1) with q | q
      · rw [hon j q]; have := hmono j (by omega); omega
      · obtain rfl : j = k + 1 := by omega
        rw [hst]; simp only []; omega), x2]
    refine ⟨rfl, ?_⟩
    have := passT_it (to := (evN l k).s + m) m ⟨(S.b.start).1, (evN l k).s, S.out⟩ (fun q => ⟨s2, by simp only [s3]; omega⟩) rfl
    simp only [s4, s5] at this
    unfold passTF
    rw [show ((evN l k).s + (m : Int) - (evN l k).s).toNat = m by omega]
    exact this
end Go.Eng
end

/- clock: ClockWhole. -/
section
namespace Go.Eng
open Go Go.RowKit Go.Proofs
set_option maxRecDepth 100000
set_option maxHeartbeats 4000000
attribute [local irreducible] OwnT DefS
theorem plT_congr {l l' : Nat → Nat → Int} {n : Nat} (h : ∀ i j, i < n → j < 4 → l i j = l' i j) : plT n l = plT n l' := by rw [← plR_plT, ← plR_plT, plR_congr h]
theorem agT_congr {l l' : Nat → Nat → Int} {n : Nat} {to : Int} (h : ∀ i j, i < n → j < 4 → l i j = l' i j) : agT n l to = agT n l' to := by
  unfold agT
  rw [plT_congr h, playT_congr n 0 G0 (fun j hj => evN_congr h j (by omega))]
/-- One event more. -/
def onL (n : Nat) (l : Nat → Nat → Int) (a b c d : Int) (i j : Nat) : Int := if i < n then l i j else if j = 0 then a else if j = 1 then b else if j = 2 then c else d
def onV (n : Nat) (l : Nat → Nat → Int) (a b c d : Int) (i j : Nat) : SV := catF n (fun i j => .int .i64 (l i j)) (oneF [.int .i64 a, .int .i64 b, .int .i64 c, .int .i64 d]) i j
theorem frz_on (k : Nat) (h : HS) (n : Nat) (l : Nat → Nat → Int) (a b c d : Int) (i j : Nat) (A : Nat → Nat → SV) : frzF (k + 1) h (catF n (catF 0 A (fun i j => .int .i64 (l i j))) (oneF [.int .i64 a, .int .i64 b, .int .i64 c, .int .i64 d]) i j) = onV n l a b c d i j := by
  unfold onV catF oneF
  simp only [Nat.not_lt_zero, if_false, Nat.sub_zero]
  split
  · rfl
  · match j with
    | 0 => rfl
    | 1 => rfl
    | 2 => rfl
    | 3 => rfl
    | j + 4 => rfl
theorem onV_int {n : Nat} {l : Nat → Nat → Int} {a b c d : Int} {i j : Nat} (hi : i < n + 1) (hj : j < 4) : onV n l a b c d i j = .int .i64 (onL n l a b c d i j) := by
  unfold onV onL catF oneF
  split
  · rfl
  · match j, hj with
    | 0, _ => rfl
    | 1, _ => rfl
    | 2, _ => rfl
    | 3, _ => rfl
theorem intR_on (n : Nat) (l : Nat → Nat → Int) (a b c d : Int) : IntR (n + 1) 4 (fun i j => onV n l a b c d i j) = True := eq_true (fun i j hi hj => by show onV n l a b c d i j = .int .i64 (iv (onV n l a b c d i j)); rw [onV_int hi hj]; rfl)
theorem agT_on (n : Nat) (l : Nat → Nat → Int) (a b c d : Int) (to : Int) : agT (n + 1) (ivf fun i j => onV n l a b c d i j) to = agT (n + 1) (onL n l a b c d) to :=
  agT_congr (fun i j hi hj => by show iv (onV n l a b c d i j) = _; rw [onV_int hi hj]; rfl)
theorem wf_byt {w : Int} (h : (Lit.int .u8 w).wf = true) : 0 ≤ w ∧ w ≤ 255 := by
  have : (decide (IntKind.min .u8 ≤ w) && decide (w ≤ IntKind.max .u8)) = true := h
  have h1 : IntKind.min .u8 = 0 := by decide
  have h2 : IntKind.max .u8 = 255 := by decide
  rw [h1, h2] at this
  simpa using this
theorem spl_no {q : Bool} {A B : Prop} (h : q = false) (hb : B) : spl q A B := ⟨fun h' => (by rw [h] at h'; cases h'), fun _ => hb⟩
def clockWholeBase : BaseF := fun args => match args with
  | [.row n sz_l f_l, .int .u8 team] => some ((sz_l = 4 ∧ IntR n 4 f_l) ∧ ((Lit.int .u8 team).wf = true), .bool true)
  | _ => none
theorem clockWhole_eq (n : Nat) (sz_l : Nat) (f_l : Nat → Nat → SV) (team : Int) : clockWholeBase [.row n sz_l f_l, .int .u8 team] = some ((sz_l = 4 ∧ IntR n 4 f_l) ∧ ((Lit.int .u8 team).wf = true), .bool true) := rfl
theorem clockWhole_base : Base Try.prog 3 clockWholeBase := by
  intro args p v hq hp
  unfold clockWholeBase at hq
  split at hq
  rotate_left
  · cases hq
  rename_i n sz_l f_l team
  cases hq
  obtain ⟨⟨rfl, i_l⟩, wf_team⟩ := hp
  refine base_of (C := cx [] [] [(11, aliveBase), (12, playBase), (13, wholeBase), (14, atBase)] [] none) (cx_ok trivial ⟨alive_base, play_base, whole_base, at_base, trivial⟩) rfl (g := 3) (fn := Try.f3)
    (args' := [.row n 4 (rowF .i64 (ivf f_l)), .int .u8 team]) (fn_3) rfl 1000 (by
    simp only [BdL, Bd, and_self, and_true, true_and]
    exact (fun i j hi hj => by rw [i_l i j hi hj]; trivial)) ⟨SameD.int i_l, SameD.rfl' _, trivial⟩ ?_
  generalize ivf f_l = l
  simp only [rowF_eq]
  simp only [alive_eq, play_eq, whole_eq, at_eq, boS, rowP, pl_pf, plR_plT, atR_agT, wholeR_wholeRT, Try.f3, go_sem, ↓reduceIte, Nat.reduceAdd, Nat.reduceSub, Nat.reduceMul, Nat.reduceEqDiff, Nat.reduceLT, Nat.reduceLeDiff, Int.reduceToNat, Int.reduceLE, Int.reduceLT, Int.reduceEq, Int.reduceNeg, reduceCtorEq]
  have hT : IntKind.i64.wrap team = team ∧ (team.tmod 2 = 0 ∨ team.tmod 2 = 1) := by
    have := wf_byt wf_team
    exact ⟨wrap_id (by omega) (by omega), by rw [Int.tmod_eq_emod_of_nonneg this.1]; omega⟩
  rw [hT.1]
  refine spl_intro (fun e1 => trivial) (fun e1 => ?_)
  have hn : n ≤ 60 := by simp only [decide_eq_false_iff_not] at e1; omega
  refine ⟨by omega, by omega, ?_⟩
  refine spl_intro (fun e2 => trivial) (fun e2 => ?_)
  refine spl_intro (fun e3 => trivial) (fun e3 => ?_)
  refine spl_intro (fun e4 => trivial) (fun e4 => ?_)
  have hsm := plT_sm n l
  unfold Bo.Sm at hsm
  refine ⟨by omega, ?_⟩
  rw [Bool.not_eq_false', decide_eq_true_eq] at e2
  have hE : erA (evN l) n = 0 := by rw [← plT_er (by omega)]; exact e2
  rw [plT_eq (by omega) hE] at e4
  simp only at e4
  simp only [plT_eq (show n ≤ 256 by omega) hE]
  obtain ⟨k, rfl⟩ : ∃ k, n = k + 1 := ⟨n - 1, by simp only [decide_eq_false_iff_not] at e3; omega⟩
  have hok := (stA_ok (ev := evN l) (k := k + 1) (by omega)).b
  have hpl := hok.pl
  have hev := evOk_iff.1 (stA_succ hE).1
  have hs0 : 0 ≤ l k 1 ∧ l k 1 ≤ 1048576 := hev.2.1
  have wk : IntKind.i64.wrap (((k + 1 : Nat) : Int) - 1) = (k : Int) := by rw [wrap_id (by omega) (by omega)]; omega
  rcases hT.2 with hT2 | hT2
  · rw [hT2]
    obtain ⟨w, w0, w1, w2, w3, w4⟩ := whole_st hE hn (t := 0) (by omega)
    have ww := whole_on (on := onL (k + 1) l 0 (l k 1) 0 0) hn hE (by omega) e4 (fun i hi => by simp [evN, onL, hi]) (by simp [evN, onL]) (w := w)
    have x1 : IntKind.i64.wrap (0 + (w : Int)) = w := by rw [wrap_id (by omega) (by omega)]; omega
    have x2 : IntKind.i64.wrap ((stA (evN l) (k + 1)).b.pl + (w : Int)) = (stA (evN l) (k + 1)).b.pl + w := wrap_id (by omega) (by omega)
    have x3 : IntKind.i64.wrap (l k 1 + (w : Int)) = l k 1 + w := wrap_id (by omega) (by omega)
    have x4 : IntKind.i64.wrap (l k 1 + (w : Int) - 1) = l k 1 + w - 1 := wrap_id (by omega) (by omega)
    rw [w1]
    simp only [boS, rowP, pl_pf, wk, x1, x2, x3, x4, Int.toNat_natCast, frz_on, intR_on, agT_on, alive_eq, play_eq, whole_eq, at_eq, boS, rowP, pl_pf, plR_plT, atR_agT, wholeR_wholeRT, Try.f3, go_sem, ↓reduceIte, Nat.reduceAdd, Nat.reduceSub, Nat.reduceMul, Nat.reduceEqDiff, Nat.reduceLT, Nat.reduceLeDiff, Int.reduceToNat, Int.reduceLE, Int.reduceLT, Int.reduceEq, Int.reduceNeg, reduceCtorEq]
    have y0 : (stA (evN l) (k + 1)).b.pt 0 = (stA (evN l) (k + 1)).b.p0 := by unfold Bo.pt; first | rw [if_pos rfl] | rw [if_neg (by omega)]
    rw [y0] at w2 w3 w4
    have y1 : ((w : Int) = 0) ↔ (((stA (evN l) (k + 1)).b.p0.length : Nat) : Int) = 0 := by rw [w4, ← List.length_eq_zero_iff]; omega
    have y2 : (!(decide ((w : Int) = 0) == decide ((((stA (evN l) (k + 1)).b.p0.length : Nat) : Int) = 0))) = false := by
      by_cases q : (w : Int) = 0
      · rw [decide_eq_true q, decide_eq_true (y1.1 q)]; rfl
      · rw [decide_eq_false q, decide_eq_false (fun r => q (y1.2 r))]; rfl
    have key : w ≠ 0 → (if (stA (evN l) (k + 1)).b.pl = 1200 then 0 else (stA (evN l) (k + 1)).b.pl) + w ≤ 1200 → l k 1 + w ≤ 1048576 →
        ((stA (evN l) (k + 1)).b.per = 2 ∧ (agT (k + 1 + 1) (onL (k + 1) l 0 (l k 1) 0 0) (l k 1 + w)).2 = 9 ∧ (agT (k + 1 + 1) (onL (k + 1) l 0 (l k 1) 0 0) (l k 1 + w - 1)).2 = 9) ∨
        ((agT (k + 1 + 1) (onL (k + 1) l 0 (l k 1) 0 0) (l k 1 + w)).2 = 0 ∧ (agT (k + 1 + 1) (onL (k + 1) l 0 (l k 1) 0 0) (l k 1 + w - 1)).2 = 0 ∧ (((agT (k + 1 + 1) (onL (k + 1) l 0 (l k 1) 0 0) (l k 1 + w)).1.b.p0.length : Nat) : Int) = 0 ∧ (0 : Int) < (((agT (k + 1 + 1) (onL (k + 1) l 0 (l k 1) 0 0) (l k 1 + w - 1)).1.b.p0.length : Nat) : Int)) := fun a b c => by
      rcases ww a b c with ⟨h1, h2⟩ | h
      · exact .inl ⟨h1, h2 _, h2 _⟩
      · right
        have q1 := h w (by omega)
        have q2 := h (w - 1) (by omega)
        have es : (evN l (k + 1 - 1)).s = l k 1 := rfl
        rw [es] at q1 q2
        rw [show l k 1 + ((w - 1 : Nat) : Int) = l k 1 + w - 1 by omega] at q2
        refine ⟨q1.1, q2.1, ?_, ?_⟩
        · rw [q1.2.1, w2]; rfl
        · rw [q2.2.1]
          have := w3 (w - 1) (by omega)
          have := List.length_pos_iff.2 this
          omega
    clear ww
    refine spl_no (decide_eq_false (by omega)) ⟨by omega, spl_no y2 ⟨⟨by omega, by omega⟩, ?_⟩⟩
    refine spl_intro (fun f0 => ?_) (fun f0 => ?_)
    all_goals
      simp only [decide_eq_true_eq, decide_eq_false_iff_not] at f0
      refine spl_intro (fun _ => trivial) (fun f1 => spl_intro (fun _ => trivial) (fun f2 => spl_intro (fun _ => trivial) (fun f3 => ⟨by omega, by omega, spl_no (decide_eq_false (by omega)) ⟨by omega, by omega, ?_⟩⟩)))
      simp only [decide_eq_false_iff_not] at f1 f2 f3
      rcases key (by omega) (by first | (rw [if_pos f0]; omega) | (rw [if_neg f0]; omega)) (by omega) with ⟨h1, h2, h3⟩ | ⟨h1, h2, h3, h4⟩
      · simp [spl, h1, h2, h3]
      · simp only [h1, h2, h3, decide_eq_true h4]
        simp [spl]
  · rw [hT2]
    obtain ⟨w, w0, w1, w2, w3, w4⟩ := whole_st hE hn (t := 1) (by omega)
    have ww := whole_on (on := onL (k + 1) l 0 (l k 1) 0 0) hn hE (by omega) e4 (fun i hi => by simp [evN, onL, hi]) (by simp [evN, onL]) (w := w)
    have x1 : IntKind.i64.wrap (0 + (w : Int)) = w := by rw [wrap_id (by omega) (by omega)]; omega
    have x2 : IntKind.i64.wrap ((stA (evN l) (k + 1)).b.pl + (w : Int)) = (stA (evN l) (k + 1)).b.pl + w := wrap_id (by omega) (by omega)
    have x3 : IntKind.i64.wrap (l k 1 + (w : Int)) = l k 1 + w := wrap_id (by omega) (by omega)
    have x4 : IntKind.i64.wrap (l k 1 + (w : Int) - 1) = l k 1 + w - 1 := wrap_id (by omega) (by omega)
    rw [w1]
    simp only [boS, rowP, pl_pf, wk, x1, x2, x3, x4, Int.toNat_natCast, frz_on, intR_on, agT_on, alive_eq, play_eq, whole_eq, at_eq, boS, rowP, pl_pf, plR_plT, atR_agT, wholeR_wholeRT, Try.f3, go_sem, ↓reduceIte, Nat.reduceAdd, Nat.reduceSub, Nat.reduceMul, Nat.reduceEqDiff, Nat.reduceLT, Nat.reduceLeDiff, Int.reduceToNat, Int.reduceLE, Int.reduceLT, Int.reduceEq, Int.reduceNeg, reduceCtorEq]
    have y0 : (stA (evN l) (k + 1)).b.pt 1 = (stA (evN l) (k + 1)).b.p1 := by unfold Bo.pt; first | rw [if_pos rfl] | rw [if_neg (by omega)]
    rw [y0] at w2 w3 w4
    have y1 : ((w : Int) = 0) ↔ (((stA (evN l) (k + 1)).b.p1.length : Nat) : Int) = 0 := by rw [w4, ← List.length_eq_zero_iff]; omega
    have y2 : (!(decide ((w : Int) = 0) == decide ((((stA (evN l) (k + 1)).b.p1.length : Nat) : Int) = 0))) = false := by
      by_cases q : (w : Int) = 0
      · rw [decide_eq_true q, decide_eq_true (y1.1 q)]; rfl
      · rw [decide_eq_false q, decide_eq_false (fun r => q (y1.2 r))]; rfl
    have key : w ≠ 0 → (if (stA (evN l) (k + 1)).b.pl = 1200 then 0 else (stA (evN l) (k + 1)).b.pl) + w ≤ 1200 → l k 1 + w ≤ 1048576 →
        ((stA (evN l) (k + 1)).b.per = 2 ∧ (agT (k + 1 + 1) (onL (k + 1) l 0 (l k 1) 0 0) (l k 1 + w)).2 = 9 ∧ (agT (k + 1 + 1) (onL (k + 1) l 0 (l k 1) 0 0) (l k 1 + w - 1)).2 = 9) ∨
        ((agT (k + 1 + 1) (onL (k + 1) l 0 (l k 1) 0 0) (l k 1 + w)).2 = 0 ∧ (agT (k + 1 + 1) (onL (k + 1) l 0 (l k 1) 0 0) (l k 1 + w - 1)).2 = 0 ∧ (((agT (k + 1 + 1) (onL (k + 1) l 0 (l k 1) 0 0) (l k 1 + w)).1.b.p1.length : Nat) : Int) = 0 ∧ (0 : Int) < (((agT (k + 1 + 1) (onL (k + 1) l 0 (l k 1) 0 0) (l k 1 + w - 1)).1.b.p1.length : Nat) : Int)) := fun a b c => by
      rcases ww a b c with ⟨h1, h2⟩ | h
      · exact .inl ⟨h1, h2 _, h2 _⟩
      · right
        have q1 := h w (by omega)
        have q2 := h (w - 1) (by omega)
        have es : (evN l (k + 1 - 1)).s = l k 1 := rfl
        rw [es] at q1 q2
        rw [show l k 1 + ((w - 1 : Nat) : Int) = l k 1 + w - 1 by omega] at q2
        refine ⟨q1.1, q2.1, ?_, ?_⟩
        · rw [q1.2.2, w2]; rfl
        · rw [q2.2.2]
          have := w3 (w - 1) (by omega)
          have := List.length_pos_iff.2 this
          omega
    clear ww
    refine spl_no (decide_eq_false (by omega)) ⟨by omega, spl_no y2 ⟨⟨by omega, by omega⟩, ?_⟩⟩
    refine spl_intro (fun f0 => ?_) (fun f0 => ?_)
    all_goals
      simp only [decide_eq_true_eq, decide_eq_false_iff_not] at f0
      refine spl_intro (fun _ => trivial) (fun f1 => spl_intro (fun _ => trivial) (fun f2 => spl_intro (fun _ => trivial) (fun f3 => ⟨by omega, by omega, spl_no (decide_eq_false (by omega)) ⟨by omega, by omega, ?_⟩⟩)))
      simp only [decide_eq_false_iff_not] at f1 f2 f3
      rcases key (by omega) (by first | (rw [if_pos f0]; omega) | (rw [if_neg f0]; omega)) (by omega) with ⟨h1, h2, h3⟩ | ⟨h1, h2, h3, h4⟩
      · simp [spl, h1, h2, h3]
      · simp only [h1, h2, h3, decide_eq_true h4]
        simp [spl]
end Go.Eng
end

/- clock: ClockOwns. -/
section
namespace Go.Eng
open Go Go.RowKit Go.Proofs
set_option maxRecDepth 100000
set_option maxHeartbeats 4000000
attribute [local irreducible] OwnT DefS
set_option maxHeartbeats 20000000
def pick3 {α : Type} (x y z : α) : Nat → α
  | 0 => x
  | 1 => y
  | _ => z
theorem pick3_0 {α : Type} (x y z : α) : pick3 x y z 0 = x := rfl
theorem pick3_1 {α : Type} (x y z : α) : pick3 x y z 1 = y := rfl
theorem pick3_2 {α : Type} (x y z : α) : pick3 x y z 2 = z := rfl
theorem cat0_row (n : Nat) (A : Nat → Nat → SV) (f : Nat → Nat → SV) : ∀ (i j : Nat), i < n → j < 3 → catF 0 A f i j = f i j := fun i j _ _ => by
  unfold catF
  simp only [Nat.not_lt_zero, if_false, Nat.sub_zero]
theorem bdU {N M i : Nat} {F : Nat → Nat → SV} (h : ∀ i j, Bd N M (F i j)) (x c : Nat) : Bd N M (if x = i ∧ 2 ≤ c ∧ c < 3 then nth [.int .i64 (-1)] (c - 2) else F x c) := by
  split
  · rename_i q
    obtain rfl : c = 2 := by omega
    exact trivial
  · exact h x c
theorem at_frg {n : Nat} (hn : n ≤ 1000000) (l : Nat → Nat → Int) {to : Int} (h : HS) :
    CallsS Try.prog 14 [.row n 4 (fun i j => .int .i64 (l i j)), .int .i64 to] h (fun o h' => o = .ret (.tup [boS (atR n l to).1, .int .i64 (atR n l to).2]) ∧ h' = h) :=
  lend_ok at_base _ h (((4 = 4 ∧ IntR n 4 (fun i j => .int .i64 (l i j))) ∧ (n ≤ 1000000))) _ h (by simp only [lendS, frzA, at_eq, lendR, go_sem, ↓reduceIte, Nat.reduceAdd, Nat.reduceSub, Nat.reduceMul, Nat.reduceEqDiff, Nat.reduceLT, Nat.reduceLeDiff, Int.reduceToNat, Int.reduceLE, Int.reduceLT, Int.reduceEq, Int.reduceNeg, reduceCtorEq]) ⟨⟨rfl, fun i j _ _ => rfl⟩, hn⟩
def clockOwnsBase : BaseF := fun args => match args with
  | [.row n sz_l f_l, .int .i64 second, .agg [.int .i64 per, .int .i64 pd, .bool run, .int .i64 g0, .int .i64 g1, .row n0 sz_a0 f_a0, .row n1 sz_a1 f_a1, .row m0 sz_b0 f_b0, .row m1 sz_b1 f_b1], .int .i64 team] => some ((sz_l = 4 ∧ IntR n 4 f_l) ∧ (sz_a0 = 3 ∧ IntR n0 3 f_a0) ∧ (sz_a1 = 3 ∧ IntR n1 3 f_a1) ∧ (sz_b0 = 3 ∧ IntR m0 3 f_b0) ∧ (sz_b1 = 3 ∧ IntR m1 3 f_b1), .bool true)
  | _ => none
theorem clockOwns_eq (n : Nat) (sz_l : Nat) (f_l : Nat → Nat → SV) (second : Int) (per : Int) (pd : Int) (run : Bool) (g0 : Int) (g1 : Int) (n0 : Nat) (sz_a0 : Nat) (f_a0 : Nat → Nat → SV) (n1 : Nat) (sz_a1 : Nat) (f_a1 : Nat → Nat → SV) (m0 : Nat) (sz_b0 : Nat) (f_b0 : Nat → Nat → SV) (m1 : Nat) (sz_b1 : Nat) (f_b1 : Nat → Nat → SV) (team : Int) : clockOwnsBase [.row n sz_l f_l, .int .i64 second, .agg [.int .i64 per, .int .i64 pd, .bool run, .int .i64 g0, .int .i64 g1, .row n0 sz_a0 f_a0, .row n1 sz_a1 f_a1, .row m0 sz_b0 f_b0, .row m1 sz_b1 f_b1], .int .i64 team] = some ((sz_l = 4 ∧ IntR n 4 f_l) ∧ (sz_a0 = 3 ∧ IntR n0 3 f_a0) ∧ (sz_a1 = 3 ∧ IntR n1 3 f_a1) ∧ (sz_b0 = 3 ∧ IntR m0 3 f_b0) ∧ (sz_b1 = 3 ∧ IntR m1 3 f_b1), .bool true) := rfl
theorem clockOwns_base : Base Try.prog 9 clockOwnsBase := by
  intro args p v hq hp
  unfold clockOwnsBase at hq
  split at hq
  rotate_left
  · cases hq
  rename_i n sz_l f_l second per pd run g0 g1 n0 sz_a0 f_a0 n1 sz_a1 f_a1 m0 sz_b0 f_b0 m1 sz_b1 f_b1 team
  cases hq
  obtain ⟨⟨rfl, i_l⟩, ⟨rfl, i_a0⟩, ⟨rfl, i_a1⟩, ⟨rfl, i_b0⟩, ⟨rfl, i_b1⟩⟩ := hp
  refine base_of (C := cxn [14] [(25, withoutBase)] [] [(11, aliveBase), (13, wholeBase), (20, sameBase), (27, penEqBase)] [(9, 35, p9_35)] none) (cxn_ok ⟨without_base, trivial⟩ trivial ⟨alive_base, whole_base, same_base, penEq_base, trivial⟩) rfl (g := 9) (fn := Try.f9)
    (args' := [.row n 4 (rowF .i64 (ivf f_l)), .int .i64 second, .agg [.int .i64 per, .int .i64 pd, .bool run, .int .i64 g0, .int .i64 g1, .row n0 3 (rowF .i64 (ivf f_a0)), .row n1 3 (rowF .i64 (ivf f_a1)), .row m0 3 (rowF .i64 (ivf f_b0)), .row m1 3 (rowF .i64 (ivf f_b1))], .int .i64 team]) (fn_9) rfl 1000 (by
    simp only [BdL, Bd, and_self, and_true, true_and]
    exact ⟨(fun i j hi hj => by rw [i_l i j hi hj]; trivial), ⟨(fun i j hi hj => by rw [i_a0 i j hi hj]; trivial), (fun i j hi hj => by rw [i_a1 i j hi hj]; trivial), (fun i j hi hj => by rw [i_b0 i j hi hj]; trivial), (fun i j hi hj => by rw [i_b1 i j hi hj]; trivial)⟩⟩) ⟨SameD.int i_l, SameD.rfl' _, SameD.agg ⟨SameD.rfl' _, SameD.rfl' _, SameD.rfl' _, SameD.rfl' _, SameD.rfl' _, SameD.int i_a0, SameD.int i_a1, SameD.int i_b0, SameD.int i_b1, trivial⟩, SameD.rfl' _, trivial⟩ ?_
  generalize ivf f_l = l
  generalize ivf f_a0 = a0
  generalize ivf f_a1 = a1
  generalize ivf f_b0 = b0
  generalize ivf f_b1 = b1
  simp only [rowF_eq]
  simp only [alive_eq, whole_eq, same_eq, penEq_eq, without_eq, p9_35, boS, rowP, pl_pf, atR_agT, wholeR_wholeRT, Try.f9, go_sem, ↓reduceIte, Nat.reduceAdd, Nat.reduceSub, Nat.reduceMul, Nat.reduceEqDiff, Nat.reduceLT, Nat.reduceLeDiff, Int.reduceToNat, Int.reduceLE, Int.reduceLT, Int.reduceEq, Int.reduceNeg, reduceCtorEq]
  refine spl_intro (fun e1 => trivial) (fun e1 => ⟨by omega, spl_intro (fun e2 => trivial) (fun e2 => ⟨by omega, spl_intro (fun e3 => trivial) (fun e3 => ?_)⟩)⟩)
  have hn : n ≤ 60 := by simp only [decide_eq_false_iff_not] at e1; omega
  have hn0 : n0 ≤ 40 := by simp only [decide_eq_false_iff_not] at e2; omega
  have hn1 : n1 ≤ 40 := by simp only [decide_eq_false_iff_not] at e3; omega
  refine ⟨⟨by omega, by omega⟩, ?_⟩
  refine loop_ofH { t : Nat // t ≤ 2 } (fun t => [(47, .int .i64 (t.1 : Int)), (10, .ptr 1 0), (9, .vec 0 1), (8, .bool false), (6, .ptr 0 0), (3, .int .i64 team), (1, .int .i64 second), (0, .row n 4 fun i j => .int .i64 (l i j))]) (fun h _ => ⟨h.blks, [.live 1 35 4 n fun i j => .int .i64 (l i j), .dead, .dead, .dead, .dead]⟩) (fun t => 2 - t.1) (fun _ => ⟨rfl, rfl⟩) ⟨0, by omega⟩ (by (apply sub_of <;> simp only [go_sem, ↓reduceIte, Nat.reduceAdd, Nat.reduceSub, Nat.reduceMul, Nat.reduceEqDiff, Nat.reduceLT, Nat.reduceLeDiff, Int.reduceToNat, Int.reduceLE, Int.reduceLT, Int.reduceEq, Int.reduceNeg, reduceCtorEq] <;> (try simp [catF]) <;> (try exact fun j _ => Bd_nth (by simp [BdL, Bd]) j) <;> (try exact bd_setL (by simp [bdAs, BdL, Bd])) <;> (try exact nestF_bd _ _ _ _ _ _ _ _ _))) ?_
  rintro ⟨t, ht⟩
  obtain rfl | rfl | rfl : t = 0 ∨ t = 1 ∨ t = 2 := by omega
  · simp only [alive_eq, whole_eq, same_eq, penEq_eq, without_eq, p9_35, boS, rowP, pl_pf, atR_agT, wholeR_wholeRT, Try.f9, go_sem, ↓reduceIte, Nat.reduceAdd, Nat.reduceSub, Nat.reduceMul, Nat.reduceEqDiff, Nat.reduceLT, Nat.reduceLeDiff, Int.reduceToNat, Int.reduceLE, Int.reduceLT, Int.reduceEq, Int.reduceNeg, reduceCtorEq]
    refine spl_intro (fun _ => ⟨by omega, ⟨by omega, by omega⟩, by omega, ⟨⟨0 + 1, by omega⟩, by simp only []; omega, ?_⟩⟩) (fun h => absurd h (by simp))
    refine sub_fzB 5 1 5 rfl rfl rfl ?_
    apply sub_of <;> simp only [go_sem, ↓reduceIte, Nat.reduceAdd, Nat.reduceSub, Nat.reduceMul, Nat.reduceEqDiff, Nat.reduceLT, Nat.reduceLeDiff, Int.reduceToNat, Int.reduceLE, Int.reduceLT, Int.reduceEq, Int.reduceNeg, reduceCtorEq] <;> (try simp) <;> (try exact fun j _ => Bd_nth (by simp [BdL, Bd]) j) <;> (try exact bd_setL (by simp [bdAs, BdL, Bd])) <;> (try exact nestF_bd _ _ _ _ _ _ _ _ _)
    · rfl
    · exact cat0_row _ _ _
  · simp only [alive_eq, whole_eq, same_eq, penEq_eq, without_eq, p9_35, boS, rowP, pl_pf, atR_agT, wholeR_wholeRT, Try.f9, go_sem, ↓reduceIte, Nat.reduceAdd, Nat.reduceSub, Nat.reduceMul, Nat.reduceEqDiff, Nat.reduceLT, Nat.reduceLeDiff, Int.reduceToNat, Int.reduceLE, Int.reduceLT, Int.reduceEq, Int.reduceNeg, reduceCtorEq]
    refine spl_intro (fun _ => ⟨by omega, ⟨by omega, by omega⟩, by omega, ⟨⟨1 + 1, by omega⟩, by simp only []; omega, ?_⟩⟩) (fun h => absurd h (by simp))
    refine sub_fzB 5 1 6 rfl rfl rfl ?_
    apply sub_of <;> simp only [go_sem, ↓reduceIte, Nat.reduceAdd, Nat.reduceSub, Nat.reduceMul, Nat.reduceEqDiff, Nat.reduceLT, Nat.reduceLeDiff, Int.reduceToNat, Int.reduceLE, Int.reduceLT, Int.reduceEq, Int.reduceNeg, reduceCtorEq] <;> (try simp) <;> (try exact fun j _ => Bd_nth (by simp [BdL, Bd]) j) <;> (try exact bd_setL (by simp [bdAs, BdL, Bd])) <;> (try exact nestF_bd _ _ _ _ _ _ _ _ _)
    · rfl
    · exact cat0_row _ _ _
  · simp only [alive_eq, whole_eq, same_eq, penEq_eq, without_eq, p9_35, boS, rowP, pl_pf, atR_agT, wholeR_wholeRT, Try.f9, go_sem, ↓reduceIte, Nat.reduceAdd, Nat.reduceSub, Nat.reduceMul, Nat.reduceEqDiff, Nat.reduceLT, Nat.reduceLeDiff, Int.reduceToNat, Int.reduceLE, Int.reduceLT, Int.reduceEq, Int.reduceNeg, reduceCtorEq]
    refine spl_no (by decide) ?_
    unfold callS
    refine calls_mono ?_ (at_own (by omega) l _)
    have hsm := agT_sm n l second
    unfold Bo.Sm at hsm
    generalize hX : agT n l second = X
    obtain ⟨⟨A, nw, ot⟩, er⟩ := X
    rw [hX] at hsm
    simp only at hsm
    rintro o h' (⟨v, rfl, rfl⟩ | ⟨v, rfl, rfl⟩)
    · simp only [ownA, lenV, lenB, appV, vecL, hX, alive_eq, whole_eq, same_eq, penEq_eq, without_eq, p9_35, boS, rowP, pl_pf, atR_agT, wholeR_wholeRT, Try.f9, go_sem, ↓reduceIte, Nat.reduceAdd, Nat.reduceSub, Nat.reduceMul, Nat.reduceEqDiff, Nat.reduceLT, Nat.reduceLeDiff, Int.reduceToNat, Int.reduceLE, Int.reduceLT, Int.reduceEq, Int.reduceNeg, reduceCtorEq]
      refine loop_ofH { t : Nat // t ≤ 2 } (fun t => [(67, .int .i64 (t.1 : Int)), (12, .ptr 2 0), (14, .ptr 3 0), (13, .int .i64 er), (10, .ptr 1 0), (9, .vec 0 1), (8, .bool false), (6, .ptr 0 0), (3, .int .i64 team), (1, .int .i64 second), (0, .row n 4 fun i j => .int .i64 (l i j))]) (fun h t => ⟨[.live 28 [.int .i64 per, .int .i64 pd, .bool run, .int .i64 g0, .int .i64 g1, .row n0 3 fun i j => .int .i64 (a0 i j), .row n1 3 fun i j => .int .i64 (a1 i j), .row m0 3 fun i j => .int .i64 (b0 i j), .row m1 3 fun i j => .int .i64 (b1 i j)], .live 28 [.int .i64 per, .int .i64 pd, .bool run, .int .i64 g0, .int .i64 g1, .row n0 3 fun i j => .int .i64 (a0 i j), .row n1 3 fun i j => .int .i64 (a1 i j), .row m0 3 fun i j => .int .i64 (b0 i j), .row m1 3 fun i j => .int .i64 (b1 i j)], .live 28 [.int .i64 A.per, .int .i64 A.pl, .bool A.run, .int .i64 A.g0, .int .i64 A.g1, pick3 (.vec 17 v.a) .any .any t.1, pick3 (.vec 18 v.b) (.vec 18 v.b) .any t.1, pick3 (.vec 19 v.c) .any .any t.1, pick3 (.vec 20 v.d) (.vec 20 v.d) .any t.1], .live 28 [.int .i64 A.per, .int .i64 A.pl, .bool A.run, .int .i64 A.g0, .int .i64 A.g1, pick3 .any (.row A.p0.length 3 fun i j => .int .i64 (pf A.p0 i j)) (.row A.p0.length 3 fun i j => .int .i64 (pf A.p0 i j)) t.1, pick3 .any .any (.row A.p1.length 3 fun i j => .int .i64 (pf A.p1 i j)) t.1, pick3 .any (.row A.m0.length 3 fun i j => .int .i64 (pf A.m0 i j)) (.row A.m0.length 3 fun i j => .int .i64 (pf A.m0 i j)) t.1, pick3 .any .any (.row A.m1.length 3 fun i j => .int .i64 (pf A.m1 i j)) t.1]], [.live 1 35 4 n fun i j => .int .i64 (l i j), .dead, .dead, .dead, .dead, .dead, .dead, .dead, .dead, .dead, .dead, .dead, .dead, .dead, .dead, .dead, .dead, pick3 (.live v.a 55 3 A.p0.length fun i j => .int .i64 (pf A.p0 i j)) .dead .dead t.1, pick3 (.live v.b 55 3 A.p1.length fun i j => .int .i64 (pf A.p1 i j)) (.live v.b 55 3 A.p1.length fun i j => .int .i64 (pf A.p1 i j)) .dead t.1, pick3 (.live v.c 55 3 A.m0.length fun i j => .int .i64 (pf A.m0 i j)) .dead .dead t.1, pick3 (.live v.d 55 3 A.m1.length fun i j => .int .i64 (pf A.m1 i j)) (.live v.d 55 3 A.m1.length fun i j => .int .i64 (pf A.m1 i j)) .dead t.1, .dead, .dead, .dead, .dead, .dead, .dead, .dead, .dead]⟩) (fun t => 2 - t.1) (fun _ => ⟨rfl, rfl⟩) ⟨0, by omega⟩ (by simp only [pick3_0, pick3_1, pick3_2]; (apply sub_of <;> simp only [go_sem, ↓reduceIte, Nat.reduceAdd, Nat.reduceSub, Nat.reduceMul, Nat.reduceEqDiff, Nat.reduceLT, Nat.reduceLeDiff, Int.reduceToNat, Int.reduceLE, Int.reduceLT, Int.reduceEq, Int.reduceNeg, reduceCtorEq] <;> (try simp [catF]) <;> (try exact fun j _ => Bd_nth (by simp [BdL, Bd]) j) <;> (try exact bd_setL (by simp [bdAs, BdL, Bd])) <;> (try exact nestF_bd _ _ _ _ _ _ _ _ _))) ?_
      rintro ⟨t, ht⟩
      obtain rfl | rfl | rfl : t = 0 ∨ t = 1 ∨ t = 2 := by omega
      · simp only [pick3_0, pick3_1, pick3_2, alive_eq, whole_eq, same_eq, penEq_eq, without_eq, p9_35, boS, rowP, pl_pf, atR_agT, wholeR_wholeRT, Try.f9, go_sem, ↓reduceIte, Nat.reduceAdd, Nat.reduceSub, Nat.reduceMul, Nat.reduceEqDiff, Nat.reduceLT, Nat.reduceLeDiff, Int.reduceToNat, Int.reduceLE, Int.reduceLT, Int.reduceEq, Int.reduceNeg, reduceCtorEq]
        refine spl_intro (fun _ => ⟨by omega, ⟨by omega, by omega⟩, by omega, by omega, ⟨by omega, by omega⟩, by omega, by omega, ?_⟩) (fun h => absurd h (by simp))
        refine loop_ofH { x : Nat × (Nat → Nat → SV) // x.1 ≤ A.p0.length ∧ ∀ i j, Bd 4 31 (x.2 i j) } (fun x => [(93, .int .i64 (x.1.1 : Int)), (92, .int .i64 (A.p0.length : Int)), (15, .int .i64 ((0 : Nat) : Int)), (67, .int .i64 ((0 : Nat) : Int)), (12, .ptr 2 0), (14, .ptr 3 0), (13, .int .i64 er), (10, .ptr 1 0), (9, .vec 0 1), (8, .bool false), (6, .ptr 0 0), (3, .int .i64 team), (1, .int .i64 second), (0, .row n 4 fun i j => .int .i64 (l i j))]) (fun h x => ⟨[.live 28 [.int .i64 per, .int .i64 pd, .bool run, .int .i64 g0, .int .i64 g1, .row n0 3 fun i j => .int .i64 (a0 i j), .row n1 3 fun i j => .int .i64 (a1 i j), .row m0 3 fun i j => .int .i64 (b0 i j), .row m1 3 fun i j => .int .i64 (b1 i j)], .live 28 [.int .i64 per, .int .i64 pd, .bool run, .int .i64 g0, .int .i64 g1, .row n0 3 fun i j => .int .i64 (a0 i j), .row n1 3 fun i j => .int .i64 (a1 i j), .row m0 3 fun i j => .int .i64 (b0 i j), .row m1 3 fun i j => .int .i64 (b1 i j)], .live 28 [.int .i64 A.per, .int .i64 A.pl, .bool A.run, .int .i64 A.g0, .int .i64 A.g1, .vec 17 v.a, .vec 18 v.b, .vec 19 v.c, .vec 20 v.d], .live 28 [.int .i64 A.per, .int .i64 A.pl, .bool A.run, .int .i64 A.g0, .int .i64 A.g1, (.row A.p0.length 3 fun i j => .int .i64 (pf A.p0 i j)), (.any), (.row A.m0.length 3 fun i j => .int .i64 (pf A.m0 i j)), (.any)]], [(.live 1 35 4 n fun i j => .int .i64 (l i j)), (.dead), (.dead), (.dead), (.dead), (.dead), (.dead), (.dead), (.dead), (.dead), (.dead), (.dead), (.dead), (.dead), (.dead), (.dead), (.dead), (.live v.a 55 3 A.p0.length x.1.2), (.live v.b 55 3 A.p1.length fun i j => .int .i64 (pf A.p1 i j)), (.live v.c 55 3 A.m0.length fun i j => .int .i64 (pf A.m0 i j)), (.live v.d 55 3 A.m1.length fun i j => .int .i64 (pf A.m1 i j)), (.dead), (.dead), (.dead), (.dead), (.dead), (.dead), (.dead), (.dead), (.dead), (.dead)]⟩) (fun x => A.p0.length - x.1.1) (fun _ => ⟨rfl, rfl⟩) ⟨(0, fun i j => .int .i64 (pf A.p0 i j)), Nat.zero_le _, fun _ _ => trivial⟩ ?_ ?_
        · refine sub_fzB 29 3 5 rfl rfl rfl (sub_fzB 30 3 7 rfl rfl rfl ?_)
          apply sub_of <;> simp only [go_sem, ↓reduceIte, Nat.reduceAdd, Nat.reduceSub, Nat.reduceMul, Nat.reduceEqDiff, Nat.reduceLT, Nat.reduceLeDiff, Int.reduceToNat, Int.reduceLE, Int.reduceLT, Int.reduceEq, Int.reduceNeg, reduceCtorEq] <;> (try simp) <;> (try exact fun j _ => Bd_nth (by simp [BdL, Bd]) j) <;> (try exact bd_setL (by simp [bdAs, BdL, Bd])) <;> (try exact nestF_bd _ _ _ _ _ _ _ _ _)
          all_goals first | rfl | exact cat0_row _ _ _ | exact ⟨cat0_row _ _ _, cat0_row _ _ _⟩
        rintro ⟨⟨i, F⟩, hi, hF⟩
        simp only at hi hF
        have wi : IntKind.i64.wrap ((i : Int) + 1) = ((i + 1 : Nat) : Int) := by rw [wrap_id (by omega) (by omega)]; omega
        simp only [wi, pick3_0, pick3_1, pick3_2, Int.toNat_natCast, alive_eq, whole_eq, same_eq, penEq_eq, without_eq, p9_35, boS, rowP, pl_pf, atR_agT, wholeR_wholeRT, Try.f9, go_sem, ↓reduceIte, Nat.reduceAdd, Nat.reduceSub, Nat.reduceMul, Nat.reduceEqDiff, Nat.reduceLT, Nat.reduceLeDiff, Int.reduceToNat, Int.reduceLE, Int.reduceLT, Int.reduceEq, Int.reduceNeg, reduceCtorEq]
        refine spl_intro (fun f1 => ?_) (fun f1 => ⟨by omega, ?_⟩)
        · simp only [decide_eq_true_eq] at f1
          refine ⟨by omega, by omega, by omega, ⟨⟨(i + 1, fun x c => if x = i ∧ 2 ≤ c ∧ c < 3 then nth [.int .i64 (-1)] (c - 2) else F x c), by simp only []; omega, bdU hF⟩, by simp only []; omega, ?_⟩⟩
          apply sub_of <;> simp only [wi, go_sem, ↓reduceIte, Nat.reduceAdd, Nat.reduceSub, Nat.reduceMul, Nat.reduceEqDiff, Nat.reduceLT, Nat.reduceLeDiff, Int.reduceToNat, Int.reduceLE, Int.reduceLT, Int.reduceEq, Int.reduceNeg, reduceCtorEq] <;> (try simp) <;> (try exact fun j _ => Bd_nth (by simp [BdL, Bd]) j) <;> (try exact bd_setL (by simp [bdAs, BdL, Bd])) <;> (try exact nestF_bd _ _ _ _ _ _ _ _ _)
          all_goals first | rfl | exact fun a c _ _ => bdU hF a c
        refine loop_ofH { x : Nat × (Nat → Nat → SV) // x.1 ≤ A.m0.length ∧ ∀ i j, Bd 4 31 (x.2 i j) } (fun x => [(109, .int .i64 (x.1.1 : Int)), (108, .int .i64 (A.m0.length : Int)), (15, .int .i64 ((0 : Nat) : Int)), (67, .int .i64 ((0 : Nat) : Int)), (12, .ptr 2 0), (14, .ptr 3 0), (13, .int .i64 er), (10, .ptr 1 0), (9, .vec 0 1), (8, .bool false), (6, .ptr 0 0), (3, .int .i64 team), (1, .int .i64 second), (0, .row n 4 fun i j => .int .i64 (l i j))]) (fun h x => ⟨[.live 28 [.int .i64 per, .int .i64 pd, .bool run, .int .i64 g0, .int .i64 g1, .row n0 3 fun i j => .int .i64 (a0 i j), .row n1 3 fun i j => .int .i64 (a1 i j), .row m0 3 fun i j => .int .i64 (b0 i j), .row m1 3 fun i j => .int .i64 (b1 i j)], .live 28 [.int .i64 per, .int .i64 pd, .bool run, .int .i64 g0, .int .i64 g1, .row n0 3 fun i j => .int .i64 (a0 i j), .row n1 3 fun i j => .int .i64 (a1 i j), .row m0 3 fun i j => .int .i64 (b0 i j), .row m1 3 fun i j => .int .i64 (b1 i j)], .live 28 [.int .i64 A.per, .int .i64 A.pl, .bool A.run, .int .i64 A.g0, .int .i64 A.g1, .any, .vec 18 v.b, .vec 19 v.c, .vec 20 v.d], .live 28 [.int .i64 A.per, .int .i64 A.pl, .bool A.run, .int .i64 A.g0, .int .i64 A.g1, (.row A.p0.length 3 fun i j => .int .i64 (pf A.p0 i j)), (.any), (.row A.m0.length 3 fun i j => .int .i64 (pf A.m0 i j)), (.any)]], [(.live 1 35 4 n fun i j => .int .i64 (l i j)), (.dead), (.dead), (.dead), (.dead), (.dead), (.dead), (.dead), (.dead), (.dead), (.dead), (.dead), (.dead), (.dead), (.dead), (.dead), (.dead), (.dead), (.live v.b 55 3 A.p1.length fun i j => .int .i64 (pf A.p1 i j)), (.live v.c 55 3 A.m0.length x.1.2), (.live v.d 55 3 A.m1.length fun i j => .int .i64 (pf A.m1 i j)), (.dead), (.dead), (.dead), (.dead), (.dead), (.dead), (.dead), (.dead), (.dead), (.dead)]⟩) (fun x => A.m0.length - x.1.1) (fun _ => ⟨rfl, rfl⟩) ⟨(0, fun i j => .int .i64 (pf A.m0 i j)), Nat.zero_le _, fun _ _ => trivial⟩ ?_ ?_
        · apply sub_of <;> simp only [go_sem, ↓reduceIte, Nat.reduceAdd, Nat.reduceSub, Nat.reduceMul, Nat.reduceEqDiff, Nat.reduceLT, Nat.reduceLeDiff, Int.reduceToNat, Int.reduceLE, Int.reduceLT, Int.reduceEq, Int.reduceNeg, reduceCtorEq] <;> (try simp) <;> (try exact fun j _ => Bd_nth (by simp [BdL, Bd]) j) <;> (try exact bd_setL (by simp [bdAs, BdL, Bd])) <;> (try exact nestF_bd _ _ _ _ _ _ _ _ _)
          all_goals rfl
        clear hi wi f1 hF
        rintro ⟨⟨i, F⟩, hi, hF⟩
        simp only at hi hF
        have wi : IntKind.i64.wrap ((i : Int) + 1) = ((i + 1 : Nat) : Int) := by rw [wrap_id (by omega) (by omega)]; omega
        simp only [wi, pick3_0, pick3_1, pick3_2, Int.toNat_natCast, alive_eq, whole_eq, same_eq, penEq_eq, without_eq, p9_35, boS, rowP, pl_pf, atR_agT, wholeR_wholeRT, Try.f9, go_sem, ↓reduceIte, Nat.reduceAdd, Nat.reduceSub, Nat.reduceMul, Nat.reduceEqDiff, Nat.reduceLT, Nat.reduceLeDiff, Int.reduceToNat, Int.reduceLE, Int.reduceLT, Int.reduceEq, Int.reduceNeg, reduceCtorEq]
        refine spl_intro (fun f1 => ?_) (fun f1 => ?_)
        · simp only [decide_eq_true_eq] at f1
          refine ⟨by omega, by omega, by omega, ⟨⟨(i + 1, fun x c => if x = i ∧ 2 ≤ c ∧ c < 3 then nth [.int .i64 (-1)] (c - 2) else F x c), by simp only []; omega, bdU hF⟩, by simp only []; omega, ?_⟩⟩
          apply sub_of <;> simp only [wi, go_sem, ↓reduceIte, Nat.reduceAdd, Nat.reduceSub, Nat.reduceMul, Nat.reduceEqDiff, Nat.reduceLT, Nat.reduceLeDiff, Int.reduceToNat, Int.reduceLE, Int.reduceLT, Int.reduceEq, Int.reduceNeg, reduceCtorEq] <;> (try simp) <;> (try exact fun j _ => Bd_nth (by simp [BdL, Bd]) j) <;> (try exact bd_setL (by simp [bdAs, BdL, Bd])) <;> (try exact nestF_bd _ _ _ _ _ _ _ _ _)
          all_goals first | rfl | exact fun a c _ _ => bdU hF a c
        · refine ⟨⟨0 + 1, by omega⟩, by simp only []; omega, ?_⟩
          apply sub_of <;> simp only [wi, pick3_0, pick3_1, pick3_2, go_sem, ↓reduceIte, Nat.reduceAdd, Nat.reduceSub, Nat.reduceMul, Nat.reduceEqDiff, Nat.reduceLT, Nat.reduceLeDiff, Int.reduceToNat, Int.reduceLE, Int.reduceLT, Int.reduceEq, Int.reduceNeg, reduceCtorEq] <;> (try simp) <;> (try exact fun j _ => Bd_nth (by simp [BdL, Bd]) j) <;> (try exact bd_setL (by simp [bdAs, BdL, Bd])) <;> (try exact nestF_bd _ _ _ _ _ _ _ _ _)
          all_goals rfl
      · simp only [pick3_0, pick3_1, pick3_2, alive_eq, whole_eq, same_eq, penEq_eq, without_eq, p9_35, boS, rowP, pl_pf, atR_agT, wholeR_wholeRT, Try.f9, go_sem, ↓reduceIte, Nat.reduceAdd, Nat.reduceSub, Nat.reduceMul, Nat.reduceEqDiff, Nat.reduceLT, Nat.reduceLeDiff, Int.reduceToNat, Int.reduceLE, Int.reduceLT, Int.reduceEq, Int.reduceNeg, reduceCtorEq]
        refine spl_intro (fun _ => ⟨by omega, ⟨by omega, by omega⟩, by omega, by omega, ⟨by omega, by omega⟩, by omega, by omega, ?_⟩) (fun h => absurd h (by simp))
        refine loop_ofH { x : Nat × (Nat → Nat → SV) // x.1 ≤ A.p1.length ∧ ∀ i j, Bd 4 31 (x.2 i j) } (fun x => [(93, .int .i64 (x.1.1 : Int)), (92, .int .i64 (A.p1.length : Int)), (15, .int .i64 ((1 : Nat) : Int)), (67, .int .i64 ((1 : Nat) : Int)), (12, .ptr 2 0), (14, .ptr 3 0), (13, .int .i64 er), (10, .ptr 1 0), (9, .vec 0 1), (8, .bool false), (6, .ptr 0 0), (3, .int .i64 team), (1, .int .i64 second), (0, .row n 4 fun i j => .int .i64 (l i j))]) (fun h x => ⟨[.live 28 [.int .i64 per, .int .i64 pd, .bool run, .int .i64 g0, .int .i64 g1, .row n0 3 fun i j => .int .i64 (a0 i j), .row n1 3 fun i j => .int .i64 (a1 i j), .row m0 3 fun i j => .int .i64 (b0 i j), .row m1 3 fun i j => .int .i64 (b1 i j)], .live 28 [.int .i64 per, .int .i64 pd, .bool run, .int .i64 g0, .int .i64 g1, .row n0 3 fun i j => .int .i64 (a0 i j), .row n1 3 fun i j => .int .i64 (a1 i j), .row m0 3 fun i j => .int .i64 (b0 i j), .row m1 3 fun i j => .int .i64 (b1 i j)], .live 28 [.int .i64 A.per, .int .i64 A.pl, .bool A.run, .int .i64 A.g0, .int .i64 A.g1, .any, .vec 18 v.b, .any, .vec 20 v.d], .live 28 [.int .i64 A.per, .int .i64 A.pl, .bool A.run, .int .i64 A.g0, .int .i64 A.g1, (.row A.p0.length 3 fun i j => .int .i64 (pf A.p0 i j)), (.row A.p1.length 3 fun i j => .int .i64 (pf A.p1 i j)), (.row A.m0.length 3 fun i j => .int .i64 (pf A.m0 i j)), (.row A.m1.length 3 fun i j => .int .i64 (pf A.m1 i j))]], [(.live 1 35 4 n fun i j => .int .i64 (l i j)), (.dead), (.dead), (.dead), (.dead), (.dead), (.dead), (.dead), (.dead), (.dead), (.dead), (.dead), (.dead), (.dead), (.dead), (.dead), (.dead), (.dead), (.live v.b 55 3 A.p1.length x.1.2), (.dead), (.live v.d 55 3 A.m1.length fun i j => .int .i64 (pf A.m1 i j)), (.dead), (.dead), (.dead), (.dead), (.dead), (.dead), (.dead), (.dead), (.dead), (.dead)]⟩) (fun x => A.p1.length - x.1.1) (fun _ => ⟨rfl, rfl⟩) ⟨(0, fun i j => .int .i64 (pf A.p1 i j)), Nat.zero_le _, fun _ _ => trivial⟩ ?_ ?_
        · refine sub_fzB 29 3 6 rfl rfl rfl (sub_fzB 30 3 8 rfl rfl rfl ?_)
          apply sub_of <;> simp only [go_sem, ↓reduceIte, Nat.reduceAdd, Nat.reduceSub, Nat.reduceMul, Nat.reduceEqDiff, Nat.reduceLT, Nat.reduceLeDiff, Int.reduceToNat, Int.reduceLE, Int.reduceLT, Int.reduceEq, Int.reduceNeg, reduceCtorEq] <;> (try simp) <;> (try exact fun j _ => Bd_nth (by simp [BdL, Bd]) j) <;> (try exact bd_setL (by simp [bdAs, BdL, Bd])) <;> (try exact nestF_bd _ _ _ _ _ _ _ _ _)
          all_goals first | rfl | exact cat0_row _ _ _ | exact ⟨cat0_row _ _ _, cat0_row _ _ _⟩
        rintro ⟨⟨i, F⟩, hi, hF⟩
        simp only at hi hF
        have wi : IntKind.i64.wrap ((i : Int) + 1) = ((i + 1 : Nat) : Int) := by rw [wrap_id (by omega) (by omega)]; omega
        simp only [wi, pick3_0, pick3_1, pick3_2, Int.toNat_natCast, alive_eq, whole_eq, same_eq, penEq_eq, without_eq, p9_35, boS, rowP, pl_pf, atR_agT, wholeR_wholeRT, Try.f9, go_sem, ↓reduceIte, Nat.reduceAdd, Nat.reduceSub, Nat.reduceMul, Nat.reduceEqDiff, Nat.reduceLT, Nat.reduceLeDiff, Int.reduceToNat, Int.reduceLE, Int.reduceLT, Int.reduceEq, Int.reduceNeg, reduceCtorEq]
        refine spl_intro (fun f1 => ?_) (fun f1 => ⟨by omega, ?_⟩)
        · simp only [decide_eq_true_eq] at f1
          refine ⟨by omega, by omega, by omega, ⟨⟨(i + 1, fun x c => if x = i ∧ 2 ≤ c ∧ c < 3 then nth [.int .i64 (-1)] (c - 2) else F x c), by simp only []; omega, bdU hF⟩, by simp only []; omega, ?_⟩⟩
          apply sub_of <;> simp only [wi, go_sem, ↓reduceIte, Nat.reduceAdd, Nat.reduceSub, Nat.reduceMul, Nat.reduceEqDiff, Nat.reduceLT, Nat.reduceLeDiff, Int.reduceToNat, Int.reduceLE, Int.reduceLT, Int.reduceEq, Int.reduceNeg, reduceCtorEq] <;> (try simp) <;> (try exact fun j _ => Bd_nth (by simp [BdL, Bd]) j) <;> (try exact bd_setL (by simp [bdAs, BdL, Bd])) <;> (try exact nestF_bd _ _ _ _ _ _ _ _ _)
          all_goals first | rfl | exact fun a c _ _ => bdU hF a c
        refine loop_ofH { x : Nat × (Nat → Nat → SV) // x.1 ≤ A.m1.length ∧ ∀ i j, Bd 4 31 (x.2 i j) } (fun x => [(109, .int .i64 (x.1.1 : Int)), (108, .int .i64 (A.m1.length : Int)), (15, .int .i64 ((1 : Nat) : Int)), (67, .int .i64 ((1 : Nat) : Int)), (12, .ptr 2 0), (14, .ptr 3 0), (13, .int .i64 er), (10, .ptr 1 0), (9, .vec 0 1), (8, .bool false), (6, .ptr 0 0), (3, .int .i64 team), (1, .int .i64 second), (0, .row n 4 fun i j => .int .i64 (l i j))]) (fun h x => ⟨[.live 28 [.int .i64 per, .int .i64 pd, .bool run, .int .i64 g0, .int .i64 g1, .row n0 3 fun i j => .int .i64 (a0 i j), .row n1 3 fun i j => .int .i64 (a1 i j), .row m0 3 fun i j => .int .i64 (b0 i j), .row m1 3 fun i j => .int .i64 (b1 i j)], .live 28 [.int .i64 per, .int .i64 pd, .bool run, .int .i64 g0, .int .i64 g1, .row n0 3 fun i j => .int .i64 (a0 i j), .row n1 3 fun i j => .int .i64 (a1 i j), .row m0 3 fun i j => .int .i64 (b0 i j), .row m1 3 fun i j => .int .i64 (b1 i j)], .live 28 [.int .i64 A.per, .int .i64 A.pl, .bool A.run, .int .i64 A.g0, .int .i64 A.g1, .any, .any, .any, .vec 20 v.d], .live 28 [.int .i64 A.per, .int .i64 A.pl, .bool A.run, .int .i64 A.g0, .int .i64 A.g1, (.row A.p0.length 3 fun i j => .int .i64 (pf A.p0 i j)), (.row A.p1.length 3 fun i j => .int .i64 (pf A.p1 i j)), (.row A.m0.length 3 fun i j => .int .i64 (pf A.m0 i j)), (.row A.m1.length 3 fun i j => .int .i64 (pf A.m1 i j))]], [(.live 1 35 4 n fun i j => .int .i64 (l i j)), (.dead), (.dead), (.dead), (.dead), (.dead), (.dead), (.dead), (.dead), (.dead), (.dead), (.dead), (.dead), (.dead), (.dead), (.dead), (.dead), (.dead), (.dead), (.dead), (.live v.d 55 3 A.m1.length x.1.2), (.dead), (.dead), (.dead), (.dead), (.dead), (.dead), (.dead), (.dead), (.dead), (.dead)]⟩) (fun x => A.m1.length - x.1.1) (fun _ => ⟨rfl, rfl⟩) ⟨(0, fun i j => .int .i64 (pf A.m1 i j)), Nat.zero_le _, fun _ _ => trivial⟩ ?_ ?_
        · apply sub_of <;> simp only [go_sem, ↓reduceIte, Nat.reduceAdd, Nat.reduceSub, Nat.reduceMul, Nat.reduceEqDiff, Nat.reduceLT, Nat.reduceLeDiff, Int.reduceToNat, Int.reduceLE, Int.reduceLT, Int.reduceEq, Int.reduceNeg, reduceCtorEq] <;> (try simp) <;> (try exact fun j _ => Bd_nth (by simp [BdL, Bd]) j) <;> (try exact bd_setL (by simp [bdAs, BdL, Bd])) <;> (try exact nestF_bd _ _ _ _ _ _ _ _ _)
          all_goals rfl
        clear hi wi f1 hF
        rintro ⟨⟨i, F⟩, hi, hF⟩
        simp only at hi hF
        have wi : IntKind.i64.wrap ((i : Int) + 1) = ((i + 1 : Nat) : Int) := by rw [wrap_id (by omega) (by omega)]; omega
        simp only [wi, pick3_0, pick3_1, pick3_2, Int.toNat_natCast, alive_eq, whole_eq, same_eq, penEq_eq, without_eq, p9_35, boS, rowP, pl_pf, atR_agT, wholeR_wholeRT, Try.f9, go_sem, ↓reduceIte, Nat.reduceAdd, Nat.reduceSub, Nat.reduceMul, Nat.reduceEqDiff, Nat.reduceLT, Nat.reduceLeDiff, Int.reduceToNat, Int.reduceLE, Int.reduceLT, Int.reduceEq, Int.reduceNeg, reduceCtorEq]
        refine spl_intro (fun f1 => ?_) (fun f1 => ?_)
        · simp only [decide_eq_true_eq] at f1
          refine ⟨by omega, by omega, by omega, ⟨⟨(i + 1, fun x c => if x = i ∧ 2 ≤ c ∧ c < 3 then nth [.int .i64 (-1)] (c - 2) else F x c), by simp only []; omega, bdU hF⟩, by simp only []; omega, ?_⟩⟩
          apply sub_of <;> simp only [wi, go_sem, ↓reduceIte, Nat.reduceAdd, Nat.reduceSub, Nat.reduceMul, Nat.reduceEqDiff, Nat.reduceLT, Nat.reduceLeDiff, Int.reduceToNat, Int.reduceLE, Int.reduceLT, Int.reduceEq, Int.reduceNeg, reduceCtorEq] <;> (try simp) <;> (try exact fun j _ => Bd_nth (by simp [BdL, Bd]) j) <;> (try exact bd_setL (by simp [bdAs, BdL, Bd])) <;> (try exact nestF_bd _ _ _ _ _ _ _ _ _)
          all_goals first | rfl | exact fun a c _ _ => bdU hF a c
        · refine ⟨⟨1 + 1, by omega⟩, by simp only []; omega, ?_⟩
          apply sub_of <;> simp only [wi, pick3_0, pick3_1, pick3_2, go_sem, ↓reduceIte, Nat.reduceAdd, Nat.reduceSub, Nat.reduceMul, Nat.reduceEqDiff, Nat.reduceLT, Nat.reduceLeDiff, Int.reduceToNat, Int.reduceLE, Int.reduceLT, Int.reduceEq, Int.reduceNeg, reduceCtorEq] <;> (try simp) <;> (try exact fun j _ => Bd_nth (by simp [BdL, Bd]) j) <;> (try exact bd_setL (by simp [bdAs, BdL, Bd])) <;> (try exact nestF_bd _ _ _ _ _ _ _ _ _)
          all_goals rfl
      · have d2 : decide (((2 : Nat) : Int) < 2) = false := by decide
        simp only [d2, pick3_0, pick3_1, pick3_2, alive_eq, whole_eq, same_eq, penEq_eq, without_eq, p9_35, boS, rowP, pl_pf, atR_agT, wholeR_wholeRT, Try.f9, go_sem, ↓reduceIte, Nat.reduceAdd, Nat.reduceSub, Nat.reduceMul, Nat.reduceEqDiff, Nat.reduceLT, Nat.reduceLeDiff, Int.reduceToNat, Int.reduceLE, Int.reduceLT, Int.reduceEq, Int.reduceNeg, reduceCtorEq]
        refine ⟨⟨by omega, by omega⟩, ⟨by omega, by omega⟩, by decide, by omega, ?_⟩
        unfold callS
        refine calls_mono ?_ (at_frg (by omega) l _)
        rintro o h' ⟨rfl, rfl⟩
        simp only [hX, alive_eq, whole_eq, same_eq, penEq_eq, without_eq, p9_35, boS, rowP, pl_pf, atR_agT, wholeR_wholeRT, Try.f9, go_sem, ↓reduceIte, Nat.reduceAdd, Nat.reduceSub, Nat.reduceMul, Nat.reduceEqDiff, Nat.reduceLT, Nat.reduceLeDiff, Int.reduceToNat, Int.reduceLE, Int.reduceLT, Int.reduceEq, Int.reduceNeg, reduceCtorEq]
        refine loop_ofH { i : Nat // i ≤ n } (fun i => [(146, .int .i64 (i.1 : Int)), (145, .int .i64 (n : Int)), (144, .vec 0 1), (23, .int .i64 er), (22, .ptr 4 0), (21, .int .i64 (wholeRT (Eng.pl n0 a0) (Eng.pl n1 a1) team).2), (20, .int .i64 (wholeRT (Eng.pl n0 a0) (Eng.pl n1 a1) team).1), (19, .int .i64 (wholeRT (Eng.pl n0 a0) (Eng.pl n1 a1) team).2), (18, .int .i64 (wholeRT (Eng.pl n0 a0) (Eng.pl n1 a1) team).1), (14, .ptr 3 0), (13, .int .i64 er), (10, .ptr 1 0), (9, .vec 0 1), (8, .bool false), (6, .ptr 0 0), (3, .int .i64 team), (1, .int .i64 second), (0, .row n 4 fun i j => .int .i64 (l i j))]) (fun h _ => h) (fun i => n - i.1) (fun _ => ⟨rfl, rfl⟩) ⟨0, by omega⟩ (by (apply sub_of <;> simp only [go_sem, ↓reduceIte, Nat.reduceAdd, Nat.reduceSub, Nat.reduceMul, Nat.reduceEqDiff, Nat.reduceLT, Nat.reduceLeDiff, Int.reduceToNat, Int.reduceLE, Int.reduceLT, Int.reduceEq, Int.reduceNeg, reduceCtorEq] <;> (try simp [catF]) <;> (try exact fun j _ => Bd_nth (by simp [BdL, Bd]) j) <;> (try exact bd_setL (by simp [bdAs, BdL, Bd])) <;> (try exact nestF_bd _ _ _ _ _ _ _ _ _))) ?_
        rintro ⟨i, hi⟩
        have wi : IntKind.i64.wrap ((i : Int) + 1) = ((i + 1 : Nat) : Int) := by rw [wrap_id (by omega) (by omega)]; omega
        simp only [wi, Int.toNat_natCast, alive_eq, whole_eq, same_eq, penEq_eq, without_eq, p9_35, boS, rowP, pl_pf, atR_agT, wholeR_wholeRT, Try.f9, go_sem, ↓reduceIte, Nat.reduceAdd, Nat.reduceSub, Nat.reduceMul, Nat.reduceEqDiff, Nat.reduceLT, Nat.reduceLeDiff, Int.reduceToNat, Int.reduceLE, Int.reduceLT, Int.reduceEq, Int.reduceNeg, reduceCtorEq]
        refine spl_intro (fun f1 => ?_) (fun f1 => ⟨by omega, by omega, by rw [pl_len]; omega, by omega, by omega, by rw [pl_len]; omega, by omega, by omega, by omega, by omega⟩)
        simp only [decide_eq_true_eq] at f1
        refine ⟨⟨by kernel_rfl, by kernel_rfl⟩, by omega, by omega, by omega, ⟨⟨i + 1, by omega⟩, by simp only []; omega, ?_⟩⟩
        apply sub_of <;> simp only [wi, go_sem, ↓reduceIte, Nat.reduceAdd, Nat.reduceSub, Nat.reduceMul, Nat.reduceEqDiff, Nat.reduceLT, Nat.reduceLeDiff, Int.reduceToNat, Int.reduceLE, Int.reduceLT, Int.reduceEq, Int.reduceNeg, reduceCtorEq] <;> (try simp) <;> (try exact fun j _ => Bd_nth (by simp [BdL, Bd]) j) <;> (try exact bd_setL (by simp [bdAs, BdL, Bd])) <;> (try exact nestF_bd _ _ _ _ _ _ _ _ _)
        try rfl
    · simp only [ownA, lenV, lenB, appV, vecL, hX, alive_eq, whole_eq, same_eq, penEq_eq, without_eq, p9_35, boS, rowP, pl_pf, atR_agT, wholeR_wholeRT, Try.f9, go_sem, ↓reduceIte, Nat.reduceAdd, Nat.reduceSub, Nat.reduceMul, Nat.reduceEqDiff, Nat.reduceLT, Nat.reduceLeDiff, Int.reduceToNat, Int.reduceLE, Int.reduceLT, Int.reduceEq, Int.reduceNeg, reduceCtorEq]
      refine loop_ofH { t : Nat // t ≤ 2 } (fun t => [(67, .int .i64 (t.1 : Int)), (12, .ptr 2 0), (14, .ptr 3 0), (13, .int .i64 er), (10, .ptr 1 0), (9, .vec 0 1), (8, .bool false), (6, .ptr 0 0), (3, .int .i64 team), (1, .int .i64 second), (0, .row n 4 fun i j => .int .i64 (l i j))]) (fun h t => ⟨[.live 28 [.int .i64 per, .int .i64 pd, .bool run, .int .i64 g0, .int .i64 g1, .row n0 3 fun i j => .int .i64 (a0 i j), .row n1 3 fun i j => .int .i64 (a1 i j), .row m0 3 fun i j => .int .i64 (b0 i j), .row m1 3 fun i j => .int .i64 (b1 i j)], .live 28 [.int .i64 per, .int .i64 pd, .bool run, .int .i64 g0, .int .i64 g1, .row n0 3 fun i j => .int .i64 (a0 i j), .row n1 3 fun i j => .int .i64 (a1 i j), .row m0 3 fun i j => .int .i64 (b0 i j), .row m1 3 fun i j => .int .i64 (b1 i j)], .live 28 [.int .i64 A.per, .int .i64 A.pl, .bool A.run, .int .i64 A.g0, .int .i64 A.g1, pick3 (.vec 21 v.a) .any .any t.1, pick3 (.vec 22 v.b) (.vec 22 v.b) .any t.1, pick3 (.vec 23 v.c) .any .any t.1, pick3 (.vec 24 v.d) (.vec 24 v.d) .any t.1], .live 28 [.int .i64 A.per, .int .i64 A.pl, .bool A.run, .int .i64 A.g0, .int .i64 A.g1, pick3 .any (.row A.p0.length 3 fun i j => .int .i64 (pf A.p0 i j)) (.row A.p0.length 3 fun i j => .int .i64 (pf A.p0 i j)) t.1, pick3 .any .any (.row A.p1.length 3 fun i j => .int .i64 (pf A.p1 i j)) t.1, pick3 .any (.row A.m0.length 3 fun i j => .int .i64 (pf A.m0 i j)) (.row A.m0.length 3 fun i j => .int .i64 (pf A.m0 i j)) t.1, pick3 .any .any (.row A.m1.length 3 fun i j => .int .i64 (pf A.m1 i j)) t.1]], [.live 1 35 4 n fun i j => .int .i64 (l i j), .dead, .dead, .dead, .dead, .dead, .dead, .dead, .dead, .dead, .dead, .dead, .dead, .dead, .dead, .dead, .dead, .dead, .dead, .dead, .dead, pick3 (.live v.a 55 3 A.p0.length fun i j => .int .i64 (pf A.p0 i j)) .dead .dead t.1, pick3 (.live v.b 55 3 A.p1.length fun i j => .int .i64 (pf A.p1 i j)) (.live v.b 55 3 A.p1.length fun i j => .int .i64 (pf A.p1 i j)) .dead t.1, pick3 (.live v.c 55 3 A.m0.length fun i j => .int .i64 (pf A.m0 i j)) .dead .dead t.1, pick3 (.live v.d 55 3 A.m1.length fun i j => .int .i64 (pf A.m1 i j)) (.live v.d 55 3 A.m1.length fun i j => .int .i64 (pf A.m1 i j)) .dead t.1, .dead, .dead, .dead, .dead, .dead, .dead, .dead, .dead]⟩) (fun t => 2 - t.1) (fun _ => ⟨rfl, rfl⟩) ⟨0, by omega⟩ (by simp only [pick3_0, pick3_1, pick3_2]; (apply sub_of <;> simp only [go_sem, ↓reduceIte, Nat.reduceAdd, Nat.reduceSub, Nat.reduceMul, Nat.reduceEqDiff, Nat.reduceLT, Nat.reduceLeDiff, Int.reduceToNat, Int.reduceLE, Int.reduceLT, Int.reduceEq, Int.reduceNeg, reduceCtorEq] <;> (try simp [catF]) <;> (try exact fun j _ => Bd_nth (by simp [BdL, Bd]) j) <;> (try exact bd_setL (by simp [bdAs, BdL, Bd])) <;> (try exact nestF_bd _ _ _ _ _ _ _ _ _))) ?_
      rintro ⟨t, ht⟩
      obtain rfl | rfl | rfl : t = 0 ∨ t = 1 ∨ t = 2 := by omega
      · simp only [pick3_0, pick3_1, pick3_2, alive_eq, whole_eq, same_eq, penEq_eq, without_eq, p9_35, boS, rowP, pl_pf, atR_agT, wholeR_wholeRT, Try.f9, go_sem, ↓reduceIte, Nat.reduceAdd, Nat.reduceSub, Nat.reduceMul, Nat.reduceEqDiff, Nat.reduceLT, Nat.reduceLeDiff, Int.reduceToNat, Int.reduceLE, Int.reduceLT, Int.reduceEq, Int.reduceNeg, reduceCtorEq]
        refine spl_intro (fun _ => ⟨by omega, ⟨by omega, by omega⟩, by omega, by omega, ⟨by omega, by omega⟩, by omega, by omega, ?_⟩) (fun h => absurd h (by simp))
        refine loop_ofH { x : Nat × (Nat → Nat → SV) // x.1 ≤ A.p0.length ∧ ∀ i j, Bd 4 35 (x.2 i j) } (fun x => [(93, .int .i64 (x.1.1 : Int)), (92, .int .i64 (A.p0.length : Int)), (15, .int .i64 ((0 : Nat) : Int)), (67, .int .i64 ((0 : Nat) : Int)), (12, .ptr 2 0), (14, .ptr 3 0), (13, .int .i64 er), (10, .ptr 1 0), (9, .vec 0 1), (8, .bool false), (6, .ptr 0 0), (3, .int .i64 team), (1, .int .i64 second), (0, .row n 4 fun i j => .int .i64 (l i j))]) (fun h x => ⟨[.live 28 [.int .i64 per, .int .i64 pd, .bool run, .int .i64 g0, .int .i64 g1, .row n0 3 fun i j => .int .i64 (a0 i j), .row n1 3 fun i j => .int .i64 (a1 i j), .row m0 3 fun i j => .int .i64 (b0 i j), .row m1 3 fun i j => .int .i64 (b1 i j)], .live 28 [.int .i64 per, .int .i64 pd, .bool run, .int .i64 g0, .int .i64 g1, .row n0 3 fun i j => .int .i64 (a0 i j), .row n1 3 fun i j => .int .i64 (a1 i j), .row m0 3 fun i j => .int .i64 (b0 i j), .row m1 3 fun i j => .int .i64 (b1 i j)], .live 28 [.int .i64 A.per, .int .i64 A.pl, .bool A.run, .int .i64 A.g0, .int .i64 A.g1, .vec 21 v.a, .vec 22 v.b, .vec 23 v.c, .vec 24 v.d], .live 28 [.int .i64 A.per, .int .i64 A.pl, .bool A.run, .int .i64 A.g0, .int .i64 A.g1, (.row A.p0.length 3 fun i j => .int .i64 (pf A.p0 i j)), (.any), (.row A.m0.length 3 fun i j => .int .i64 (pf A.m0 i j)), (.any)]], [(.live 1 35 4 n fun i j => .int .i64 (l i j)), (.dead), (.dead), (.dead), (.dead), (.dead), (.dead), (.dead), (.dead), (.dead), (.dead), (.dead), (.dead), (.dead), (.dead), (.dead), (.dead), (.dead), (.dead), (.dead), (.dead), (.live v.a 55 3 A.p0.length x.1.2), (.live v.b 55 3 A.p1.length fun i j => .int .i64 (pf A.p1 i j)), (.live v.c 55 3 A.m0.length fun i j => .int .i64 (pf A.m0 i j)), (.live v.d 55 3 A.m1.length fun i j => .int .i64 (pf A.m1 i j)), (.dead), (.dead), (.dead), (.dead), (.dead), (.dead), (.dead), (.dead), (.dead), (.dead)]⟩) (fun x => A.p0.length - x.1.1) (fun _ => ⟨rfl, rfl⟩) ⟨(0, fun i j => .int .i64 (pf A.p0 i j)), Nat.zero_le _, fun _ _ => trivial⟩ ?_ ?_
        · refine sub_fzB 33 3 5 rfl rfl rfl (sub_fzB 34 3 7 rfl rfl rfl ?_)
          apply sub_of <;> simp only [go_sem, ↓reduceIte, Nat.reduceAdd, Nat.reduceSub, Nat.reduceMul, Nat.reduceEqDiff, Nat.reduceLT, Nat.reduceLeDiff, Int.reduceToNat, Int.reduceLE, Int.reduceLT, Int.reduceEq, Int.reduceNeg, reduceCtorEq] <;> (try simp) <;> (try exact fun j _ => Bd_nth (by simp [BdL, Bd]) j) <;> (try exact bd_setL (by simp [bdAs, BdL, Bd])) <;> (try exact nestF_bd _ _ _ _ _ _ _ _ _)
          all_goals first | rfl | exact cat0_row _ _ _ | exact ⟨cat0_row _ _ _, cat0_row _ _ _⟩
        rintro ⟨⟨i, F⟩, hi, hF⟩
        simp only at hi hF
        have wi : IntKind.i64.wrap ((i : Int) + 1) = ((i + 1 : Nat) : Int) := by rw [wrap_id (by omega) (by omega)]; omega
        simp only [wi, pick3_0, pick3_1, pick3_2, Int.toNat_natCast, alive_eq, whole_eq, same_eq, penEq_eq, without_eq, p9_35, boS, rowP, pl_pf, atR_agT, wholeR_wholeRT, Try.f9, go_sem, ↓reduceIte, Nat.reduceAdd, Nat.reduceSub, Nat.reduceMul, Nat.reduceEqDiff, Nat.reduceLT, Nat.reduceLeDiff, Int.reduceToNat, Int.reduceLE, Int.reduceLT, Int.reduceEq, Int.reduceNeg, reduceCtorEq]
        refine spl_intro (fun f1 => ?_) (fun f1 => ⟨by omega, ?_⟩)
        · simp only [decide_eq_true_eq] at f1
          refine ⟨by omega, by omega, by omega, ⟨⟨(i + 1, fun x c => if x = i ∧ 2 ≤ c ∧ c < 3 then nth [.int .i64 (-1)] (c - 2) else F x c), by simp only []; omega, bdU hF⟩, by simp only []; omega, ?_⟩⟩
          apply sub_of <;> simp only [wi, go_sem, ↓reduceIte, Nat.reduceAdd, Nat.reduceSub, Nat.reduceMul, Nat.reduceEqDiff, Nat.reduceLT, Nat.reduceLeDiff, Int.reduceToNat, Int.reduceLE, Int.reduceLT, Int.reduceEq, Int.reduceNeg, reduceCtorEq] <;> (try simp) <;> (try exact fun j _ => Bd_nth (by simp [BdL, Bd]) j) <;> (try exact bd_setL (by simp [bdAs, BdL, Bd])) <;> (try exact nestF_bd _ _ _ _ _ _ _ _ _)
          all_goals first | rfl | exact fun a c _ _ => bdU hF a c
        refine loop_ofH { x : Nat × (Nat → Nat → SV) // x.1 ≤ A.m0.length ∧ ∀ i j, Bd 4 35 (x.2 i j) } (fun x => [(109, .int .i64 (x.1.1 : Int)), (108, .int .i64 (A.m0.length : Int)), (15, .int .i64 ((0 : Nat) : Int)), (67, .int .i64 ((0 : Nat) : Int)), (12, .ptr 2 0), (14, .ptr 3 0), (13, .int .i64 er), (10, .ptr 1 0), (9, .vec 0 1), (8, .bool false), (6, .ptr 0 0), (3, .int .i64 team), (1, .int .i64 second), (0, .row n 4 fun i j => .int .i64 (l i j))]) (fun h x => ⟨[.live 28 [.int .i64 per, .int .i64 pd, .bool run, .int .i64 g0, .int .i64 g1, .row n0 3 fun i j => .int .i64 (a0 i j), .row n1 3 fun i j => .int .i64 (a1 i j), .row m0 3 fun i j => .int .i64 (b0 i j), .row m1 3 fun i j => .int .i64 (b1 i j)], .live 28 [.int .i64 per, .int .i64 pd, .bool run, .int .i64 g0, .int .i64 g1, .row n0 3 fun i j => .int .i64 (a0 i j), .row n1 3 fun i j => .int .i64 (a1 i j), .row m0 3 fun i j => .int .i64 (b0 i j), .row m1 3 fun i j => .int .i64 (b1 i j)], .live 28 [.int .i64 A.per, .int .i64 A.pl, .bool A.run, .int .i64 A.g0, .int .i64 A.g1, .any, .vec 22 v.b, .vec 23 v.c, .vec 24 v.d], .live 28 [.int .i64 A.per, .int .i64 A.pl, .bool A.run, .int .i64 A.g0, .int .i64 A.g1, (.row A.p0.length 3 fun i j => .int .i64 (pf A.p0 i j)), (.any), (.row A.m0.length 3 fun i j => .int .i64 (pf A.m0 i j)), (.any)]], [(.live 1 35 4 n fun i j => .int .i64 (l i j)), (.dead), (.dead), (.dead), (.dead), (.dead), (.dead), (.dead), (.dead), (.dead), (.dead), (.dead), (.dead), (.dead), (.dead), (.dead), (.dead), (.dead), (.dead), (.dead), (.dead), (.dead), (.live v.b 55 3 A.p1.length fun i j => .int .i64 (pf A.p1 i j)), (.live v.c 55 3 A.m0.length x.1.2), (.live v.d 55 3 A.m1.length fun i j => .int .i64 (pf A.m1 i j)), (.dead), (.dead), (.dead), (.dead), (.dead), (.dead), (.dead), (.dead), (.dead), (.dead)]⟩) (fun x => A.m0.length - x.1.1) (fun _ => ⟨rfl, rfl⟩) ⟨(0, fun i j => .int .i64 (pf A.m0 i j)), Nat.zero_le _, fun _ _ => trivial⟩ ?_ ?_
        · apply sub_of <;> simp only [go_sem, ↓reduceIte, Nat.reduceAdd, Nat.reduceSub, Nat.reduceMul, Nat.reduceEqDiff, Nat.reduceLT, Nat.reduceLeDiff, Int.reduceToNat, Int.reduceLE, Int.reduceLT, Int.reduceEq, Int.reduceNeg, reduceCtorEq] <;> (try simp) <;> (try exact fun j _ => Bd_nth (by simp [BdL, Bd]) j) <;> (try exact bd_setL (by simp [bdAs, BdL, Bd])) <;> (try exact nestF_bd _ _ _ _ _ _ _ _ _)
          all_goals rfl
        clear hi wi f1 hF
        rintro ⟨⟨i, F⟩, hi, hF⟩
        simp only at hi hF
        have wi : IntKind.i64.wrap ((i : Int) + 1) = ((i + 1 : Nat) : Int) := by rw [wrap_id (by omega) (by omega)]; omega
        simp only [wi, pick3_0, pick3_1, pick3_2, Int.toNat_natCast, alive_eq, whole_eq, same_eq, penEq_eq, without_eq, p9_35, boS, rowP, pl_pf, atR_agT, wholeR_wholeRT, Try.f9, go_sem, ↓reduceIte, Nat.reduceAdd, Nat.reduceSub, Nat.reduceMul, Nat.reduceEqDiff, Nat.reduceLT, Nat.reduceLeDiff, Int.reduceToNat, Int.reduceLE, Int.reduceLT, Int.reduceEq, Int.reduceNeg, reduceCtorEq]
        refine spl_intro (fun f1 => ?_) (fun f1 => ?_)
        · simp only [decide_eq_true_eq] at f1
          refine ⟨by omega, by omega, by omega, ⟨⟨(i + 1, fun x c => if x = i ∧ 2 ≤ c ∧ c < 3 then nth [.int .i64 (-1)] (c - 2) else F x c), by simp only []; omega, bdU hF⟩, by simp only []; omega, ?_⟩⟩
          apply sub_of <;> simp only [wi, go_sem, ↓reduceIte, Nat.reduceAdd, Nat.reduceSub, Nat.reduceMul, Nat.reduceEqDiff, Nat.reduceLT, Nat.reduceLeDiff, Int.reduceToNat, Int.reduceLE, Int.reduceLT, Int.reduceEq, Int.reduceNeg, reduceCtorEq] <;> (try simp) <;> (try exact fun j _ => Bd_nth (by simp [BdL, Bd]) j) <;> (try exact bd_setL (by simp [bdAs, BdL, Bd])) <;> (try exact nestF_bd _ _ _ _ _ _ _ _ _)
          all_goals first | rfl | exact fun a c _ _ => bdU hF a c
        · refine ⟨⟨0 + 1, by omega⟩, by simp only []; omega, ?_⟩
          apply sub_of <;> simp only [wi, pick3_0, pick3_1, pick3_2, go_sem, ↓reduceIte, Nat.reduceAdd, Nat.reduceSub, Nat.reduceMul, Nat.reduceEqDiff, Nat.reduceLT, Nat.reduceLeDiff, Int.reduceToNat, Int.reduceLE, Int.reduceLT, Int.reduceEq, Int.reduceNeg, reduceCtorEq] <;> (try simp) <;> (try exact fun j _ => Bd_nth (by simp [BdL, Bd]) j) <;> (try exact bd_setL (by simp [bdAs, BdL, Bd])) <;> (try exact nestF_bd _ _ _ _ _ _ _ _ _)
          all_goals rfl
      · simp only [pick3_0, pick3_1, pick3_2, alive_eq, whole_eq, same_eq, penEq_eq, without_eq, p9_35, boS, rowP, pl_pf, atR_agT, wholeR_wholeRT, Try.f9, go_sem, ↓reduceIte, Nat.reduceAdd, Nat.reduceSub, Nat.reduceMul, Nat.reduceEqDiff, Nat.reduceLT, Nat.reduceLeDiff, Int.reduceToNat, Int.reduceLE, Int.reduceLT, Int.reduceEq, Int.reduceNeg, reduceCtorEq]
        refine spl_intro (fun _ => ⟨by omega, ⟨by omega, by omega⟩, by omega, by omega, ⟨by omega, by omega⟩, by omega, by omega, ?_⟩) (fun h => absurd h (by simp))
        refine loop_ofH { x : Nat × (Nat → Nat → SV) // x.1 ≤ A.p1.length ∧ ∀ i j, Bd 4 35 (x.2 i j) } (fun x => [(93, .int .i64 (x.1.1 : Int)), (92, .int .i64 (A.p1.length : Int)), (15, .int .i64 ((1 : Nat) : Int)), (67, .int .i64 ((1 : Nat) : Int)), (12, .ptr 2 0), (14, .ptr 3 0), (13, .int .i64 er), (10, .ptr 1 0), (9, .vec 0 1), (8, .bool false), (6, .ptr 0 0), (3, .int .i64 team), (1, .int .i64 second), (0, .row n 4 fun i j => .int .i64 (l i j))]) (fun h x => ⟨[.live 28 [.int .i64 per, .int .i64 pd, .bool run, .int .i64 g0, .int .i64 g1, .row n0 3 fun i j => .int .i64 (a0 i j), .row n1 3 fun i j => .int .i64 (a1 i j), .row m0 3 fun i j => .int .i64 (b0 i j), .row m1 3 fun i j => .int .i64 (b1 i j)], .live 28 [.int .i64 per, .int .i64 pd, .bool run, .int .i64 g0, .int .i64 g1, .row n0 3 fun i j => .int .i64 (a0 i j), .row n1 3 fun i j => .int .i64 (a1 i j), .row m0 3 fun i j => .int .i64 (b0 i j), .row m1 3 fun i j => .int .i64 (b1 i j)], .live 28 [.int .i64 A.per, .int .i64 A.pl, .bool A.run, .int .i64 A.g0, .int .i64 A.g1, .any, .vec 22 v.b, .any, .vec 24 v.d], .live 28 [.int .i64 A.per, .int .i64 A.pl, .bool A.run, .int .i64 A.g0, .int .i64 A.g1, (.row A.p0.length 3 fun i j => .int .i64 (pf A.p0 i j)), (.row A.p1.length 3 fun i j => .int .i64 (pf A.p1 i j)), (.row A.m0.length 3 fun i j => .int .i64 (pf A.m0 i j)), (.row A.m1.length 3 fun i j => .int .i64 (pf A.m1 i j))]], [(.live 1 35 4 n fun i j => .int .i64 (l i j)), (.dead), (.dead), (.dead), (.dead), (.dead), (.dead), (.dead), (.dead), (.dead), (.dead), (.dead), (.dead), (.dead), (.dead), (.dead), (.dead), (.dead), (.dead), (.dead), (.dead), (.dead), (.live v.b 55 3 A.p1.length x.1.2), (.dead), (.live v.d 55 3 A.m1.length fun i j => .int .i64 (pf A.m1 i j)), (.dead), (.dead), (.dead), (.dead), (.dead), (.dead), (.dead), (.dead), (.dead), (.dead)]⟩) (fun x => A.p1.length - x.1.1) (fun _ => ⟨rfl, rfl⟩) ⟨(0, fun i j => .int .i64 (pf A.p1 i j)), Nat.zero_le _, fun _ _ => trivial⟩ ?_ ?_
        · refine sub_fzB 33 3 6 rfl rfl rfl (sub_fzB 34 3 8 rfl rfl rfl ?_)
          apply sub_of <;> simp only [go_sem, ↓reduceIte, Nat.reduceAdd, Nat.reduceSub, Nat.reduceMul, Nat.reduceEqDiff, Nat.reduceLT, Nat.reduceLeDiff, Int.reduceToNat, Int.reduceLE, Int.reduceLT, Int.reduceEq, Int.reduceNeg, reduceCtorEq] <;> (try simp) <;> (try exact fun j _ => Bd_nth (by simp [BdL, Bd]) j) <;> (try exact bd_setL (by simp [bdAs, BdL, Bd])) <;> (try exact nestF_bd _ _ _ _ _ _ _ _ _)
          all_goals first | rfl | exact cat0_row _ _ _ | exact ⟨cat0_row _ _ _, cat0_row _ _ _⟩
        rintro ⟨⟨i, F⟩, hi, hF⟩
        simp only at hi hF
        have wi : IntKind.i64.wrap ((i : Int) + 1) = ((i + 1 : Nat) : Int) := by rw [wrap_id (by omega) (by omega)]; omega
        simp only [wi, pick3_0, pick3_1, pick3_2, Int.toNat_natCast, alive_eq, whole_eq, same_eq, penEq_eq, without_eq, p9_35, boS, rowP, pl_pf, atR_agT, wholeR_wholeRT, Try.f9, go_sem, ↓reduceIte, Nat.reduceAdd, Nat.reduceSub, Nat.reduceMul, Nat.reduceEqDiff, Nat.reduceLT, Nat.reduceLeDiff, Int.reduceToNat, Int.reduceLE, Int.reduceLT, Int.reduceEq, Int.reduceNeg, reduceCtorEq]
        refine spl_intro (fun f1 => ?_) (fun f1 => ⟨by omega, ?_⟩)
        · simp only [decide_eq_true_eq] at f1
          refine ⟨by omega, by omega, by omega, ⟨⟨(i + 1, fun x c => if x = i ∧ 2 ≤ c ∧ c < 3 then nth [.int .i64 (-1)] (c - 2) else F x c), by simp only []; omega, bdU hF⟩, by simp only []; omega, ?_⟩⟩
          apply sub_of <;> simp only [wi, go_sem, ↓reduceIte, Nat.reduceAdd, Nat.reduceSub, Nat.reduceMul, Nat.reduceEqDiff, Nat.reduceLT, Nat.reduceLeDiff, Int.reduceToNat, Int.reduceLE, Int.reduceLT, Int.reduceEq, Int.reduceNeg, reduceCtorEq] <;> (try simp) <;> (try exact fun j _ => Bd_nth (by simp [BdL, Bd]) j) <;> (try exact bd_setL (by simp [bdAs, BdL, Bd])) <;> (try exact nestF_bd _ _ _ _ _ _ _ _ _)
          all_goals first | rfl | exact fun a c _ _ => bdU hF a c
        refine loop_ofH { x : Nat × (Nat → Nat → SV) // x.1 ≤ A.m1.length ∧ ∀ i j, Bd 4 35 (x.2 i j) } (fun x => [(109, .int .i64 (x.1.1 : Int)), (108, .int .i64 (A.m1.length : Int)), (15, .int .i64 ((1 : Nat) : Int)), (67, .int .i64 ((1 : Nat) : Int)), (12, .ptr 2 0), (14, .ptr 3 0), (13, .int .i64 er), (10, .ptr 1 0), (9, .vec 0 1), (8, .bool false), (6, .ptr 0 0), (3, .int .i64 team), (1, .int .i64 second), (0, .row n 4 fun i j => .int .i64 (l i j))]) (fun h x => ⟨[.live 28 [.int .i64 per, .int .i64 pd, .bool run, .int .i64 g0, .int .i64 g1, .row n0 3 fun i j => .int .i64 (a0 i j), .row n1 3 fun i j => .int .i64 (a1 i j), .row m0 3 fun i j => .int .i64 (b0 i j), .row m1 3 fun i j => .int .i64 (b1 i j)], .live 28 [.int .i64 per, .int .i64 pd, .bool run, .int .i64 g0, .int .i64 g1, .row n0 3 fun i j => .int .i64 (a0 i j), .row n1 3 fun i j => .int .i64 (a1 i j), .row m0 3 fun i j => .int .i64 (b0 i j), .row m1 3 fun i j => .int .i64 (b1 i j)], .live 28 [.int .i64 A.per, .int .i64 A.pl, .bool A.run, .int .i64 A.g0, .int .i64 A.g1, .any, .any, .any, .vec 24 v.d], .live 28 [.int .i64 A.per, .int .i64 A.pl, .bool A.run, .int .i64 A.g0, .int .i64 A.g1, (.row A.p0.length 3 fun i j => .int .i64 (pf A.p0 i j)), (.row A.p1.length 3 fun i j => .int .i64 (pf A.p1 i j)), (.row A.m0.length 3 fun i j => .int .i64 (pf A.m0 i j)), (.row A.m1.length 3 fun i j => .int .i64 (pf A.m1 i j))]], [(.live 1 35 4 n fun i j => .int .i64 (l i j)), (.dead), (.dead), (.dead), (.dead), (.dead), (.dead), (.dead), (.dead), (.dead), (.dead), (.dead), (.dead), (.dead), (.dead), (.dead), (.dead), (.dead), (.dead), (.dead), (.dead), (.dead), (.dead), (.dead), (.live v.d 55 3 A.m1.length x.1.2), (.dead), (.dead), (.dead), (.dead), (.dead), (.dead), (.dead), (.dead), (.dead), (.dead)]⟩) (fun x => A.m1.length - x.1.1) (fun _ => ⟨rfl, rfl⟩) ⟨(0, fun i j => .int .i64 (pf A.m1 i j)), Nat.zero_le _, fun _ _ => trivial⟩ ?_ ?_
        · apply sub_of <;> simp only [go_sem, ↓reduceIte, Nat.reduceAdd, Nat.reduceSub, Nat.reduceMul, Nat.reduceEqDiff, Nat.reduceLT, Nat.reduceLeDiff, Int.reduceToNat, Int.reduceLE, Int.reduceLT, Int.reduceEq, Int.reduceNeg, reduceCtorEq] <;> (try simp) <;> (try exact fun j _ => Bd_nth (by simp [BdL, Bd]) j) <;> (try exact bd_setL (by simp [bdAs, BdL, Bd])) <;> (try exact nestF_bd _ _ _ _ _ _ _ _ _)
          all_goals rfl
        clear hi wi f1 hF
        rintro ⟨⟨i, F⟩, hi, hF⟩
        simp only at hi hF
        have wi : IntKind.i64.wrap ((i : Int) + 1) = ((i + 1 : Nat) : Int) := by rw [wrap_id (by omega) (by omega)]; omega
        simp only [wi, pick3_0, pick3_1, pick3_2, Int.toNat_natCast, alive_eq, whole_eq, same_eq, penEq_eq, without_eq, p9_35, boS, rowP, pl_pf, atR_agT, wholeR_wholeRT, Try.f9, go_sem, ↓reduceIte, Nat.reduceAdd, Nat.reduceSub, Nat.reduceMul, Nat.reduceEqDiff, Nat.reduceLT, Nat.reduceLeDiff, Int.reduceToNat, Int.reduceLE, Int.reduceLT, Int.reduceEq, Int.reduceNeg, reduceCtorEq]
        refine spl_intro (fun f1 => ?_) (fun f1 => ?_)
        · simp only [decide_eq_true_eq] at f1
          refine ⟨by omega, by omega, by omega, ⟨⟨(i + 1, fun x c => if x = i ∧ 2 ≤ c ∧ c < 3 then nth [.int .i64 (-1)] (c - 2) else F x c), by simp only []; omega, bdU hF⟩, by simp only []; omega, ?_⟩⟩
          apply sub_of <;> simp only [wi, go_sem, ↓reduceIte, Nat.reduceAdd, Nat.reduceSub, Nat.reduceMul, Nat.reduceEqDiff, Nat.reduceLT, Nat.reduceLeDiff, Int.reduceToNat, Int.reduceLE, Int.reduceLT, Int.reduceEq, Int.reduceNeg, reduceCtorEq] <;> (try simp) <;> (try exact fun j _ => Bd_nth (by simp [BdL, Bd]) j) <;> (try exact bd_setL (by simp [bdAs, BdL, Bd])) <;> (try exact nestF_bd _ _ _ _ _ _ _ _ _)
          all_goals first | rfl | exact fun a c _ _ => bdU hF a c
        · refine ⟨⟨1 + 1, by omega⟩, by simp only []; omega, ?_⟩
          apply sub_of <;> simp only [wi, pick3_0, pick3_1, pick3_2, go_sem, ↓reduceIte, Nat.reduceAdd, Nat.reduceSub, Nat.reduceMul, Nat.reduceEqDiff, Nat.reduceLT, Nat.reduceLeDiff, Int.reduceToNat, Int.reduceLE, Int.reduceLT, Int.reduceEq, Int.reduceNeg, reduceCtorEq] <;> (try simp) <;> (try exact fun j _ => Bd_nth (by simp [BdL, Bd]) j) <;> (try exact bd_setL (by simp [bdAs, BdL, Bd])) <;> (try exact nestF_bd _ _ _ _ _ _ _ _ _)
          all_goals rfl
      · have d2 : decide (((2 : Nat) : Int) < 2) = false := by decide
        simp only [d2, pick3_0, pick3_1, pick3_2, alive_eq, whole_eq, same_eq, penEq_eq, without_eq, p9_35, boS, rowP, pl_pf, atR_agT, wholeR_wholeRT, Try.f9, go_sem, ↓reduceIte, Nat.reduceAdd, Nat.reduceSub, Nat.reduceMul, Nat.reduceEqDiff, Nat.reduceLT, Nat.reduceLeDiff, Int.reduceToNat, Int.reduceLE, Int.reduceLT, Int.reduceEq, Int.reduceNeg, reduceCtorEq]
        refine ⟨⟨by omega, by omega⟩, ⟨by omega, by omega⟩, by decide, by omega, ?_⟩
        unfold callS
        refine calls_mono ?_ (at_frg (by omega) l _)
        rintro o h' ⟨rfl, rfl⟩
        simp only [hX, alive_eq, whole_eq, same_eq, penEq_eq, without_eq, p9_35, boS, rowP, pl_pf, atR_agT, wholeR_wholeRT, Try.f9, go_sem, ↓reduceIte, Nat.reduceAdd, Nat.reduceSub, Nat.reduceMul, Nat.reduceEqDiff, Nat.reduceLT, Nat.reduceLeDiff, Int.reduceToNat, Int.reduceLE, Int.reduceLT, Int.reduceEq, Int.reduceNeg, reduceCtorEq]
        refine loop_ofH { i : Nat // i ≤ n } (fun i => [(146, .int .i64 (i.1 : Int)), (145, .int .i64 (n : Int)), (144, .vec 0 1), (23, .int .i64 er), (22, .ptr 4 0), (21, .int .i64 (wholeRT (Eng.pl n0 a0) (Eng.pl n1 a1) team).2), (20, .int .i64 (wholeRT (Eng.pl n0 a0) (Eng.pl n1 a1) team).1), (19, .int .i64 (wholeRT (Eng.pl n0 a0) (Eng.pl n1 a1) team).2), (18, .int .i64 (wholeRT (Eng.pl n0 a0) (Eng.pl n1 a1) team).1), (14, .ptr 3 0), (13, .int .i64 er), (10, .ptr 1 0), (9, .vec 0 1), (8, .bool false), (6, .ptr 0 0), (3, .int .i64 team), (1, .int .i64 second), (0, .row n 4 fun i j => .int .i64 (l i j))]) (fun h _ => h) (fun i => n - i.1) (fun _ => ⟨rfl, rfl⟩) ⟨0, by omega⟩ (by (apply sub_of <;> simp only [go_sem, ↓reduceIte, Nat.reduceAdd, Nat.reduceSub, Nat.reduceMul, Nat.reduceEqDiff, Nat.reduceLT, Nat.reduceLeDiff, Int.reduceToNat, Int.reduceLE, Int.reduceLT, Int.reduceEq, Int.reduceNeg, reduceCtorEq] <;> (try simp [catF]) <;> (try exact fun j _ => Bd_nth (by simp [BdL, Bd]) j) <;> (try exact bd_setL (by simp [bdAs, BdL, Bd])) <;> (try exact nestF_bd _ _ _ _ _ _ _ _ _))) ?_
        rintro ⟨i, hi⟩
        have wi : IntKind.i64.wrap ((i : Int) + 1) = ((i + 1 : Nat) : Int) := by rw [wrap_id (by omega) (by omega)]; omega
        simp only [wi, Int.toNat_natCast, alive_eq, whole_eq, same_eq, penEq_eq, without_eq, p9_35, boS, rowP, pl_pf, atR_agT, wholeR_wholeRT, Try.f9, go_sem, ↓reduceIte, Nat.reduceAdd, Nat.reduceSub, Nat.reduceMul, Nat.reduceEqDiff, Nat.reduceLT, Nat.reduceLeDiff, Int.reduceToNat, Int.reduceLE, Int.reduceLT, Int.reduceEq, Int.reduceNeg, reduceCtorEq]
        refine spl_intro (fun f1 => ?_) (fun f1 => ⟨by omega, by omega, by rw [pl_len]; omega, by omega, by omega, by rw [pl_len]; omega, by omega, by omega, by omega, by omega⟩)
        simp only [decide_eq_true_eq] at f1
        refine ⟨⟨by kernel_rfl, by kernel_rfl⟩, by omega, by omega, by omega, ⟨⟨i + 1, by omega⟩, by simp only []; omega, ?_⟩⟩
        apply sub_of <;> simp only [wi, go_sem, ↓reduceIte, Nat.reduceAdd, Nat.reduceSub, Nat.reduceMul, Nat.reduceEqDiff, Nat.reduceLT, Nat.reduceLeDiff, Int.reduceToNat, Int.reduceLE, Int.reduceLT, Int.reduceEq, Int.reduceNeg, reduceCtorEq] <;> (try simp) <;> (try exact fun j _ => Bd_nth (by simp [BdL, Bd]) j) <;> (try exact bd_setL (by simp [bdAs, BdL, Bd])) <;> (try exact nestF_bd _ _ _ _ _ _ _ _ _)
        try rfl
end Go.Eng
end

/-
  ClockOwns: for every input the law returns true, and each argument reads afterwards as it read before. No condition.
-/
section
namespace Go.Proofs.Ytjkbmnhpbncdcaa.clockOwns
open Go.ChangeShapes Go.WideShapes Go.ChangeAt Go.RowKit Go.Eng
set_option linter.unusedVariables false
theorem own : ownKnob Try.prog.godebug = none := by kernel_rfl
theorem laid : laidOutB Try.prog = true := by kernel_rfl
set_option maxRecDepth 100000 in
theorem lifted (os : Os) (started : os.Started) (H : Type) (enc : TypeId × Value → H) :
    ReturnsInHanded {} Try.checked os 9 .any (Rows.clockOwnsSpec.pre6 enc Try.prog Try.f9 Rows.clockOwnsRow.domain false) (Rows.clockOwnsSpec.post enc Try.prog Try.f9 false true false false) := by
  refine returnsInHanded_of_change (C := Try.checked) own started (by kernel_rfl) Try.func9
    (ChangeSpec.witness6 (enc := enc) (C := Try.checked) false ⟨#[], #[.slice none 0 0, .int .i64 0, .agg #[.int .i64 0, .int .i64 0, .bool false, .int .i64 0, .int .i64 0, .slice none 0 0, .slice none 0 0, .slice none 0 0, .slice none 0 0], .int .i64 0], []⟩ 8 (by kernel_rfl) (by kernel_rfl) (by kernel_rfl) (by kernel_rfl)) ?_
  intro W base args ds gs before hval0 hW hcnd _
  have hval : ∀ (j : Nat) t v, Try.f9.params[j]? = some t → args[j]? = some v → Value.okWide Try.prog W .any base t v := hval0
  have hW' := hW
  obtain ⟨p, q, hA0, hV, rfl, hfz, hnd⟩ := hW
  have hA : DataW.TrodAll enc Try.prog W 0 (fun _ => true) true Try.f9.params.toList args.toList ds p := hA0
  rw [Try.params9] at hA hval
  obtain ⟨v0, vs0, d0, ds0, p0, q0, hargs, rfl, rfl, h0, r0⟩ := trodAll_cons hA
  obtain ⟨v1, vs1, d1, ds1, p1, q1, rfl, rfl, rfl, h1, r1⟩ := trodAll_cons r0
  obtain ⟨v2, vs2, d2, ds2, p2, q2, rfl, rfl, rfl, h2, r2⟩ := trodAll_cons r1
  obtain ⟨v3, vs3, d3, ds3, p3, q3, rfl, rfl, rfl, h3, r3⟩ := trodAll_cons r2
  obtain ⟨rfl, rfl, rfl⟩ := trodAll_nil r3
  obtain rfl : args = #[v0, v1, v2, v3] := by cases args; simp_all
  obtain ⟨rfl, rfl⟩ := trodVars_none hV
  obtain ⟨n0, f0, e0, m0, t0⟩ := arg_row (s := [.int .i64, .int .i64, .int .i64, .int .i64]) Try.underlying22 (by kernel_rfl) (hval 0 22 v0 rfl rfl) h0
  obtain ⟨i0, b0⟩ := intK_of_typ (k := .i64) (c := 4) rfl t0
  obtain ⟨x1, rfl, rfl, rfl, w1⟩ := open_int Try.underlying3 (hval 1 3 v1 rfl rfl) h1
  obtain ⟨xs2, e2, l2, t2⟩ := arg_agg (shs := [.int .i64, .int .i64, .bool, .int .i64, .int .i64, .sl [.int .i64, .int .i64, .int .i64], .sl [.int .i64, .int .i64, .int .i64], .sl [.int .i64, .int .i64, .int .i64], .sl [.int .i64, .int .i64, .int .i64]]) Try.underlying28 (by kernel_rfl) (hval 2 28 v2 rfl rfl) h2
  obtain ⟨a2_0, a2_1, a2_2, a2_3, a2_4, a2_5, a2_6, a2_7, a2_8, rfl⟩ : ∃ a2_0 a2_1 a2_2 a2_3 a2_4 a2_5 a2_6 a2_7 a2_8, xs2 = [a2_0, a2_1, a2_2, a2_3, a2_4, a2_5, a2_6, a2_7, a2_8] := by
    match xs2, l2 with
    | [a2_0, a2_1, a2_2, a2_3, a2_4, a2_5, a2_6, a2_7, a2_8], _ => exact ⟨a2_0, a2_1, a2_2, a2_3, a2_4, a2_5, a2_6, a2_7, a2_8, rfl⟩
  obtain ⟨x2_0, rfl, w2_0⟩ := typ_int (t2 0 _ _ rfl rfl)
  obtain ⟨x2_1, rfl, w2_1⟩ := typ_int (t2 1 _ _ rfl rfl)
  obtain ⟨x2_2, rfl⟩ := typ_bool (t2 2 _ _ rfl rfl)
  obtain ⟨x2_3, rfl, w2_3⟩ := typ_int (t2 3 _ _ rfl rfl)
  obtain ⟨x2_4, rfl, w2_4⟩ := typ_int (t2 4 _ _ rfl rfl)
  obtain ⟨n2_5, f2_5, rfl, m2_5, s2_5⟩ := typ_sl (t2 5 _ _ rfl rfl)
  obtain ⟨i2_5, b2_5⟩ := intK_of_typ (k := .i64) (c := 3) rfl s2_5
  obtain ⟨n2_6, f2_6, rfl, m2_6, s2_6⟩ := typ_sl (t2 6 _ _ rfl rfl)
  obtain ⟨i2_6, b2_6⟩ := intK_of_typ (k := .i64) (c := 3) rfl s2_6
  obtain ⟨n2_7, f2_7, rfl, m2_7, s2_7⟩ := typ_sl (t2 7 _ _ rfl rfl)
  obtain ⟨i2_7, b2_7⟩ := intK_of_typ (k := .i64) (c := 3) rfl s2_7
  obtain ⟨n2_8, f2_8, rfl, m2_8, s2_8⟩ := typ_sl (t2 8 _ _ rfl rfl)
  obtain ⟨i2_8, b2_8⟩ := intK_of_typ (k := .i64) (c := 3) rfl s2_8
  obtain ⟨x3, rfl, rfl, rfl, w3⟩ := open_int Try.underlying3 (hval 3 3 v3 rfl rfl) h3
  have hd : DenL Env.emp W [.row n0 4 f0, .int .i64 x1, .agg [.int .i64 x2_0, .int .i64 x2_1, .bool x2_2, .int .i64 x2_3, .int .i64 x2_4, .row n2_5 3 f2_5, .row n2_6 3 f2_6, .row n2_7 3 f2_7, .row n2_8 3 f2_8], .int .i64 x3] [v0, .int .i64 x1, v2, .int .i64 x3] := ⟨e0, .int _ _, e2, .int _ _, trivial⟩
  refine (law_calls clockOwns_base (args := [.row n0 4 f0, .int .i64 x1, .agg [.int .i64 x2_0, .int .i64 x2_1, .bool x2_2, .int .i64 x2_3, .int .i64 x2_4, .row n2_5 3 f2_5, .row n2_6 3 f2_6, .row n2_7 3 f2_7, .row n2_8 3 f2_8], .int .i64 x3]) rfl ⟨⟨rfl, fun i j hi hj => i0 i j hi hj⟩, ⟨rfl, fun i j hi hj => i2_5 i j hi hj⟩, ⟨rfl, fun i j hi hj => i2_6 i j hi hj⟩, ⟨rfl, fun i j hi hj => i2_7 i j hi hj⟩, ⟨rfl, fun i j hi hj => i2_8 i j hi hj⟩⟩ (denA_of hd)).mono fun e W' ⟨he, hb⟩ => ?_
  subst he
  exact ⟨_, rfl, law_end laid rfl Try.underlying4 (by kernel_rfl) rfl hW' rfl hb⟩
theorem over : Rows.clockOwnsRow.holds Try.pinned (OpenSpec.ofChange Rows.clockOwnsSpec) :=
  OpenClaim.holds_of_wide 9 Try.f9 rfl rfl rfl rfl rfl rfl rfl ⟨rfl, rfl, rfl, rfl, rfl⟩ rfl rfl rfl rfl rfl (by kernel_rfl) Try.func9 (by kernel_rfl)
    (of_decide_eq_true (by kernel_rfl)) (by unfold Func.isWrapper; first | (rw [if_pos (by decide +kernel)]; kernel_rfl) | (rw [if_neg (by decide +kernel)]; exact ⟨rfl, rfl⟩))
    (fun os started H enc _ => lifted os started H enc)
end Go.Proofs.Ytjkbmnhpbncdcaa.clockOwns
namespace Go.Proofs.Ytjkbmnhpbncdcaa
/-- The given statement. -/
theorem clockOwns_holds : Rows.ClockOwnsSaid := clockOwns.over
#print axioms clockOwns_holds
end Go.Proofs.Ytjkbmnhpbncdcaa
end
