/-
  A part of the symbolic machine, of its soundness, and of what functions compute. No condition.
-/
import Derived.Test.YtjkbmnhpbncdcaaK3
set_option linter.unusedSimpArgs false
set_option linter.unusedVariables false
/- clock: time passes, by the reference. -/
section
namespace Go.Eng
open Go Go.RowKit Go.Proofs
set_option maxRecDepth 100000
set_option maxHeartbeats 4000000
attribute [local irreducible] OwnT DefS
/-- A second of the game, by the reference. -/
def Ga.tick (s : Ga) : Ga := ⟨s.b.pass 1, s.now + 1, s.out ++ [⟨stren s.b.p0, stren s.b.p1, 0⟩]⟩
def passT : Nat → Ga → Int → Ga
  | 0, s, to => ⟨s.b, to, s.out⟩
  | k + 1, s, to => if s.b.run = true ∧ s.now < to then passT k s.tick to else ⟨s.b, to, s.out⟩
theorem passT_stop {s : Ga} {to : Int} (h : ¬ (s.b.run = true ∧ s.now < to)) : ∀ (k : Nat), passT k s to = ⟨s.b, to, s.out⟩
  | 0 => rfl
  | k + 1 => by simp only [passT]; rw [if_neg h]
theorem passT_now {to : Int} : ∀ (k : Nat) (s : Ga), (passT k s to).now = to
  | 0, s => rfl
  | k + 1, s => by simp only [passT]; split; exact passT_now k _; rfl
theorem tick_ok {s : Ga} (h : s.Ok) (hr : s.b.run = true) {to : Int} (hto : to ≤ 1048576) (ht : s.now < to) : s.tick.Ok := by
  have h1 := h.b.run hr
  have h2 := h.b.pl
  refine ⟨pass_ok h.b (by omega) (by omega) (fun k hk => (lOk_pf h.b.p0 (by have := wS_lt hk; omega)).1) (fun k hk => (lOk_pf h.b.p1 (by have := wS_lt hk; omega)).1) (fun k hk => (lOk_pf h.b.m0 hk).1) (fun k hk => (lOk_pf h.b.m1 hk).1), ?_, ?_⟩
  · have := h.now; simp only [Ga.tick]; omega
  · have := h.out
    simp only [Ga.tick, Bo.pass, List.length_append, List.length_singleton]
    omega
theorem passT_ok {to : Int} (hto : 0 ≤ to ∧ to ≤ 1048576) : ∀ (k : Nat) (s : Ga), s.Ok → (passT k s to).Ok
  | 0, s, h => ⟨h.b, hto, h.out⟩
  | k + 1, s, h => by
    simp only [passT]
    split
    · rename_i h1
      exact passT_ok hto k _ (tick_ok h h1.1 hto.2 h1.2)
    · exact ⟨h.b, hto, h.out⟩
/-- The reference's state, its strengths a slice of one's own. -/
def gtS (s : Ga) (v : Nat) : SV := .agg [.int .i64 s.b.per, .int .i64 s.b.pl, .bool s.b.run, .int .i64 s.b.g0, .int .i64 s.b.g1, rowP s.b.p0, rowP s.b.p1, rowP s.b.m0, rowP s.b.m1, .int .i64 s.now, .vec 0 v]
def gtC (s : Ga) (i v : Nat) : List SV := [.int .i64 s.b.per, .int .i64 s.b.pl, .bool s.b.run, .int .i64 s.b.g0, .int .i64 s.b.g1, rowP s.b.p0, rowP s.b.p1, rowP s.b.m0, rowP s.b.m1, .int .i64 s.now, .vec i v]
def stL (v : Nat) (l : List Pen) : Vc := .live v 24 2 l.length (fun i j => .int .i64 (pf l i j))
theorem passR_calls {s : Ga} (hs : s.Ok) {to : Int} (hto : 0 ≤ to ∧ to ≤ 1048576) (v : Nat) (k : Nat) (hk : to - s.now ≤ k) :
    CallsS Try.prog 56 [gtS s v, .int .i64 to] ⟨[], [stL v s.out]⟩ (fun o h' => ∃ v', o = .ret (gtS (passT k s to) v') ∧ h' = ⟨[], [stL v' (passT k s to).out]⟩) := by
  refine calls_trim (K := fun o h' => ∃ (v' : Nat) (B : List Blk) (V : List Vc), o = .ret (gtS (passT k s to) v') ∧ h' = ⟨B, stL v' (passT k s to).out :: V⟩) ?_ ?_
  · refine calls_of_run (C := cxn [] [(66, secondBase)] [] [(65, strengthRBase)] [(56, 3, p56_3)] none) (cxn_ok ⟨second_base, trivial⟩ trivial ⟨strengthR_base, trivial⟩) rfl fn_56 rfl 1000 ?_
    simp only [gtS, rowP, stL, Try.f56, go_sem, ↓reduceIte, Nat.reduceAdd, Nat.reduceSub, Nat.reduceMul, Nat.reduceEqDiff, Nat.reduceLT, Nat.reduceLeDiff, Int.reduceToNat, Int.reduceLE, Int.reduceLT, Int.reduceEq, Int.reduceNeg, reduceCtorEq]
    refine loop_of { x : Ga × Nat × Nat // x.1.Ok ∧ passT x.2.2 x.1 to = passT k s to ∧ to - x.1.now ≤ x.2.2 } (fun x => [(4, .ptr 1 0), (2, .ptr 0 0), (1, .int .i64 to)])
      (fun x => ⟨[.live 72 (gtC x.1.1 0 x.1.2.1), .live 72 [.int .i64 0, .int .i64 0, .bool false, .int .i64 0, .int .i64 0, .vec 1 0, .vec 2 0, .vec 3 0, .vec 4 0, .int .i64 0, .vec 5 0]], [stL x.1.2.1 x.1.1.out, .live 0 55 3 0 (fun _ _ => .any), .live 0 55 3 0 (fun _ _ => .any), .live 0 55 3 0 (fun _ _ => .any), .live 0 55 3 0 (fun _ _ => .any), .live 0 24 2 0 (fun _ _ => .any)]⟩) (fun x => (to - x.1.1.now).toNat) (fun _ => ⟨rfl, rfl⟩) ⟨(s, v, k), hs, rfl, hk⟩ (by simp only [gtC, rowP, stL]; (apply sub_of <;> simp only [go_sem, ↓reduceIte, Nat.reduceAdd, Nat.reduceSub, Nat.reduceMul, Nat.reduceEqDiff, Nat.reduceLT, Nat.reduceLeDiff, Int.reduceToNat, Int.reduceLE, Int.reduceLT, Int.reduceEq, Int.reduceNeg, reduceCtorEq] <;> (try simp [catF]) <;> (try exact fun j _ => Bd_nth (by simp [BdL, Bd]) j) <;> (try exact bd_setL (by simp [bdAs, BdL, Bd])) <;> (try exact nestF_bd _ _ _ _ _ _ _ _ _))) ?_
    rintro ⟨⟨S, v', k'⟩, hs', hp, hk'⟩
    simp only at hs' hp hk'
    have okB := hs'.b
    have hpl := okB.pl
    have hnow := hs'.now
    have hper := okB.per
    have hout := hs'.out
    have l0 := okB.p0.1
    have l1 := okB.p1.1
    simp only [gtC, rowP, stL, Try.f56, second_eq, strengthR_eq, pl_pf, p56_3, boS, go_sem, ↓reduceIte, Nat.reduceAdd, Nat.reduceSub, Nat.reduceMul, Nat.reduceEqDiff, Nat.reduceLT, Nat.reduceLeDiff, Int.reduceToNat, Int.reduceLE, Int.reduceLT, Int.reduceEq, Int.reduceNeg, reduceCtorEq]
    have stp : ∀ h : ¬ (S.b.run = true ∧ S.now < to), passT k s to = ⟨S.b, to, S.out⟩ := fun h => by rw [← hp, passT_stop h]
    refine ⟨fun e1 => ⟨fun e2 => ⟨⟨by kernel_rfl, by kernel_rfl⟩, by omega, by omega, by omega, by omega, by omega, by omega, ⟨okB, e2⟩, ?_⟩, fun e2 => ?_⟩, fun e1 => ?_⟩
    all_goals simp only [decide_eq_true_eq, decide_eq_false_iff_not] at e1
    · obtain ⟨k', rfl⟩ : ∃ j, k' = j + 1 := ⟨k' - 1, by omega⟩
      have hpp : passT k' S.tick to = passT k s to := by rw [← hp]; simp only [passT]; rw [if_pos ⟨e2, e1⟩]
      have w3 : IntKind.i64.wrap (S.now + 1) = S.now + 1 := wrap_id (by omega) (by omega)
      refine ⟨⟨(S.tick, v' + 1, k'), tick_ok hs' e2 hto.2 e1, hpp, ?_⟩, ?_, ?_⟩
      · simp only [Ga.tick]; omega
      · show (to - S.tick.now).toNat < _
        simp only [Ga.tick]; omega
      · apply sub_of <;> simp only [w3, Ga.tick, gtC, rowP, stL, List.length_append, List.length_singleton, go_sem, ↓reduceIte, Nat.reduceAdd, Nat.reduceSub, Nat.reduceMul, Nat.reduceEqDiff, Nat.reduceLT, Nat.reduceLeDiff, Int.reduceToNat, Int.reduceLE, Int.reduceLT, Int.reduceEq, Int.reduceNeg, reduceCtorEq] <;> (try simp) <;> (try exact fun j _ => Bd_nth (by simp [BdL, Bd]) j) <;> (try exact bd_setL (by simp [bdAs, BdL, Bd])) <;> (try exact nestF_bd _ _ _ _ _ _ _ _ _)
        intro i j hi hj
        rw [pf_app]
        by_cases h1 : i < S.out.length
        · simp only [catF, if_pos h1]
        · obtain rfl : i = S.out.length := by omega
          simp only [catF, if_neg h1, Nat.sub_self]
          have : j = 0 ∨ j = 1 := by omega
          rcases this with rfl | rfl <;> rfl
    · have e2 : S.b.run = false := e2
      rw [stp (by rintro ⟨h, _⟩; rw [e2] at h; cases h)]
      exact ⟨v', _, _, rfl, rfl⟩
    · rw [stp (by rintro ⟨_, h⟩; omega)]
      exact ⟨v', _, _, rfl, rfl⟩
  · rintro o h' ⟨v', B, V, rfl, rfl⟩
    refine ⟨_, _, ⟨[], [stL v' (passT k s to).out]⟩, ⟨rfl, v', rfl, rfl⟩, ⟨?_, ?_, ?_, ?_, ?_, ?_⟩, ⟨?_, ?_⟩, ⟨?_, ?_⟩⟩ <;> (try simp only [gtS, rowP, stL, go_sem, ↓reduceIte, Nat.reduceAdd, Nat.reduceSub, Nat.reduceMul, Nat.reduceEqDiff, Nat.reduceLT, Nat.reduceLeDiff, Int.reduceToNat, Int.reduceLE, Int.reduceLT, Int.reduceEq, Int.reduceNeg, reduceCtorEq]) <;> (try simp)
def passTF (s : Ga) (to : Int) : Ga := passT (to - s.now).toNat s to
/-- The game behind events up to a second, by the reference: it ends at the first one that is later. -/
def playT (ev : Nat → Ev) (to : Int) : Nat → Nat → Ga → Ga × Nat × Int
  | 0, i, s => (s, i, 0)
  | k + 1, i, s => if evOk (ev i) = false then (s, i, 1) else if i ≠ 0 ∧ (ev i).s < (ev (i - 1)).s then (s, i, 7) else
    if to < (ev i).s then (s, i + (k + 1), 0) else
      if ((passTF s (ev i).s).b.deed (ev i)).2 ≠ 0 then (s, i, ((passTF s (ev i).s).b.deed (ev i)).2)
      else playT ev to k (i + 1) ⟨((passTF s (ev i).s).b.deed (ev i)).1, (ev i).s, (passTF s (ev i).s).out⟩
theorem passTF_ok {to : Int} (hto : 0 ≤ to ∧ to ≤ 1048576) {s : Ga} (h : s.Ok) : (passTF s to).Ok := passT_ok hto _ _ h
theorem passTF_now (s : Ga) (to : Int) : (passTF s to).now = to := passT_now _ _
theorem passT_cnt {to : Int} {n : Nat} : ∀ (k : Nat) (s : Ga), s.b.Cnt n → (passT k s to).b.Cnt n
  | 0, s, h => h
  | k + 1, s, h => by
    simp only [passT]
    split
    · exact passT_cnt k _ ⟨Nat.le_trans (goneW_len _ _ _ _) h.p0, Nat.le_trans (goneW_len _ _ _ _) h.p1, Nat.le_trans (goneW_len _ _ _ _) h.m0, Nat.le_trans (goneW_len _ _ _ _) h.m1, h.g0, h.g1⟩
    · exact h
/-- The reference's pass, its strengths the slice q. -/
theorem passR_at {s : Ga} (hs : s.Ok) {to : Int} (hto : 0 ≤ to ∧ to ≤ 1048576) (v : Nat) (h : HS) (q : Nat) (hq : getV h.vecs q = stL v s.out) :
    CallsS Try.prog 56 [.agg (gtC s q v), .int .i64 to] h (fun o h' => ∃ v', o = .ret (.agg (gtC (passTF s to) q v')) ∧ h' = ⟨h.blks, setV h.vecs q (stL v' (passTF s to).out)⟩) := by
  have := calls_ren (h := h) [] [q] (passR_calls hs hto v (to - s.now).toNat (by omega)) (by simp) (by simp) (by simp [gtS, rowP, BdL, Bd]) (by simp [bdB]) (by simp [stL, bdV, Bd])
    (by simp only [go_sem, ↓reduceIte, Nat.reduceAdd, Nat.reduceSub, Nat.reduceMul, Nat.reduceEqDiff, Nat.reduceLT, Nat.reduceLeDiff, Int.reduceToNat, Int.reduceLE, Int.reduceLT, Int.reduceEq, Int.reduceNeg, reduceCtorEq]) ⟨by simp only [stL, go_sem, ↓reduceIte, Nat.reduceAdd, Nat.reduceSub, Nat.reduceMul, Nat.reduceEqDiff, Nat.reduceLT, Nat.reduceLeDiff, Int.reduceToNat, Int.reduceLE, Int.reduceLT, Int.reduceEq, Int.reduceNeg, reduceCtorEq]; exact hq, trivial⟩ (by simp) (by intro k' hk'; simp at hk'; subst hk'; exact getV_lt hq)
    (by rintro o h' ⟨v', rfl, rfl⟩; simp [gtS, stL, rowP, bdO, bdB, bdV, BdL, Bd, lenB, lenV])
  simp only [gtS, rowP, stL, go_sem, ↓reduceIte, Nat.reduceAdd, Nat.reduceSub, Nat.reduceMul, Nat.reduceEqDiff, Nat.reduceLT, Nat.reduceLeDiff, Int.reduceToNat, Int.reduceLE, Int.reduceLT, Int.reduceEq, Int.reduceNeg, reduceCtorEq] at this
  refine calls_mono ?_ this
  rintro o h' ⟨o0, h0', ⟨v', rfl, rfl⟩, rfl, rfl⟩
  exact ⟨v', by simp only [gtC, rowP, go_sem, ↓reduceIte, Nat.reduceAdd, Nat.reduceSub, Nat.reduceMul, Nat.reduceEqDiff, Nat.reduceLT, Nat.reduceLeDiff, Int.reduceToNat, Int.reduceLE, Int.reduceLT, Int.reduceEq, Int.reduceNeg, reduceCtorEq]; rfl, by simp only [stL, go_sem, ↓reduceIte, Nat.reduceAdd, Nat.reduceSub, Nat.reduceMul, Nat.reduceEqDiff, Nat.reduceLT, Nat.reduceLeDiff, Int.reduceToNat, Int.reduceLE, Int.reduceLT, Int.reduceEq, Int.reduceNeg, reduceCtorEq]; rfl⟩
end Go.Eng
end

/- clock: events, by the reference. -/
section
namespace Go.Eng
open Go Go.RowKit Go.Proofs
set_option maxRecDepth 100000
set_option maxHeartbeats 4000000
attribute [local irreducible] OwnT DefS
def q44_10 : Plan := .quiet 0 (.quiet 1 (.quiet 2 (.quiet 3 (.quiet 4 (.quiet 5 (.loud 6 [] (.loud 7 [] (.done))))))))
theorem playR_calls {n : Nat} (hn : n ≤ 300) {l : Nat → Nat → Int} {to : Int} (hto : 0 ≤ to ∧ to ≤ 1048576) (hne : (playT (evN l) to n 0 G0).2.2 = 0) :
    CallsS Try.prog 44 [.row n 4 (fun i j => .int .i64 (l i j)), .int .i64 to] ⟨[], []⟩ (fun o h' => ∃ v', o = .ret (.tup [.agg (gtC (playT (evN l) to n 0 G0).1 9 v'), .int .i64 (n : Int), .int .i64 0]) ∧ h' = ⟨[], [.dead, .dead, .dead, .dead, .dead, .dead, .dead, .dead, .dead, stL v' (playT (evN l) to n 0 G0).1.out]⟩) := by
  generalize hR : playT (evN l) to n 0 G0 = R at hne ⊢
  refine calls_trim (K := fun o h' => ∃ (v' : Nat) (B : List Blk) (V0 V1 V2 V3 V4 V5 V6 V7 V8 : Vc) (V : List Vc), o = .ret (.tup [.agg (gtC R.1 9 v'), .int .i64 (n : Int), .int .i64 0]) ∧ h' = ⟨B, V0 :: V1 :: V2 :: V3 :: V4 :: V5 :: V6 :: V7 :: V8 :: stL v' R.1.out :: V⟩) ?_ ?_
  · refine calls_of_run (C := cxn [56] [(58, doRfBase)] [] [(57, eventRBase)] [(44, 7, p44_7), (44, 10, q44_10), (44, 11, p44_11)] none) (cxn_ok ⟨doRf_base, trivial⟩ trivial ⟨eventR_base, trivial⟩) rfl fn_44 rfl 1000 ?_
    simp only [Try.f44, go_sem, ↓reduceIte, Nat.reduceAdd, Nat.reduceSub, Nat.reduceMul, Nat.reduceEqDiff, Nat.reduceLT, Nat.reduceLeDiff, Int.reduceToNat, Int.reduceLE, Int.reduceLT, Int.reduceEq, Int.reduceNeg, reduceCtorEq]
    refine loop_of { x : Nat × Ga × Nat // x.1 ≤ n ∧ x.2.1.Ok ∧ x.2.1.b.Cnt x.1 ∧ playT (evN l) to (n - x.1) x.1 x.2.1 = R }
      (fun x => [(8, .int .i64 (x.1.1 : Int)), (7, .ptr 1 0), (6, .int .i64 0), (5, .int .i64 0), (4, .ptr 0 0), (1, .int .i64 to), (0, .row n 4 (fun i j => .int .i64 (l i j)))])
      (fun x => ⟨[.live 72 [.int .i64 0, .int .i64 0, .bool false, .int .i64 0, .int .i64 0, .vec 0 0, .vec 1 0, .vec 2 0, .vec 3 0, .int .i64 0, .vec 4 0], .live 72 (gtC x.1.2.1 9 x.1.2.2)], [.live 0 55 3 0 (fun _ _ => .any), .live 0 55 3 0 (fun _ _ => .any), .live 0 55 3 0 (fun _ _ => .any), .live 0 55 3 0 (fun _ _ => .any), .live 0 24 2 0 (fun _ _ => .any), .dead, .dead, .dead, .dead, stL x.1.2.2 x.1.2.1.out]⟩) (fun x => n - x.1.1) (fun _ => ⟨rfl, rfl⟩) ⟨(0, G0, 0), by omega, G0_ok, G0_cnt, hR⟩ ?_ ?_
    · refine sub_fzB 5 1 5 rfl rfl rfl (sub_fzB 6 1 6 rfl rfl rfl (sub_fzB 7 1 7 rfl rfl rfl (sub_fzB 8 1 8 rfl rfl rfl ?_)))
      simp only [gtC, G0, Bo.z, rowP, stL, List.length_nil, go_sem, ↓reduceIte, Nat.reduceAdd, Nat.reduceSub, Nat.reduceMul, Nat.reduceEqDiff, Nat.reduceLT, Nat.reduceLeDiff, Int.reduceToNat, Int.reduceLE, Int.reduceLT, Int.reduceEq, Int.reduceNeg, reduceCtorEq]
      (apply sub_of <;> simp only [go_sem, ↓reduceIte, Nat.reduceAdd, Nat.reduceSub, Nat.reduceMul, Nat.reduceEqDiff, Nat.reduceLT, Nat.reduceLeDiff, Int.reduceToNat, Int.reduceLE, Int.reduceLT, Int.reduceEq, Int.reduceNeg, reduceCtorEq] <;> (try simp [catF]) <;> (try exact fun j _ => Bd_nth (by simp [BdL, Bd]) j) <;> (try exact bd_setL (by simp [bdAs, BdL, Bd])) <;> (try exact nestF_bd _ _ _ _ _ _ _ _ _))
    rintro ⟨⟨i, S, v⟩, hi, hs', hc, hp⟩
    simp only at hi hs' hc hp
    simp only [gtC, rowP, stL, Try.f44, eventR_eq, doRf_eq, boS, p44_7, q44_10, p44_11, go_sem, ↓reduceIte, Nat.reduceAdd, Nat.reduceSub, Nat.reduceMul, Nat.reduceEqDiff, Nat.reduceLT, Nat.reduceLeDiff, Int.reduceToNat, Int.reduceLE, Int.reduceLT, Int.reduceEq, Int.reduceNeg, reduceCtorEq]
    have hw3 : IntKind.i64.wrap ((i : Int) + 1) = ((i + 1 : Nat) : Int) := by rw [wrap_id (by omega) (by omega)]; omega
    have hwm : i ≠ 0 → IntKind.i64.wrap ((i : Int) - 1) = ((i - 1 : Nat) : Int) := fun h => by rw [wrap_id (by omega) (by omega)]; omega
    have goOn : ∀ k, n - i = k + 1 → evOk (evN l i) = true → ¬ (i ≠ 0 ∧ (evN l i).s < (evN l (i - 1)).s) → ¬ to < (evN l i).s → ((passTF S (evN l i).s).b.deed (evN l i)).2 = 0 → playT (evN l) to k (i + 1) ⟨((passTF S (evN l i).s).b.deed (evN l i)).1, (evN l i).s, (passTF S (evN l i).s).out⟩ = R := fun k hk h1 h2 h3 h4 => by
      rw [← hp, hk, playT, if_neg (by rw [h1]; simp), if_neg h2, if_neg h3, if_neg (by rw [h4]; simp)]
    have bad : ∀ k, n - i = k + 1 → evOk (evN l i) = true → ¬ (i ≠ 0 ∧ (evN l i).s < (evN l (i - 1)).s) → ¬ to < (evN l i).s → ((passTF S (evN l i).s).b.deed (evN l i)).2 ≠ 0 → R = (S, i, ((passTF S (evN l i).s).b.deed (evN l i)).2) := fun k hk h1 h2 h3 h4 => by
      rw [← hp, hk, playT, if_neg (by rw [h1]; simp), if_neg h2, if_neg h3, if_pos h4]
    have brk : ∀ k, n - i = k + 1 → evOk (evN l i) = true → ¬ (i ≠ 0 ∧ (evN l i).s < (evN l (i - 1)).s) → to < (evN l i).s → R = (S, n, 0) := fun k hk h1 h2 h3 => by
      rw [← hp, hk, playT, if_neg (by rw [h1]; simp), if_neg h2, if_pos h3, show i + (k + 1) = n by omega]
    refine ⟨fun e1 => ?_, fun e1 => ?_⟩
    all_goals simp only [decide_eq_true_eq, decide_eq_false_iff_not] at e1
    · obtain ⟨k, hk⟩ : ∃ k, n - i = k + 1 := ⟨n - i - 1, by omega⟩
      refine ⟨by omega, fun e2 => ?_, fun e2 => ⟨⟨by kernel_rfl, by kernel_rfl⟩, fun e3 => ⟨by omega, ?_, fun e4 => ?_, fun e4 => ⟨by omega, fun e5 => ?_, fun e5 => ⟨⟨by kernel_rfl, by kernel_rfl⟩, by omega, ?_⟩⟩⟩, fun e3 => ⟨by omega, fun e5 => ?_, fun e5 => ⟨⟨by kernel_rfl, by kernel_rfl⟩, by omega, ?_⟩⟩⟩⟩
      all_goals try simp only [decide_eq_true_eq, decide_eq_false_iff_not] at e3
      · have hpl : R = (S, i, 1) := by
          rw [← hp, hk, playT, if_pos]
          simpa [evN] using e2
        rw [hpl] at hne; cases hne
      · rw [hwm (by omega)]; omega
      · rw [hwm (by omega)] at e4
        have hev : evOk (evN l i) = true := by simpa [evN] using e2
        have hpl : R = (S, i, 7) := by
          rw [← hp, hk, playT, if_neg (by rw [hev]; simp), if_pos ⟨by omega, by simpa [evN] using e4⟩]
        rw [hpl] at hne; cases hne
      · rw [hwm (by omega)] at e4
        have hev : evOk (evN l i) = true := by simpa [evN] using e2
        have hord : ¬ (i ≠ 0 ∧ (evN l i).s < (evN l (i - 1)).s) := by
          have : ¬ (evN l i).s < (evN l (i - 1)).s := by simpa [evN] using e4
          exact fun h => this h.2
        have hpl := brk k hk hev hord (by simpa [evN] using e5)
        rw [hpl]
        exact ⟨v, _, _, _, _, _, _, _, _, _, _, _, rfl, rfl⟩
      · rw [hwm (by omega)] at e4
        have hev : evOk (evN l i) = true := by simpa [evN] using e2
        have hord : ¬ (i ≠ 0 ∧ (evN l i).s < (evN l (i - 1)).s) := by
          have : ¬ (evN l i).s < (evN l (i - 1)).s := by simpa [evN] using e4
          exact fun h => this h.2
        have hx := evOk_iff.1 hev
        simp only [evN] at hx
        have hl1 : (evN l i).s = l i 1 := rfl
        have hnto : ¬ to < (evN l i).s := by simpa [evN] using e5
        refine calls_mono ?_ (passR_at hs' hx.2.1 v _ 9 rfl)
        rintro o h' ⟨v1, rfl, rfl⟩
        have h1 := passTF_ok hx.2.1 hs'
        have h2 : (passTF S (l i 1)).now = l i 1 := passTF_now _ _
        have h3 : (passTF S (l i 1)).b.Cnt i := passT_cnt _ _ hc
        have hbad := bad k hk hev hord hnto
        have hgood := goOn k hk hev hord hnto
        have hd1 := deed_ok h1 h3 (by omega) (evN l i)
        have hd2 := deed_cnt h3 (evN l i)
        rw [hl1] at hbad hgood
        generalize passTF S (l i 1) = S1 at h1 h2 h3 hbad hgood hd1 hd2
        simp only [gtC, rowP, stL, Try.f44, eventR_eq, doRf_eq, pl_pf, boS, p44_7, q44_10, p44_11, go_sem, ↓reduceIte, Nat.reduceAdd, Nat.reduceSub, Nat.reduceMul, Nat.reduceEqDiff, Nat.reduceLT, Nat.reduceLeDiff, Int.reduceToNat, Int.reduceLE, Int.reduceLT, Int.reduceEq, Int.reduceNeg, reduceCtorEq]
        have hdd : (⟨S1.b.per, S1.b.pl, S1.b.run, S1.b.g0, S1.b.g1, S1.b.p0, S1.b.p1, S1.b.m0, S1.b.m1⟩ : Bo).deed ⟨l i 0, l i 1, l i 2, l i 3⟩ = S1.b.deed (evN l i) := rfl
        simp only [hdd]
        rw [h2] at hd1
        generalize S1.b.deed (evN l i) = r at hbad hgood hd1 hd2
        refine ⟨⟨by kernel_rfl, by kernel_rfl⟩, by omega, ⟨h1.b, hev⟩, ⟨by omega, h1.b, hev⟩, fun e6 => ?_, fun e6 => ?_⟩
        · have hpl := hbad (by simpa using e6)
          rw [hpl] at hne; exact absurd hne (by simpa using e6)
        · have hg := hgood (by simpa using e6)
          refine ⟨⟨(i + 1, ⟨r.1, l i 1, S1.out⟩, v1), by omega, hd1, hd2, ?_⟩, by simp only []; omega, ?_⟩
          · simp only []
            rw [show n - (i + 1) = k by omega]
            exact hg
          · rw [h2]
            apply sub_of <;> simp only [hw3, gtC, rowP, stL, go_sem, ↓reduceIte, Nat.reduceAdd, Nat.reduceSub, Nat.reduceMul, Nat.reduceEqDiff, Nat.reduceLT, Nat.reduceLeDiff, Int.reduceToNat, Int.reduceLE, Int.reduceLT, Int.reduceEq, Int.reduceNeg, reduceCtorEq] <;> (try simp) <;> (try exact fun j _ => Bd_nth (by simp [BdL, Bd]) j) <;> (try exact bd_setL (by simp [bdAs, BdL, Bd])) <;> (try exact nestF_bd _ _ _ _ _ _ _ _ _)
      · have hev : evOk (evN l i) = true := by simpa [evN] using e2
        have hord : ¬ (i ≠ 0 ∧ (evN l i).s < (evN l (i - 1)).s) := by omega
        have hpl := brk k hk hev hord (by simpa [evN] using e5)
        rw [hpl]
        exact ⟨v, _, _, _, _, _, _, _, _, _, _, _, rfl, rfl⟩
      · have hev : evOk (evN l i) = true := by simpa [evN] using e2
        have hord : ¬ (i ≠ 0 ∧ (evN l i).s < (evN l (i - 1)).s) := by omega
        have hx := evOk_iff.1 hev
        simp only [evN] at hx
        have hl1 : (evN l i).s = l i 1 := rfl
        have hnto : ¬ to < (evN l i).s := by simpa [evN] using e5
        refine calls_mono ?_ (passR_at hs' hx.2.1 v _ 9 rfl)
        rintro o h' ⟨v1, rfl, rfl⟩
        have h1 := passTF_ok hx.2.1 hs'
        have h2 : (passTF S (l i 1)).now = l i 1 := passTF_now _ _
        have h3 : (passTF S (l i 1)).b.Cnt i := passT_cnt _ _ hc
        have hbad := bad k hk hev hord hnto
        have hgood := goOn k hk hev hord hnto
        have hd1 := deed_ok h1 h3 (by omega) (evN l i)
        have hd2 := deed_cnt h3 (evN l i)
        rw [hl1] at hbad hgood
        generalize passTF S (l i 1) = S1 at h1 h2 h3 hbad hgood hd1 hd2
        simp only [gtC, rowP, stL, Try.f44, eventR_eq, doRf_eq, pl_pf, boS, p44_7, q44_10, p44_11, go_sem, ↓reduceIte, Nat.reduceAdd, Nat.reduceSub, Nat.reduceMul, Nat.reduceEqDiff, Nat.reduceLT, Nat.reduceLeDiff, Int.reduceToNat, Int.reduceLE, Int.reduceLT, Int.reduceEq, Int.reduceNeg, reduceCtorEq]
        have hdd : (⟨S1.b.per, S1.b.pl, S1.b.run, S1.b.g0, S1.b.g1, S1.b.p0, S1.b.p1, S1.b.m0, S1.b.m1⟩ : Bo).deed ⟨l i 0, l i 1, l i 2, l i 3⟩ = S1.b.deed (evN l i) := rfl
        simp only [hdd]
        rw [h2] at hd1
        generalize S1.b.deed (evN l i) = r at hbad hgood hd1 hd2
        refine ⟨⟨by kernel_rfl, by kernel_rfl⟩, by omega, ⟨h1.b, hev⟩, ⟨by omega, h1.b, hev⟩, fun e6 => ?_, fun e6 => ?_⟩
        · have hpl := hbad (by simpa using e6)
          rw [hpl] at hne; exact absurd hne (by simpa using e6)
        · have hg := hgood (by simpa using e6)
          refine ⟨⟨(i + 1, ⟨r.1, l i 1, S1.out⟩, v1), by omega, hd1, hd2, ?_⟩, by simp only []; omega, ?_⟩
          · simp only []
            rw [show n - (i + 1) = k by omega]
            exact hg
          · rw [h2]
            apply sub_of <;> simp only [hw3, gtC, rowP, stL, go_sem, ↓reduceIte, Nat.reduceAdd, Nat.reduceSub, Nat.reduceMul, Nat.reduceEqDiff, Nat.reduceLT, Nat.reduceLeDiff, Int.reduceToNat, Int.reduceLE, Int.reduceLT, Int.reduceEq, Int.reduceNeg, reduceCtorEq] <;> (try simp) <;> (try exact fun j _ => Bd_nth (by simp [BdL, Bd]) j) <;> (try exact bd_setL (by simp [bdAs, BdL, Bd])) <;> (try exact nestF_bd _ _ _ _ _ _ _ _ _)
    · have hpl : R = (S, n, 0) := by
        rw [← hp, show n - i = 0 by omega, playT, show i = n by omega]
      rw [hpl]
      exact ⟨v, _, _, _, _, _, _, _, _, _, _, _, rfl, rfl⟩
  · rintro o h' ⟨v', B, V0, V1, V2, V3, V4, V5, V6, V7, V8, V, rfl, rfl⟩
    refine ⟨_, _, ⟨[], [.dead, .dead, .dead, .dead, .dead, .dead, .dead, .dead, .dead, stL v' R.1.out]⟩, ⟨rfl, v', rfl, rfl⟩, ⟨?_, ?_, ?_, ?_, ?_, ?_⟩, ⟨?_, ?_⟩, ⟨?_, ?_⟩⟩ <;> (try simp only [gtC, rowP, stL, go_sem, ↓reduceIte, Nat.reduceAdd, Nat.reduceSub, Nat.reduceMul, Nat.reduceEqDiff, Nat.reduceLT, Nat.reduceLeDiff, Int.reduceToNat, Int.reduceLE, Int.reduceLT, Int.reduceEq, Int.reduceNeg, reduceCtorEq]) <;> (try simp)
end Go.Eng
end

/- clock: Play, by the reference. -/
section
namespace Go.Eng
open Go Go.RowKit Go.Proofs
set_option maxRecDepth 100000
set_option maxHeartbeats 4000000
attribute [local irreducible] OwnT DefS
/-- Play, by the reference: the board, the index, and the error. -/
def plT (n : Nat) (l : Nat → Nat → Int) : Bo × Int × Int :=
  if 256 < n then (Bo.z, 0, 3) else
    if (playT (evN l) 1048576 n 0 G0).2.2 ≠ 0 then (Bo.z, ((playT (evN l) 1048576 n 0 G0).2.1 : Int), (playT (evN l) 1048576 n 0 G0).2.2) else ((playT (evN l) 1048576 n 0 G0).1.b, ((playT (evN l) 1048576 n 0 G0).2.1 : Int), 0)
def playTBase : BaseF := fun args => match args with
  | [.row n sz_l f_l] => some ((sz_l = 4 ∧ IntR n 4 f_l) ∧ (n ≤ 1000000), .tup [boS (plT n (ivf f_l)).1, .int .i64 (plT n (ivf f_l)).2.1, .int .i64 (plT n (ivf f_l)).2.2])
  | _ => none
theorem playT_eq (n : Nat) (sz_l : Nat) (f_l : Nat → Nat → SV) : playTBase [.row n sz_l f_l] = some ((sz_l = 4 ∧ IntR n 4 f_l) ∧ (n ≤ 1000000), .tup [boS (plT n (ivf f_l)).1, .int .i64 (plT n (ivf f_l)).2.1, .int .i64 (plT n (ivf f_l)).2.2]) := rfl
theorem playT_base : NB Try.prog 23 playTBase := by
  intro args p v hq hp
  unfold playTBase at hq
  split at hq
  rotate_left
  · cases hq
  rename_i n sz_l f_l
  cases hq
  obtain ⟨⟨rfl, i_l⟩, pre⟩ := hp
  refine nb_of (C := cxn [56] [(58, doRfBase)] [] [(57, eventRBase)] [(44, 7, p44_7), (44, 10, q44_10), (44, 11, p44_11)] none) (cxn_ok ⟨doRf_base, trivial⟩ trivial ⟨eventR_base, trivial⟩) rfl (g := 23) (fn := Try.f23)
    (args' := [.row n 4 (rowF .i64 (ivf f_l))]) (fn_23) rfl 1000 (by
    simp only [BdL, Bd, and_self, and_true, true_and]
    exact (fun i j hi hj => by rw [i_l i j hi hj]; trivial)) ⟨SameD.int i_l, trivial⟩ (by simp only [boS, rowP, Bd, BdL, and_true, implies_true]) ?_
  generalize ivf f_l = l at *
  simp only [rowF_eq]
  simp only [eventR_eq, doRf_eq, p44_7, q44_10, p44_11, Try.f44, boS, rowP, Try.f23, go_sem, ↓reduceIte, Nat.reduceAdd, Nat.reduceSub, Nat.reduceMul, Nat.reduceEqDiff, Nat.reduceLT, Nat.reduceLeDiff, Int.reduceToNat, Int.reduceLE, Int.reduceLT, Int.reduceEq, Int.reduceNeg, reduceCtorEq]
  obtain ⟨to, hto0⟩ : ∃ to : Int, to = 1048576 := ⟨_, rfl⟩
  have hto : 0 ≤ to ∧ to ≤ 1048576 := by omega
  refine ⟨fun e1 => ?_, fun e1 => ?_⟩
  all_goals simp only [decide_eq_true_eq, decide_eq_false_iff_not] at e1
  · have h : plT n l = (Bo.z, 0, 3) := by unfold plT; rw [if_pos (by omega)]
    rw [h]
    exact ⟨fun i j h => by omega, SameD.tup ⟨boS_z, SameD.rfl' _, SameD.rfl' _, trivial⟩⟩
  · have hn : n ≤ 300 := by omega
    have hres : plT n l = if (playT (evN l) to n 0 G0).2.2 ≠ 0 then (Bo.z, ((playT (evN l) to n 0 G0).2.1 : Int), (playT (evN l) to n 0 G0).2.2) else ((playT (evN l) to n 0 G0).1.b, ((playT (evN l) to n 0 G0).2.1 : Int), 0) := by unfold plT; rw [if_neg (by omega), hto0]
    rw [hres, ← hto0]
    generalize hR : playT (evN l) to n 0 G0 = R
    have errP : ∀ {S : Ga} {i : Nat} {e : Int}, R = (S, i, e) → e ≠ 0 → (if R.2.2 ≠ 0 then (Bo.z, (R.2.1 : Int), R.2.2) else (R.1.b, (R.2.1 : Int), 0)) = (Bo.z, (i : Int), e) := fun h h2 => by rw [h]; exact if_pos h2
    have finP : ∀ {S : Ga} {i : Nat}, R = (S, i, 0) → (if R.2.2 ≠ 0 then (Bo.z, (R.2.1 : Int), R.2.2) else (R.1.b, (R.2.1 : Int), 0)) = (S.b, (i : Int), 0) := fun h => by rw [h]; exact if_neg (by simp)
    refine loop_of { x : Nat × Ga × Nat // x.1 ≤ n ∧ x.2.1.Ok ∧ x.2.1.b.Cnt x.1 ∧ playT (evN l) to (n - x.1) x.1 x.2.1 = R }
      (fun x => [(8, .int .i64 (x.1.1 : Int)), (7, .ptr 2 0), (6, .int .i64 0), (5, .int .i64 0), (4, .ptr 1 0), (1, .int .i64 to), (0, .row n 4 (fun i j => .int .i64 (l i j)))])
      (fun x => ⟨[.live 28 [.int .i64 0, .int .i64 0, .bool false, .int .i64 0, .int .i64 0, .vec 0 0, .vec 1 0, .vec 2 0, .vec 3 0], .live 72 [.int .i64 0, .int .i64 0, .bool false, .int .i64 0, .int .i64 0, .vec 4 0, .vec 5 0, .vec 6 0, .vec 7 0, .int .i64 0, .vec 8 0], .live 72 (gtC x.1.2.1 13 x.1.2.2)], [.live 0 55 3 0 (fun _ _ => .any), .live 0 55 3 0 (fun _ _ => .any), .live 0 55 3 0 (fun _ _ => .any), .live 0 55 3 0 (fun _ _ => .any), .live 0 55 3 0 (fun _ _ => .any), .live 0 55 3 0 (fun _ _ => .any), .live 0 55 3 0 (fun _ _ => .any), .live 0 55 3 0 (fun _ _ => .any), .live 0 24 2 0 (fun _ _ => .any), .dead, .dead, .dead, .dead, stL x.1.2.2 x.1.2.1.out]⟩) (fun x => n - x.1.1) (fun _ => ⟨rfl, rfl⟩) ⟨(0, G0, 0), by omega, G0_ok, G0_cnt, hR⟩ ?_ ?_
    · refine sub_fzB 9 2 5 rfl rfl rfl (sub_fzB 10 2 6 rfl rfl rfl (sub_fzB 11 2 7 rfl rfl rfl (sub_fzB 12 2 8 rfl rfl rfl ?_)))
      simp only [gtC, G0, Bo.z, rowP, stL, List.length_nil, go_sem, ↓reduceIte, Nat.reduceAdd, Nat.reduceSub, Nat.reduceMul, Nat.reduceEqDiff, Nat.reduceLT, Nat.reduceLeDiff, Int.reduceToNat, Int.reduceLE, Int.reduceLT, Int.reduceEq, Int.reduceNeg, reduceCtorEq]
      (apply sub_of <;> simp only [go_sem, ↓reduceIte, Nat.reduceAdd, Nat.reduceSub, Nat.reduceMul, Nat.reduceEqDiff, Nat.reduceLT, Nat.reduceLeDiff, Int.reduceToNat, Int.reduceLE, Int.reduceLT, Int.reduceEq, Int.reduceNeg, reduceCtorEq] <;> (try simp [catF]) <;> (try exact fun j _ => Bd_nth (by simp [BdL, Bd]) j) <;> (try exact bd_setL (by simp [bdAs, BdL, Bd])) <;> (try exact nestF_bd _ _ _ _ _ _ _ _ _))
    rintro ⟨⟨i, S, v⟩, hi, hs', hc, hp⟩
    simp only at hi hs' hc hp
    simp only [gtC, rowP, stL, Try.f23, rowP, Try.f44, eventR_eq, doRf_eq, boS, p44_7, q44_10, p44_11, go_sem, ↓reduceIte, Nat.reduceAdd, Nat.reduceSub, Nat.reduceMul, Nat.reduceEqDiff, Nat.reduceLT, Nat.reduceLeDiff, Int.reduceToNat, Int.reduceLE, Int.reduceLT, Int.reduceEq, Int.reduceNeg, reduceCtorEq]
    have hw3 : IntKind.i64.wrap ((i : Int) + 1) = ((i + 1 : Nat) : Int) := by rw [wrap_id (by omega) (by omega)]; omega
    have hwm : i ≠ 0 → IntKind.i64.wrap ((i : Int) - 1) = ((i - 1 : Nat) : Int) := fun h => by rw [wrap_id (by omega) (by omega)]; omega
    have goOn : ∀ k, n - i = k + 1 → evOk (evN l i) = true → ¬ (i ≠ 0 ∧ (evN l i).s < (evN l (i - 1)).s) → ¬ to < (evN l i).s → ((passTF S (evN l i).s).b.deed (evN l i)).2 = 0 → playT (evN l) to k (i + 1) ⟨((passTF S (evN l i).s).b.deed (evN l i)).1, (evN l i).s, (passTF S (evN l i).s).out⟩ = R := fun k hk h1 h2 h3 h4 => by
      rw [← hp, hk, playT, if_neg (by rw [h1]; simp), if_neg h2, if_neg h3, if_neg (by rw [h4]; simp)]
    have bad : ∀ k, n - i = k + 1 → evOk (evN l i) = true → ¬ (i ≠ 0 ∧ (evN l i).s < (evN l (i - 1)).s) → ¬ to < (evN l i).s → ((passTF S (evN l i).s).b.deed (evN l i)).2 ≠ 0 → R = (S, i, ((passTF S (evN l i).s).b.deed (evN l i)).2) := fun k hk h1 h2 h3 h4 => by
      rw [← hp, hk, playT, if_neg (by rw [h1]; simp), if_neg h2, if_neg h3, if_pos h4]
    have brk : ∀ k, n - i = k + 1 → evOk (evN l i) = true → ¬ (i ≠ 0 ∧ (evN l i).s < (evN l (i - 1)).s) → to < (evN l i).s → R = (S, n, 0) := fun k hk h1 h2 h3 => by
      rw [← hp, hk, playT, if_neg (by rw [h1]; simp), if_neg h2, if_pos h3, show i + (k + 1) = n by omega]
    refine ⟨fun e1 => ?_, fun e1 => ?_⟩
    all_goals simp only [decide_eq_true_eq, decide_eq_false_iff_not] at e1
    · obtain ⟨k, hk⟩ : ∃ k, n - i = k + 1 := ⟨n - i - 1, by omega⟩
      refine ⟨by omega, fun e2 => ?_, fun e2 => ⟨⟨by kernel_rfl, by kernel_rfl⟩, fun e3 => ⟨by omega, ?_, fun e4 => ?_, fun e4 => ⟨by omega, fun e5 => ?_, fun e5 => ⟨⟨by kernel_rfl, by kernel_rfl⟩, by omega, ?_⟩⟩⟩, fun e3 => ⟨by omega, fun e5 => ?_, fun e5 => ⟨⟨by kernel_rfl, by kernel_rfl⟩, by omega, ?_⟩⟩⟩⟩
      all_goals try simp only [decide_eq_true_eq, decide_eq_false_iff_not] at e3
      · have hpl : R = (S, i, 1) := by
          rw [← hp, hk, playT, if_pos]
          simpa [evN] using e2
        rw [errP hpl (by decide)]
        exact ⟨fun i j h => by omega, SameD.tup ⟨boS_z, SameD.rfl' _, SameD.rfl' _, trivial⟩⟩
      · rw [hwm (by omega)]; omega
      · rw [hwm (by omega)] at e4
        have hev : evOk (evN l i) = true := by simpa [evN] using e2
        have hpl : R = (S, i, 7) := by
          rw [← hp, hk, playT, if_neg (by rw [hev]; simp), if_pos ⟨by omega, by simpa [evN] using e4⟩]
        rw [errP hpl (by decide)]
        exact ⟨fun i j h => by omega, SameD.tup ⟨boS_z, SameD.rfl' _, SameD.rfl' _, trivial⟩⟩
      · rw [hwm (by omega)] at e4
        have hev : evOk (evN l i) = true := by simpa [evN] using e2
        have hord : ¬ (i ≠ 0 ∧ (evN l i).s < (evN l (i - 1)).s) := by
          have : ¬ (evN l i).s < (evN l (i - 1)).s := by simpa [evN] using e4
          exact fun h => this h.2
        have hpl := brk k hk hev hord (by simpa [evN] using e5)
        rw [finP hpl]
        exact ⟨⟨fun _ _ _ _ => trivial, fun _ _ _ _ => trivial, fun _ _ _ _ => trivial, fun _ _ _ _ => trivial⟩, SameD.rfl' _⟩
      · rw [hwm (by omega)] at e4
        have hev : evOk (evN l i) = true := by simpa [evN] using e2
        have hord : ¬ (i ≠ 0 ∧ (evN l i).s < (evN l (i - 1)).s) := by
          have : ¬ (evN l i).s < (evN l (i - 1)).s := by simpa [evN] using e4
          exact fun h => this h.2
        have hx := evOk_iff.1 hev
        simp only [evN] at hx
        have hl1 : (evN l i).s = l i 1 := rfl
        have hnto : ¬ to < (evN l i).s := by simpa [evN] using e5
        refine calls_mono ?_ (passR_at hs' hx.2.1 v _ 13 rfl)
        rintro o h' ⟨v1, rfl, rfl⟩
        have h1 := passTF_ok hx.2.1 hs'
        have h2 : (passTF S (l i 1)).now = l i 1 := passTF_now _ _
        have h3 : (passTF S (l i 1)).b.Cnt i := passT_cnt _ _ hc
        have hbad := bad k hk hev hord hnto
        have hgood := goOn k hk hev hord hnto
        have hd1 := deed_ok h1 h3 (by omega) (evN l i)
        have hd2 := deed_cnt h3 (evN l i)
        rw [hl1] at hbad hgood
        generalize passTF S (l i 1) = S1 at h1 h2 h3 hbad hgood hd1 hd2
        simp only [gtC, rowP, stL, Try.f23, rowP, Try.f44, eventR_eq, doRf_eq, pl_pf, boS, p44_7, q44_10, p44_11, go_sem, ↓reduceIte, Nat.reduceAdd, Nat.reduceSub, Nat.reduceMul, Nat.reduceEqDiff, Nat.reduceLT, Nat.reduceLeDiff, Int.reduceToNat, Int.reduceLE, Int.reduceLT, Int.reduceEq, Int.reduceNeg, reduceCtorEq]
        have hdd : (⟨S1.b.per, S1.b.pl, S1.b.run, S1.b.g0, S1.b.g1, S1.b.p0, S1.b.p1, S1.b.m0, S1.b.m1⟩ : Bo).deed ⟨l i 0, l i 1, l i 2, l i 3⟩ = S1.b.deed (evN l i) := rfl
        simp only [hdd]
        rw [h2] at hd1
        generalize S1.b.deed (evN l i) = r at hbad hgood hd1 hd2
        refine ⟨⟨by kernel_rfl, by kernel_rfl⟩, by omega, ⟨h1.b, hev⟩, ⟨by omega, h1.b, hev⟩, fun e6 => ?_, fun e6 => ?_⟩
        · have hpl := hbad (by simpa using e6)
          rw [errP hpl (by simpa using e6)]
          exact ⟨fun _ => ⟨fun i j h => by omega, SameD.tup ⟨boS_z, SameD.rfl' _, SameD.rfl' _, trivial⟩⟩, fun h => absurd e6 (by rw [h]; decide)⟩
        · have hg := hgood (by simpa using e6)
          refine ⟨⟨(i + 1, ⟨r.1, l i 1, S1.out⟩, v1), by omega, hd1, hd2, ?_⟩, by simp only []; omega, ?_⟩
          · simp only []
            rw [show n - (i + 1) = k by omega]
            exact hg
          · rw [h2]
            apply sub_of <;> simp only [hw3, gtC, rowP, stL, go_sem, ↓reduceIte, Nat.reduceAdd, Nat.reduceSub, Nat.reduceMul, Nat.reduceEqDiff, Nat.reduceLT, Nat.reduceLeDiff, Int.reduceToNat, Int.reduceLE, Int.reduceLT, Int.reduceEq, Int.reduceNeg, reduceCtorEq] <;> (try simp) <;> (try exact fun j _ => Bd_nth (by simp [BdL, Bd]) j) <;> (try exact bd_setL (by simp [bdAs, BdL, Bd])) <;> (try exact nestF_bd _ _ _ _ _ _ _ _ _)
      · have hev : evOk (evN l i) = true := by simpa [evN] using e2
        have hord : ¬ (i ≠ 0 ∧ (evN l i).s < (evN l (i - 1)).s) := by omega
        have hpl := brk k hk hev hord (by simpa [evN] using e5)
        rw [finP hpl]
        exact ⟨⟨fun _ _ _ _ => trivial, fun _ _ _ _ => trivial, fun _ _ _ _ => trivial, fun _ _ _ _ => trivial⟩, SameD.rfl' _⟩
      · have hev : evOk (evN l i) = true := by simpa [evN] using e2
        have hord : ¬ (i ≠ 0 ∧ (evN l i).s < (evN l (i - 1)).s) := by omega
        have hx := evOk_iff.1 hev
        simp only [evN] at hx
        have hl1 : (evN l i).s = l i 1 := rfl
        have hnto : ¬ to < (evN l i).s := by simpa [evN] using e5
        refine calls_mono ?_ (passR_at hs' hx.2.1 v _ 13 rfl)
        rintro o h' ⟨v1, rfl, rfl⟩
        have h1 := passTF_ok hx.2.1 hs'
        have h2 : (passTF S (l i 1)).now = l i 1 := passTF_now _ _
        have h3 : (passTF S (l i 1)).b.Cnt i := passT_cnt _ _ hc
        have hbad := bad k hk hev hord hnto
        have hgood := goOn k hk hev hord hnto
        have hd1 := deed_ok h1 h3 (by omega) (evN l i)
        have hd2 := deed_cnt h3 (evN l i)
        rw [hl1] at hbad hgood
        generalize passTF S (l i 1) = S1 at h1 h2 h3 hbad hgood hd1 hd2
        simp only [gtC, rowP, stL, Try.f23, rowP, Try.f44, eventR_eq, doRf_eq, pl_pf, boS, p44_7, q44_10, p44_11, go_sem, ↓reduceIte, Nat.reduceAdd, Nat.reduceSub, Nat.reduceMul, Nat.reduceEqDiff, Nat.reduceLT, Nat.reduceLeDiff, Int.reduceToNat, Int.reduceLE, Int.reduceLT, Int.reduceEq, Int.reduceNeg, reduceCtorEq]
        have hdd : (⟨S1.b.per, S1.b.pl, S1.b.run, S1.b.g0, S1.b.g1, S1.b.p0, S1.b.p1, S1.b.m0, S1.b.m1⟩ : Bo).deed ⟨l i 0, l i 1, l i 2, l i 3⟩ = S1.b.deed (evN l i) := rfl
        simp only [hdd]
        rw [h2] at hd1
        generalize S1.b.deed (evN l i) = r at hbad hgood hd1 hd2
        refine ⟨⟨by kernel_rfl, by kernel_rfl⟩, by omega, ⟨h1.b, hev⟩, ⟨by omega, h1.b, hev⟩, fun e6 => ?_, fun e6 => ?_⟩
        · have hpl := hbad (by simpa using e6)
          rw [errP hpl (by simpa using e6)]
          exact ⟨fun _ => ⟨fun i j h => by omega, SameD.tup ⟨boS_z, SameD.rfl' _, SameD.rfl' _, trivial⟩⟩, fun h => absurd e6 (by rw [h]; decide)⟩
        · have hg := hgood (by simpa using e6)
          refine ⟨⟨(i + 1, ⟨r.1, l i 1, S1.out⟩, v1), by omega, hd1, hd2, ?_⟩, by simp only []; omega, ?_⟩
          · simp only []
            rw [show n - (i + 1) = k by omega]
            exact hg
          · rw [h2]
            apply sub_of <;> simp only [hw3, gtC, rowP, stL, go_sem, ↓reduceIte, Nat.reduceAdd, Nat.reduceSub, Nat.reduceMul, Nat.reduceEqDiff, Nat.reduceLT, Nat.reduceLeDiff, Int.reduceToNat, Int.reduceLE, Int.reduceLT, Int.reduceEq, Int.reduceNeg, reduceCtorEq] <;> (try simp) <;> (try exact fun j _ => Bd_nth (by simp [BdL, Bd]) j) <;> (try exact bd_setL (by simp [bdAs, BdL, Bd])) <;> (try exact nestF_bd _ _ _ _ _ _ _ _ _)
    · have hpl : R = (S, n, 0) := by
        rw [← hp, show n - i = 0 by omega, playT, show i = n by omega]
      rw [finP hpl]
      exact ⟨⟨fun _ _ _ _ => trivial, fun _ _ _ _ => trivial, fun _ _ _ _ => trivial, fun _ _ _ _ => trivial⟩, SameD.rfl' _⟩
end Go.Eng
end

/- clock: at, At and Strengths, by the reference. -/
section
namespace Go.Eng
open Go Go.RowKit Go.Proofs
set_option maxRecDepth 100000
set_option maxHeartbeats 4000000
attribute [local irreducible] OwnT DefS
theorem playT_early {ev : Nat → Ev} {to : Int} : ∀ (k i : Nat) (s : Ga), (playT ev 1048576 k i s).2.2 = 0 → (playT ev to k i s).2.2 = 0
  | 0, i, s, _ => rfl
  | k + 1, i, s, h => by
    unfold playT at h ⊢
    split at h
    · cases h
    · rename_i he
      rw [if_neg he]
      split at h
      · cases h
      · rename_i ho
        rw [if_neg ho]
        have he := evOk_iff.1 (by simpa using he)
        rw [if_neg (by omega)] at h
        split
        · rfl
        · split at h
          · rename_i hd; exact absurd h hd
          · rename_i hd
            rw [if_neg hd]
            exact playT_early k (i + 1) _ h
theorem playT_ok {ev : Nat → Ev} {to : Int} : ∀ (k i : Nat) (s : Ga), s.Ok → s.b.Cnt i → i + k ≤ 300 → (playT ev to k i s).1.Ok
  | 0, i, s, h, hc, _ => h
  | k + 1, i, s, h, hc, hn => by
    unfold playT
    split
    · exact h
    · rename_i he
      have he := evOk_iff.1 (by simpa using he)
      split
      · exact h
      · split
        · exact h
        · have h1 := passTF_ok he.2.1 h
          have h3 : (passTF s (ev i).s).b.Cnt i := passT_cnt _ _ hc
          have h4 := deed_ok h1 h3 (by omega) (ev i)
          have h5 := deed_cnt h3 (ev i)
          rw [passTF_now] at h4
          split
          · exact h
          · exact playT_ok (ev := ev) k (i + 1) _ h4 h5 (by omega)
def stSv (s : Ga) : SV := .agg [.int .i64 s.b.per, .int .i64 s.b.pl, .bool s.b.run, .int .i64 s.b.g0, .int .i64 s.b.g1, rowP s.b.p0, rowP s.b.p1, rowP s.b.m0, rowP s.b.m1, .int .i64 s.now, .row s.out.length 2 (fun i j => .int .i64 (pf s.out i j))]
def agT (n : Nat) (l : Nat → Nat → Int) (to : Int) : Ga × Int :=
  if (plT n l).2.2 ≠ 0 then (G0, (plT n l).2.2) else if in3 to 0 1048576 = false then (G0, 2) else (passTF (playT (evN l) to n 0 G0).1 to, 0)
theorem stSv_z {F0 F1 F2 F3 F4 : Nat → Nat → SV} : SameD (.agg [.int .i64 0, .int .i64 0, .bool false, .int .i64 0, .int .i64 0, .row 0 3 F0, .row 0 3 F1, .row 0 3 F2, .row 0 3 F3, .int .i64 0, .row 0 2 F4]) (stSv G0) :=
  SameD.agg ⟨SameD.rfl' _, SameD.rfl' _, SameD.rfl' _, SameD.rfl' _, SameD.rfl' _, rowP_0, rowP_0, rowP_0, rowP_0, SameD.rfl' _, SameD.row0, trivial⟩
def agTBase : BaseF := fun args => match args with
  | [.row n sz_l f_l, .int .i64 to] => some ((sz_l = 4 ∧ IntR n 4 f_l) ∧ (n ≤ 1000000), .tup [stSv (agT n (ivf f_l) to).1, .int .i64 (agT n (ivf f_l) to).2])
  | _ => none
theorem agT_eq (n : Nat) (sz_l : Nat) (f_l : Nat → Nat → SV) (to : Int) : agTBase [.row n sz_l f_l, .int .i64 to] = some ((sz_l = 4 ∧ IntR n 4 f_l) ∧ (n ≤ 1000000), .tup [stSv (agT n (ivf f_l) to).1, .int .i64 (agT n (ivf f_l) to).2]) := rfl
theorem agT_base : NB Try.prog 40 agTBase := by
  intro args p v hq hp
  unfold agTBase at hq
  split at hq
  rotate_left
  · cases hq
  rename_i n sz_l f_l to
  cases hq
  obtain ⟨⟨rfl, i_l⟩, pre⟩ := hp
  refine nb_of (C := cxn [44, 56] [(23, playTBase)] [] [(42, inBase)] [] none) (cxn_ok ⟨playT_base, trivial⟩ trivial ⟨in_base, trivial⟩) rfl (g := 40) (fn := Try.f40)
    (args' := [.row n 4 (rowF .i64 (ivf f_l)), .int .i64 to]) (fn_40) rfl 1000 (by
    simp only [BdL, Bd, and_self, and_true, true_and]
    exact (fun i j hi hj => by rw [i_l i j hi hj]; trivial)) ⟨SameD.int i_l, SameD.rfl' _, trivial⟩ (by simp only [stSv, rowP, Bd, BdL, and_true, implies_true]) ?_
  generalize ivf f_l = l at *
  simp only [rowF_eq]
  simp only [in_eq, playT_eq, boS, rowP, stSv, Try.f40, go_sem, ↓reduceIte, Nat.reduceAdd, Nat.reduceSub, Nat.reduceMul, Nat.reduceEqDiff, Nat.reduceLT, Nat.reduceLeDiff, Int.reduceToNat, Int.reduceLE, Int.reduceLT, Int.reduceEq, Int.reduceNeg, reduceCtorEq]
  refine ⟨pre, fun e1 => ?_, fun e1 => ⟨fun e2 => ?_, fun e2 => ?_⟩⟩
  · have h : agT n l to = (G0, (plT n l).2.2) := by unfold agT; rw [if_pos (by simpa using e1)]
    rw [h]
    exact ⟨⟨fun i j h => by omega, fun i j h => by omega, fun i j h => by omega, fun i j h => by omega, fun i j h => by omega⟩, SameD.tup ⟨stSv_z, SameD.rfl' _, trivial⟩⟩
  · have h : agT n l to = (G0, 2) := by unfold agT; rw [if_neg (by simpa using e1), if_pos (by simpa using e2)]
    rw [h]
    exact ⟨⟨fun i j h => by omega, fun i j h => by omega, fun i j h => by omega, fun i j h => by omega, fun i j h => by omega⟩, SameD.tup ⟨stSv_z, SameD.rfl' _, trivial⟩⟩
  have hto : 0 ≤ to ∧ to ≤ 1048576 := in3_iff.1 (by simpa using e2)
  have h : agT n l to = (passTF (playT (evN l) to n 0 G0).1 to, 0) := by unfold agT; rw [if_neg (by simpa using e1), if_neg (by simpa using e2)]
  have hn : n ≤ 256 ∧ (playT (evN l) 1048576 n 0 G0).2.2 = 0 := by
    have : (plT n l).2.2 = 0 := by simpa using e1
    unfold plT at this
    split at this
    · cases this
    · split at this
      · rename_i h; exact absurd this h
      · rename_i h; exact ⟨by omega, by simpa using h⟩
  rw [h]
  have hok := playT_ok (ev := evN l) (to := to) n 0 G0 G0_ok G0_cnt (by omega)
  unfold callS
  refine calls_mono ?_ (calls_grow (playR_calls (n := n) (by omega) (l := l) hto (playT_early _ _ _ hn.2)) (by simp [BdL, Bd]) ?_ _)
  · rintro o h' ⟨o0, h0', ⟨v', rfl, rfl⟩, rfl, rfl⟩
    generalize playT (evN l) to n 0 G0 = R at hok
    simp only [gtC, rowP, stL, appB, appV, in_eq, playT_eq, boS, rowP, stSv, Try.f40, go_sem, ↓reduceIte, Nat.reduceAdd, Nat.reduceSub, Nat.reduceMul, Nat.reduceEqDiff, Nat.reduceLT, Nat.reduceLeDiff, Int.reduceToNat, Int.reduceLE, Int.reduceLT, Int.reduceEq, Int.reduceNeg, reduceCtorEq]
    unfold callS
    refine calls_mono ?_ (passR_at hok hto v' _ 18 rfl)
    rintro o h' ⟨v1, rfl, rfl⟩
    simp only [gtC, rowP, stL, in_eq, playT_eq, boS, rowP, stSv, Try.f40, go_sem, ↓reduceIte, Nat.reduceAdd, Nat.reduceSub, Nat.reduceMul, Nat.reduceEqDiff, Nat.reduceLT, Nat.reduceLeDiff, Int.reduceToNat, Int.reduceLE, Int.reduceLT, Int.reduceEq, Int.reduceNeg, reduceCtorEq]
    exact ⟨⟨fun _ _ _ _ => trivial, fun _ _ _ _ => trivial, fun _ _ _ _ => trivial, fun _ _ _ _ => trivial, fun _ _ _ _ => trivial⟩, SameD.rfl' _⟩
  · rintro o h' ⟨v', rfl, rfl⟩
    simp [gtC, rowP, stL, bdO, bdB, bdV, BdL, Bd, lenB, lenV]
end Go.Eng
end

/- clock: At, Strengths, Without by the reference; comparing. -/
section
namespace Go.Eng
open Go Go.RowKit Go.Proofs
set_option maxRecDepth 100000
set_option maxHeartbeats 4000000
attribute [local irreducible] OwnT DefS
def atTBase : BaseF := fun args => match args with
  | [.row n sz_l f_l, .int .i64 to] => some ((sz_l = 4 ∧ IntR n 4 f_l) ∧ (n ≤ 1000000), .tup [boS (agT n (ivf f_l) to).1.b, .int .i64 (agT n (ivf f_l) to).2])
  | _ => none
theorem atT_eq (n : Nat) (sz_l : Nat) (f_l : Nat → Nat → SV) (to : Int) : atTBase [.row n sz_l f_l, .int .i64 to] = some ((sz_l = 4 ∧ IntR n 4 f_l) ∧ (n ≤ 1000000), .tup [boS (agT n (ivf f_l) to).1.b, .int .i64 (agT n (ivf f_l) to).2]) := rfl
theorem atT_base : NB Try.prog 24 atTBase := by
  intro args p v hq hp
  unfold atTBase at hq
  split at hq
  rotate_left
  · cases hq
  rename_i n sz_l f_l to
  cases hq
  obtain ⟨⟨rfl, i_l⟩, pre⟩ := hp
  refine nb_of (C := cxn [] [(40, agTBase)] [] [] [] none) (cxn_ok ⟨agT_base, trivial⟩ trivial trivial) rfl (g := 24) (fn := Try.f24)
    (args' := [.row n 4 (rowF .i64 (ivf f_l)), .int .i64 to]) (fn_24) rfl 1000 (by
    simp only [BdL, Bd, and_self, and_true, true_and]
    exact (fun i j hi hj => by rw [i_l i j hi hj]; trivial)) ⟨SameD.int i_l, SameD.rfl' _, trivial⟩ (by simp only [boS, rowP, Bd, BdL, and_true, implies_true]) ?_
  generalize ivf f_l = l at *
  simp only [rowF_eq]
  simp only [agT_eq, boS, rowP, stSv, Try.f24, go_sem, ↓reduceIte, Nat.reduceAdd, Nat.reduceSub, Nat.reduceMul, Nat.reduceEqDiff, Nat.reduceLT, Nat.reduceLeDiff, Int.reduceToNat, Int.reduceLE, Int.reduceLT, Int.reduceEq, Int.reduceNeg, reduceCtorEq]
  exact ⟨pre, ⟨fun _ _ _ _ => trivial, fun _ _ _ _ => trivial, fun _ _ _ _ => trivial, fun _ _ _ _ => trivial⟩, SameD.rfl' _⟩
def cmpT (o : List Pen) : Nat → List Pen
  | 0 => []
  | i + 1 => if i = 0 ∨ ¬ (pf o i 0 = pf o (i - 1) 0 ∧ pf o i 1 = pf o (i - 1) 1) then cmpT o i ++ [⟨i, pf o i 0, pf o i 1⟩] else cmpT o i
theorem cmpT_len (o : List Pen) : ∀ i, (cmpT o i).length ≤ i
  | 0 => by simp [cmpT]
  | i + 1 => by
    have := cmpT_len o i
    simp only [cmpT]
    split
    · simp; omega
    · omega
def stT (n : Nat) (l : Nat → Nat → Int) (to : Int) : List Pen × Int :=
  if (agT n l to).2 ≠ 0 then ([], (agT n l to).2) else (cmpT (agT n l to).1.out (agT n l to).1.out.length, 0)
theorem agT_len {n : Nat} {l : Nat → Nat → Int} {to : Int} (hn : n ≤ 1000000) : (agT n l to).1.out.length ≤ 3600 := by
  unfold agT
  split
  · simp [G0]
  · rename_i h0
    split
    · simp [G0]
    · rename_i h1
      have hto : 0 ≤ to ∧ to ≤ 1048576 := in3_iff.1 (by simpa using h1)
      have hn2 : n ≤ 256 := by
        by_cases h : 256 < n
        · unfold plT at h0; rw [if_pos h] at h0; simp at h0
        · omega
      have h2 := passTF_ok hto (playT_ok (ev := evN l) (to := to) n 0 G0 G0_ok G0_cnt (by omega))
      have h3 := h2.out
      have h4 := h2.b.per
      have h5 := h2.b.pl
      simp only
      omega
def strTBase : BaseF := fun args => match args with
  | [.row n sz_l f_l, .int .i64 to] => some ((sz_l = 4 ∧ IntR n 4 f_l) ∧ (n ≤ 1000000), .tup [rowP (stT n (ivf f_l) to).1, .int .i64 (stT n (ivf f_l) to).2])
  | _ => none
theorem strT_eq (n : Nat) (sz_l : Nat) (f_l : Nat → Nat → SV) (to : Int) : strTBase [.row n sz_l f_l, .int .i64 to] = some ((sz_l = 4 ∧ IntR n 4 f_l) ∧ (n ≤ 1000000), .tup [rowP (stT n (ivf f_l) to).1, .int .i64 (stT n (ivf f_l) to).2]) := rfl
theorem strT_base : NB Try.prog 17 strTBase := by
  intro args p v hq hp
  unfold strTBase at hq
  split at hq
  rotate_left
  · cases hq
  rename_i n sz_l f_l to
  cases hq
  obtain ⟨⟨rfl, i_l⟩, pre⟩ := hp
  refine nb_of (C := cxn [] [(40, agTBase)] [] [] [(17, 8, p17_8)] none) (cxn_ok ⟨agT_base, trivial⟩ trivial trivial) rfl (g := 17) (fn := Try.f17)
    (args' := [.row n 4 (rowF .i64 (ivf f_l)), .int .i64 to]) (fn_17) rfl 1000 (by
    simp only [BdL, Bd, and_self, and_true, true_and]
    exact (fun i j hi hj => by rw [i_l i j hi hj]; trivial)) ⟨SameD.int i_l, SameD.rfl' _, trivial⟩ (by simp only [boS, rowP, Bd, BdL, and_true, implies_true]) ?_
  generalize ivf f_l = l at *
  simp only [rowF_eq]
  simp only [agT_eq, p17_8, boS, rowP, stSv, Try.f17, go_sem, ↓reduceIte, Nat.reduceAdd, Nat.reduceSub, Nat.reduceMul, Nat.reduceEqDiff, Nat.reduceLT, Nat.reduceLeDiff, Int.reduceToNat, Int.reduceLE, Int.reduceLT, Int.reduceEq, Int.reduceNeg, reduceCtorEq]
  refine ⟨pre, fun e1 => ?_, fun e1 => ?_⟩
  · have h : stT n l to = ([], (agT n l to).2) := by unfold stT; rw [if_pos (by simpa using e1)]
    rw [h]
    exact ⟨fun i j h => by omega, SameD.tup ⟨SameD.row0, SameD.rfl' _, trivial⟩⟩
  have h : stT n l to = (cmpT (agT n l to).1.out (agT n l to).1.out.length, 0) := by unfold stT; rw [if_neg (by simpa using e1)]
  have hlen := agT_len (l := l) (to := to) pre
  rw [h]
  generalize agT n l to = G at *
  generalize ho : G.1.out = o at *
  refine loop_ofH { x : Nat × Nat // x.1 ≤ o.length } (fun x => [(9, .int .i64 (x.1.1 : Int)), (8, .vec 6 x.1.2), (6, .ptr 0 0)]) (fun h x => ⟨[getB h.blks 0], [getV h.vecs 0, getV h.vecs 1, getV h.vecs 2, getV h.vecs 3, getV h.vecs 4, getV h.vecs 5, .live x.1.2 51 3 (cmpT o x.1.1).length (fun i j => .int .i64 (pf (cmpT o x.1.1) i j))]⟩) (fun x => o.length - x.1.1) (fun _ => ⟨rfl, rfl⟩) ⟨(0, 0), by omega⟩ (by simp only [cmpT, List.length_nil]; (apply sub_of <;> simp only [go_sem, ↓reduceIte, Nat.reduceAdd, Nat.reduceSub, Nat.reduceMul, Nat.reduceEqDiff, Nat.reduceLT, Nat.reduceLeDiff, Int.reduceToNat, Int.reduceLE, Int.reduceLT, Int.reduceEq, Int.reduceNeg, reduceCtorEq] <;> (try simp [catF]) <;> (try exact fun j _ => Bd_nth (by simp [BdL, Bd]) j) <;> (try exact bd_setL (by simp [bdAs, BdL, Bd])) <;> (try exact nestF_bd _ _ _ _ _ _ _ _ _))) ?_
  rintro ⟨⟨i, v⟩, hi⟩
  simp only at hi
  simp only [agT_eq, p17_8, boS, rowP, stSv, Try.f17, go_sem, ↓reduceIte, Nat.reduceAdd, Nat.reduceSub, Nat.reduceMul, Nat.reduceEqDiff, Nat.reduceLT, Nat.reduceLeDiff, Int.reduceToNat, Int.reduceLE, Int.reduceLT, Int.reduceEq, Int.reduceNeg, reduceCtorEq]
  have hw3 : IntKind.i64.wrap ((i : Int) + 1) = ((i + 1 : Nat) : Int) := by rw [wrap_id (by omega) (by omega)]; omega
  have hcl := cmpT_len o i
  have addC : cmpT o (i + 1) = cmpT o i ++ [⟨i, pf o i 0, pf o i 1⟩] → ∀ (x c : Nat), x < (cmpT o (i + 1)).length → c < 3 → catF (cmpT o i).length (fun a c => .int .i64 (pf (cmpT o i) a c)) (oneF [.int .i64 (i : Int), .int .i64 (pf o i 0), .int .i64 (pf o i 1)]) x c = .int .i64 (pf (cmpT o (i + 1)) x c) := fun h x c hx hc => by
    rw [h] at hx ⊢
    exact (isPen_snoc (isPen_id (cmpT o i))).2 x c (by simpa using hx) hc
  have stepA : (i = 0 ∨ ¬ (pf o i 0 = pf o (i - 1) 0 ∧ pf o i 1 = pf o (i - 1) 1)) → cmpT o (i + 1) = cmpT o i ++ [⟨i, pf o i 0, pf o i 1⟩] := fun h => by simp only [cmpT]; rw [if_pos h]
  have stepN : ¬ (i = 0 ∨ ¬ (pf o i 0 = pf o (i - 1) 0 ∧ pf o i 1 = pf o (i - 1) 1)) → cmpT o (i + 1) = cmpT o i := fun h => by simp only [cmpT]; rw [if_neg h]
  refine ⟨fun e2 => ⟨⟨by kernel_rfl, by kernel_rfl⟩, fun e3 => ⟨by simp only [decide_eq_true_eq] at e2; omega, by omega, ?_⟩, fun e3 => ?_⟩, fun e2 => ?_⟩
  all_goals simp only [decide_eq_true_eq, decide_eq_false_iff_not] at e2
  · simp only [decide_eq_true_eq] at e3
    have hc := stepA (.inl (by omega))
    refine ⟨⟨(i + 1, v + 1), by omega⟩, by simp only []; omega, ?_⟩
    apply sub_of <;> simp only [hw3, go_sem, ↓reduceIte, Nat.reduceAdd, Nat.reduceSub, Nat.reduceMul, Nat.reduceEqDiff, Nat.reduceLT, Nat.reduceLeDiff, Int.reduceToNat, Int.reduceLE, Int.reduceLT, Int.reduceEq, Int.reduceNeg, reduceCtorEq] <;> (try simp) <;> (try exact fun j _ => Bd_nth (by simp [BdL, Bd]) j) <;> (try exact bd_setL (by simp [bdAs, BdL, Bd])) <;> (try exact nestF_bd _ _ _ _ _ _ _ _ _)
    exact ⟨by rw [hc]; simp, addC hc⟩
  · simp only [decide_eq_false_iff_not] at e3
    have hwm : IntKind.i64.wrap ((i : Int) - 1) = ((i - 1 : Nat) : Int) := by rw [wrap_id (by omega) (by omega)]; omega
    rw [hwm, Int.toNat_natCast]
    refine ⟨by omega, by omega, fun e4 => ⟨by omega, by omega, ?_⟩, fun e4 => ?_⟩
    · have hc := stepA (.inr (by rintro ⟨q1, q2⟩; rw [q1, q2] at e4; simp at e4))
      refine ⟨⟨(i + 1, v + 1), by omega⟩, by simp only []; omega, ?_⟩
      apply sub_of <;> simp only [hw3, go_sem, ↓reduceIte, Nat.reduceAdd, Nat.reduceSub, Nat.reduceMul, Nat.reduceEqDiff, Nat.reduceLT, Nat.reduceLeDiff, Int.reduceToNat, Int.reduceLE, Int.reduceLT, Int.reduceEq, Int.reduceNeg, reduceCtorEq] <;> (try simp) <;> (try exact fun j _ => Bd_nth (by simp [BdL, Bd]) j) <;> (try exact bd_setL (by simp [bdAs, BdL, Bd])) <;> (try exact nestF_bd _ _ _ _ _ _ _ _ _)
      exact ⟨by rw [hc]; simp, addC hc⟩
    · have hc := stepN (by rintro (h | h); omega; exact h (by simpa using e4))
      refine ⟨⟨(i + 1, v), by omega⟩, by simp only []; omega, ?_⟩
      apply sub_of <;> simp only [hw3, hc, go_sem, ↓reduceIte, Nat.reduceAdd, Nat.reduceSub, Nat.reduceMul, Nat.reduceEqDiff, Nat.reduceLT, Nat.reduceLeDiff, Int.reduceToNat, Int.reduceLE, Int.reduceLT, Int.reduceEq, Int.reduceNeg, reduceCtorEq] <;> (try simp) <;> (try exact fun j _ => Bd_nth (by simp [BdL, Bd]) j) <;> (try exact bd_setL (by simp [bdAs, BdL, Bd])) <;> (try exact nestF_bd _ _ _ _ _ _ _ _ _)
  · obtain rfl : i = o.length := by omega
    exact ⟨fun _ _ _ _ => trivial, SameD.rfl' _⟩
def penEqBase : BaseF := fun args => match args with
  | [.row n_A sz_A f_A, .row n_B sz_B f_B] => some ((sz_A = 3 ∧ IntR n_A 3 f_A) ∧ (sz_B = 3 ∧ IntR n_B 3 f_B) ∧ ((Eng.pl n_A (ivf f_A)).length ≤ 1000000), .bool (decide ((Eng.pl n_A (ivf f_A)) = (Eng.pl n_B (ivf f_B)))))
  | _ => none
theorem penEq_eq (n_A : Nat) (sz_A : Nat) (f_A : Nat → Nat → SV) (n_B : Nat) (sz_B : Nat) (f_B : Nat → Nat → SV) : penEqBase [.row n_A sz_A f_A, .row n_B sz_B f_B] = some ((sz_A = 3 ∧ IntR n_A 3 f_A) ∧ (sz_B = 3 ∧ IntR n_B 3 f_B) ∧ ((Eng.pl n_A (ivf f_A)).length ≤ 1000000), .bool (decide ((Eng.pl n_A (ivf f_A)) = (Eng.pl n_B (ivf f_B))))) := rfl
theorem penEq_base : Base Try.prog 27 penEqBase := by
  intro args p v hq hp
  unfold penEqBase at hq
  split at hq
  rotate_left
  · cases hq
  rename_i n_A sz_A f_A n_B sz_B f_B
  cases hq
  obtain ⟨⟨rfl, i_A⟩, ⟨rfl, i_B⟩, pre⟩ := hp
  refine base_of (C := cx [] [] [] [(27, 6, p27_6)] none) (cx_ok trivial trivial) rfl (g := 27) (fn := Try.f27)
    (args' := [.row (Eng.pl n_A (ivf f_A)).length 3 (fun i j => .int .i64 (pf (Eng.pl n_A (ivf f_A)) i j)), .row (Eng.pl n_B (ivf f_B)).length 3 (fun i j => .int .i64 (pf (Eng.pl n_B (ivf f_B)) i j))]) (fn_27) rfl 1000 (by
    simp only [BdL, Bd, and_self, and_true, true_and]
    exact ⟨(fun i j hi hj => by rw [i_A i j hi hj]; trivial), (fun i j hi hj => by rw [i_B i j hi hj]; trivial)⟩) ⟨SameD.penL i_A, SameD.penL i_B, trivial⟩ ?_
  generalize Eng.pl n_A (ivf f_A) = A at *
  generalize Eng.pl n_B (ivf f_B) = B at *
  simp only [p27_6, Try.f27, go_sem, ↓reduceIte, Nat.reduceAdd, Nat.reduceSub, Nat.reduceMul, Nat.reduceEqDiff, Nat.reduceLT, Nat.reduceLeDiff, Int.reduceToNat, Int.reduceLE, Int.reduceLT, Int.reduceEq, Int.reduceNeg, reduceCtorEq]
  have hAB : A.length = B.length → (∀ j c, j < A.length → c < 3 → pf A j c = pf B j c) → A = B := fun h1 h2 => by
    rw [← pl_pf A, ← pl_pf B, ← h1]
    exact pl_congr h2
  refine ⟨fun e1 => ?_, fun e1 => ?_⟩
  all_goals simp only [Bool.not_eq_true', Bool.not_eq_false', decide_eq_true_eq, decide_eq_false_iff_not] at e1
  · rw [decide_eq_false (fun h => e1 (by rw [h]))]
  refine loop_of { i : Nat // i ≤ A.length ∧ ∀ j c, j < i → c < 3 → pf A j c = pf B j c } (fun i => [(5, .int .i64 (i.1 : Int)), (1, .row B.length 3 (fun i j => .int .i64 (pf B i j))), (0, .row A.length 3 (fun i j => .int .i64 (pf A i j)))]) (fun _ => ⟨[], []⟩) (fun i => A.length - i.1) (fun _ => ⟨rfl, rfl⟩) ⟨0, by omega, fun j c hj => by omega⟩ (by (apply sub_of <;> simp only [go_sem, ↓reduceIte, Nat.reduceAdd, Nat.reduceSub, Nat.reduceMul, Nat.reduceEqDiff, Nat.reduceLT, Nat.reduceLeDiff, Int.reduceToNat, Int.reduceLE, Int.reduceLT, Int.reduceEq, Int.reduceNeg, reduceCtorEq] <;> (try simp [catF]) <;> (try exact fun j _ => Bd_nth (by simp [BdL, Bd]) j) <;> (try exact bd_setL (by simp [bdAs, BdL, Bd])) <;> (try exact nestF_bd _ _ _ _ _ _ _ _ _))) ?_
  rintro ⟨i, hi, h3⟩
  simp only [p27_6, Try.f27, go_sem, ↓reduceIte, Nat.reduceAdd, Nat.reduceSub, Nat.reduceMul, Nat.reduceEqDiff, Nat.reduceLT, Nat.reduceLeDiff, Int.reduceToNat, Int.reduceLE, Int.reduceLT, Int.reduceEq, Int.reduceNeg, reduceCtorEq]
  have hw3 : IntKind.i64.wrap ((i : Int) + 1) = ((i + 1 : Nat) : Int) := by rw [wrap_id (by omega) (by omega)]; omega
  refine ⟨fun e2 => ⟨⟨by kernel_rfl, by kernel_rfl⟩, by simp only [decide_eq_true_eq] at e2; omega, by simp only [decide_eq_true_eq] at e2; omega, fun e3 => ?_, fun e3 => ?_⟩, fun e2 => ?_⟩
  all_goals simp only [decide_eq_true_eq, decide_eq_false_iff_not] at e2
  · rw [decide_eq_false]
    intro h
    subst h
    simp at e3
  · have hj : ∀ c, c < 3 → pf A i c = pf B i c := fun c hc => by
      have h : pf A i 0 = pf B i 0 ∧ pf A i 1 = pf B i 1 ∧ pf A i 2 = pf B i 2 := by simpa using e3
      have : c = 0 ∨ c = 1 ∨ c = 2 := by omega
      rcases this with rfl | rfl | rfl
      · exact h.1
      · exact h.2.1
      · exact h.2.2
    refine ⟨⟨i + 1, by omega, fun j c hj1 hc => ?_⟩, by simp only []; omega, ?_⟩
    · rcases Nat.lt_or_ge j i with h | h
      · exact h3 j c h hc
      · obtain rfl : j = i := by omega
        exact hj c hc
    · apply sub_of <;> simp only [hw3, go_sem, ↓reduceIte, Nat.reduceAdd, Nat.reduceSub, Nat.reduceMul, Nat.reduceEqDiff, Nat.reduceLT, Nat.reduceLeDiff, Int.reduceToNat, Int.reduceLE, Int.reduceLT, Int.reduceEq, Int.reduceNeg, reduceCtorEq] <;> (try simp) <;> (try exact fun j _ => Bd_nth (by simp [BdL, Bd]) j) <;> (try exact bd_setL (by simp [bdAs, BdL, Bd])) <;> (try exact nestF_bd _ _ _ _ _ _ _ _ _)
  · rw [decide_eq_true (hAB (by omega) (fun j c hj hc => h3 j c (by omega) hc))]
theorem penEq_len {A B : List Pen} (h1 : A.length = B.length) (h2 : ∀ j c, j < A.length → c < 3 → pf A j c = pf B j c) : A = B := by
  rw [← pl_pf A, ← pl_pf B, ← h1]
  exact pl_congr h2
def strEqBase : BaseF := fun args => match args with
  | [.row n_A sz_A f_A, .row n_B sz_B f_B] => some ((sz_A = 3 ∧ IntR n_A 3 f_A) ∧ (sz_B = 3 ∧ IntR n_B 3 f_B) ∧ ((Eng.pl n_A (ivf f_A)).length ≤ 1000000), .bool (decide ((Eng.pl n_A (ivf f_A)) = (Eng.pl n_B (ivf f_B)))))
  | _ => none
theorem strEq_eq (n_A : Nat) (sz_A : Nat) (f_A : Nat → Nat → SV) (n_B : Nat) (sz_B : Nat) (f_B : Nat → Nat → SV) : strEqBase [.row n_A sz_A f_A, .row n_B sz_B f_B] = some ((sz_A = 3 ∧ IntR n_A 3 f_A) ∧ (sz_B = 3 ∧ IntR n_B 3 f_B) ∧ ((Eng.pl n_A (ivf f_A)).length ≤ 1000000), .bool (decide ((Eng.pl n_A (ivf f_A)) = (Eng.pl n_B (ivf f_B))))) := rfl
theorem strEq_base : Base Try.prog 19 strEqBase := by
  intro args p v hq hp
  unfold strEqBase at hq
  split at hq
  rotate_left
  · cases hq
  rename_i n_A sz_A f_A n_B sz_B f_B
  cases hq
  obtain ⟨⟨rfl, i_A⟩, ⟨rfl, i_B⟩, pre⟩ := hp
  refine base_of (C := cx [] [] [] [(19, 6, p19_6)] none) (cx_ok trivial trivial) rfl (g := 19) (fn := Try.f19)
    (args' := [.row (Eng.pl n_A (ivf f_A)).length 3 (fun i j => .int .i64 (pf (Eng.pl n_A (ivf f_A)) i j)), .row (Eng.pl n_B (ivf f_B)).length 3 (fun i j => .int .i64 (pf (Eng.pl n_B (ivf f_B)) i j))]) (fn_19) rfl 1000 (by
    simp only [BdL, Bd, and_self, and_true, true_and]
    exact ⟨(fun i j hi hj => by rw [i_A i j hi hj]; trivial), (fun i j hi hj => by rw [i_B i j hi hj]; trivial)⟩) ⟨SameD.penL i_A, SameD.penL i_B, trivial⟩ ?_
  generalize Eng.pl n_A (ivf f_A) = A at *
  generalize Eng.pl n_B (ivf f_B) = B at *
  simp only [p19_6, Try.f19, go_sem, ↓reduceIte, Nat.reduceAdd, Nat.reduceSub, Nat.reduceMul, Nat.reduceEqDiff, Nat.reduceLT, Nat.reduceLeDiff, Int.reduceToNat, Int.reduceLE, Int.reduceLT, Int.reduceEq, Int.reduceNeg, reduceCtorEq]
  have hAB : A.length = B.length → (∀ j c, j < A.length → c < 3 → pf A j c = pf B j c) → A = B := penEq_len
  refine ⟨fun e1 => ?_, fun e1 => ?_⟩
  all_goals simp only [Bool.not_eq_true', Bool.not_eq_false', decide_eq_true_eq, decide_eq_false_iff_not] at e1
  · rw [decide_eq_false (fun h => e1 (by rw [h]))]
  refine loop_of { i : Nat // i ≤ A.length ∧ ∀ j c, j < i → c < 3 → pf A j c = pf B j c } (fun i => [(5, .int .i64 (i.1 : Int)), (1, .row B.length 3 (fun i j => .int .i64 (pf B i j))), (0, .row A.length 3 (fun i j => .int .i64 (pf A i j)))]) (fun _ => ⟨[], []⟩) (fun i => A.length - i.1) (fun _ => ⟨rfl, rfl⟩) ⟨0, by omega, fun j c hj => by omega⟩ (by (apply sub_of <;> simp only [go_sem, ↓reduceIte, Nat.reduceAdd, Nat.reduceSub, Nat.reduceMul, Nat.reduceEqDiff, Nat.reduceLT, Nat.reduceLeDiff, Int.reduceToNat, Int.reduceLE, Int.reduceLT, Int.reduceEq, Int.reduceNeg, reduceCtorEq] <;> (try simp [catF]) <;> (try exact fun j _ => Bd_nth (by simp [BdL, Bd]) j) <;> (try exact bd_setL (by simp [bdAs, BdL, Bd])) <;> (try exact nestF_bd _ _ _ _ _ _ _ _ _))) ?_
  rintro ⟨i, hi, h3⟩
  simp only [p19_6, Try.f19, go_sem, ↓reduceIte, Nat.reduceAdd, Nat.reduceSub, Nat.reduceMul, Nat.reduceEqDiff, Nat.reduceLT, Nat.reduceLeDiff, Int.reduceToNat, Int.reduceLE, Int.reduceLT, Int.reduceEq, Int.reduceNeg, reduceCtorEq]
  have hw3 : IntKind.i64.wrap ((i : Int) + 1) = ((i + 1 : Nat) : Int) := by rw [wrap_id (by omega) (by omega)]; omega
  refine ⟨fun e2 => ⟨⟨by kernel_rfl, by kernel_rfl⟩, by simp only [decide_eq_true_eq] at e2; omega, by simp only [decide_eq_true_eq] at e2; omega, fun e3 => ?_, fun e3 => ?_⟩, fun e2 => ?_⟩
  all_goals simp only [decide_eq_true_eq, decide_eq_false_iff_not] at e2
  · rw [decide_eq_false]
    intro h
    subst h
    simp at e3
  · have hj : ∀ c, c < 3 → pf A i c = pf B i c := fun c hc => by
      have h : pf A i 0 = pf B i 0 ∧ pf A i 1 = pf B i 1 ∧ pf A i 2 = pf B i 2 := by simpa using e3
      have : c = 0 ∨ c = 1 ∨ c = 2 := by omega
      rcases this with rfl | rfl | rfl
      · exact h.1
      · exact h.2.1
      · exact h.2.2
    refine ⟨⟨i + 1, by omega, fun j c hj1 hc => ?_⟩, by simp only []; omega, ?_⟩
    · rcases Nat.lt_or_ge j i with h | h
      · exact h3 j c h hc
      · obtain rfl : j = i := by omega
        exact hj c hc
    · apply sub_of <;> simp only [hw3, go_sem, ↓reduceIte, Nat.reduceAdd, Nat.reduceSub, Nat.reduceMul, Nat.reduceEqDiff, Nat.reduceLT, Nat.reduceLeDiff, Int.reduceToNat, Int.reduceLE, Int.reduceLT, Int.reduceEq, Int.reduceNeg, reduceCtorEq] <;> (try simp) <;> (try exact fun j _ => Bd_nth (by simp [BdL, Bd]) j) <;> (try exact bd_setL (by simp [bdAs, BdL, Bd])) <;> (try exact nestF_bd _ _ _ _ _ _ _ _ _)
  · rw [decide_eq_true (hAB (by omega) (fun j c hj hc => h3 j c (by omega) hc))]
def sameBase : BaseF := fun args => match args with
  | [.agg [.int .i64 per, .int .i64 pd, .bool run, .int .i64 g0, .int .i64 g1, .row n_P0 sz_P0 f_P0, .row n_P1 sz_P1 f_P1, .row n_M0 sz_M0 f_M0, .row n_M1 sz_M1 f_M1], .agg [.int .i64 qer, .int .i64 qd, .bool qun, .int .i64 h0, .int .i64 h1, .row n_Q0 sz_Q0 f_Q0, .row n_Q1 sz_Q1 f_Q1, .row n_N0 sz_N0 f_N0, .row n_N1 sz_N1 f_N1]] => some ((sz_P0 = 3 ∧ IntR n_P0 3 f_P0) ∧ (sz_P1 = 3 ∧ IntR n_P1 3 f_P1) ∧ (sz_M0 = 3 ∧ IntR n_M0 3 f_M0) ∧ (sz_M1 = 3 ∧ IntR n_M1 3 f_M1) ∧ (sz_Q0 = 3 ∧ IntR n_Q0 3 f_Q0) ∧ (sz_Q1 = 3 ∧ IntR n_Q1 3 f_Q1) ∧ (sz_N0 = 3 ∧ IntR n_N0 3 f_N0) ∧ (sz_N1 = 3 ∧ IntR n_N1 3 f_N1) ∧ ((Eng.pl n_P0 (ivf f_P0)).length ≤ 1000000 ∧ (Eng.pl n_P1 (ivf f_P1)).length ≤ 1000000 ∧ (Eng.pl n_M0 (ivf f_M0)).length ≤ 1000000 ∧ (Eng.pl n_M1 (ivf f_M1)).length ≤ 1000000), .bool (decide ((⟨per, pd, run, g0, g1, (Eng.pl n_P0 (ivf f_P0)), (Eng.pl n_P1 (ivf f_P1)), (Eng.pl n_M0 (ivf f_M0)), (Eng.pl n_M1 (ivf f_M1))⟩ : Bo) = ⟨qer, qd, qun, h0, h1, (Eng.pl n_Q0 (ivf f_Q0)), (Eng.pl n_Q1 (ivf f_Q1)), (Eng.pl n_N0 (ivf f_N0)), (Eng.pl n_N1 (ivf f_N1))⟩)))
  | _ => none
theorem same_eq (per : Int) (pd : Int) (run : Bool) (g0 : Int) (g1 : Int) (n_P0 : Nat) (sz_P0 : Nat) (f_P0 : Nat → Nat → SV) (n_P1 : Nat) (sz_P1 : Nat) (f_P1 : Nat → Nat → SV) (n_M0 : Nat) (sz_M0 : Nat) (f_M0 : Nat → Nat → SV) (n_M1 : Nat) (sz_M1 : Nat) (f_M1 : Nat → Nat → SV) (qer : Int) (qd : Int) (qun : Bool) (h0 : Int) (h1 : Int) (n_Q0 : Nat) (sz_Q0 : Nat) (f_Q0 : Nat → Nat → SV) (n_Q1 : Nat) (sz_Q1 : Nat) (f_Q1 : Nat → Nat → SV) (n_N0 : Nat) (sz_N0 : Nat) (f_N0 : Nat → Nat → SV) (n_N1 : Nat) (sz_N1 : Nat) (f_N1 : Nat → Nat → SV) : sameBase [.agg [.int .i64 per, .int .i64 pd, .bool run, .int .i64 g0, .int .i64 g1, .row n_P0 sz_P0 f_P0, .row n_P1 sz_P1 f_P1, .row n_M0 sz_M0 f_M0, .row n_M1 sz_M1 f_M1], .agg [.int .i64 qer, .int .i64 qd, .bool qun, .int .i64 h0, .int .i64 h1, .row n_Q0 sz_Q0 f_Q0, .row n_Q1 sz_Q1 f_Q1, .row n_N0 sz_N0 f_N0, .row n_N1 sz_N1 f_N1]] = some ((sz_P0 = 3 ∧ IntR n_P0 3 f_P0) ∧ (sz_P1 = 3 ∧ IntR n_P1 3 f_P1) ∧ (sz_M0 = 3 ∧ IntR n_M0 3 f_M0) ∧ (sz_M1 = 3 ∧ IntR n_M1 3 f_M1) ∧ (sz_Q0 = 3 ∧ IntR n_Q0 3 f_Q0) ∧ (sz_Q1 = 3 ∧ IntR n_Q1 3 f_Q1) ∧ (sz_N0 = 3 ∧ IntR n_N0 3 f_N0) ∧ (sz_N1 = 3 ∧ IntR n_N1 3 f_N1) ∧ ((Eng.pl n_P0 (ivf f_P0)).length ≤ 1000000 ∧ (Eng.pl n_P1 (ivf f_P1)).length ≤ 1000000 ∧ (Eng.pl n_M0 (ivf f_M0)).length ≤ 1000000 ∧ (Eng.pl n_M1 (ivf f_M1)).length ≤ 1000000), .bool (decide ((⟨per, pd, run, g0, g1, (Eng.pl n_P0 (ivf f_P0)), (Eng.pl n_P1 (ivf f_P1)), (Eng.pl n_M0 (ivf f_M0)), (Eng.pl n_M1 (ivf f_M1))⟩ : Bo) = ⟨qer, qd, qun, h0, h1, (Eng.pl n_Q0 (ivf f_Q0)), (Eng.pl n_Q1 (ivf f_Q1)), (Eng.pl n_N0 (ivf f_N0)), (Eng.pl n_N1 (ivf f_N1))⟩))) := rfl
theorem same_base : Base Try.prog 20 sameBase := by
  intro args p v hq hp
  unfold sameBase at hq
  split at hq
  rotate_left
  · cases hq
  rename_i per pd run g0 g1 n_P0 sz_P0 f_P0 n_P1 sz_P1 f_P1 n_M0 sz_M0 f_M0 n_M1 sz_M1 f_M1 qer qd qun h0 h1 n_Q0 sz_Q0 f_Q0 n_Q1 sz_Q1 f_Q1 n_N0 sz_N0 f_N0 n_N1 sz_N1 f_N1
  cases hq
  obtain ⟨⟨rfl, i_P0⟩, ⟨rfl, i_P1⟩, ⟨rfl, i_M0⟩, ⟨rfl, i_M1⟩, ⟨rfl, i_Q0⟩, ⟨rfl, i_Q1⟩, ⟨rfl, i_N0⟩, ⟨rfl, i_N1⟩, pre⟩ := hp
  refine base_of (C := cx [] [] [(27, penEqBase)] [(20, 4, p20_4)] none) (cx_ok trivial ⟨penEq_base, trivial⟩) rfl (g := 20) (fn := Try.f20)
    (args' := [.agg [.int .i64 per, .int .i64 pd, .bool run, .int .i64 g0, .int .i64 g1, .row (Eng.pl n_P0 (ivf f_P0)).length 3 (fun i j => .int .i64 (pf (Eng.pl n_P0 (ivf f_P0)) i j)), .row (Eng.pl n_P1 (ivf f_P1)).length 3 (fun i j => .int .i64 (pf (Eng.pl n_P1 (ivf f_P1)) i j)), .row (Eng.pl n_M0 (ivf f_M0)).length 3 (fun i j => .int .i64 (pf (Eng.pl n_M0 (ivf f_M0)) i j)), .row (Eng.pl n_M1 (ivf f_M1)).length 3 (fun i j => .int .i64 (pf (Eng.pl n_M1 (ivf f_M1)) i j))], .agg [.int .i64 qer, .int .i64 qd, .bool qun, .int .i64 h0, .int .i64 h1, .row (Eng.pl n_Q0 (ivf f_Q0)).length 3 (fun i j => .int .i64 (pf (Eng.pl n_Q0 (ivf f_Q0)) i j)), .row (Eng.pl n_Q1 (ivf f_Q1)).length 3 (fun i j => .int .i64 (pf (Eng.pl n_Q1 (ivf f_Q1)) i j)), .row (Eng.pl n_N0 (ivf f_N0)).length 3 (fun i j => .int .i64 (pf (Eng.pl n_N0 (ivf f_N0)) i j)), .row (Eng.pl n_N1 (ivf f_N1)).length 3 (fun i j => .int .i64 (pf (Eng.pl n_N1 (ivf f_N1)) i j))]]) (fn_20) rfl 1000 (by
    simp only [BdL, Bd, and_self, and_true, true_and]
    exact ⟨⟨(fun i j hi hj => by rw [i_P0 i j hi hj]; trivial), (fun i j hi hj => by rw [i_P1 i j hi hj]; trivial), (fun i j hi hj => by rw [i_M0 i j hi hj]; trivial), (fun i j hi hj => by rw [i_M1 i j hi hj]; trivial)⟩, ⟨(fun i j hi hj => by rw [i_Q0 i j hi hj]; trivial), (fun i j hi hj => by rw [i_Q1 i j hi hj]; trivial), (fun i j hi hj => by rw [i_N0 i j hi hj]; trivial), (fun i j hi hj => by rw [i_N1 i j hi hj]; trivial)⟩⟩) ⟨SameD.agg ⟨SameD.rfl' _, SameD.rfl' _, SameD.rfl' _, SameD.rfl' _, SameD.rfl' _, SameD.penL i_P0, SameD.penL i_P1, SameD.penL i_M0, SameD.penL i_M1, trivial⟩, SameD.agg ⟨SameD.rfl' _, SameD.rfl' _, SameD.rfl' _, SameD.rfl' _, SameD.rfl' _, SameD.penL i_Q0, SameD.penL i_Q1, SameD.penL i_N0, SameD.penL i_N1, trivial⟩, trivial⟩ ?_
  generalize Eng.pl n_P0 (ivf f_P0) = P0 at *
  generalize Eng.pl n_P1 (ivf f_P1) = P1 at *
  generalize Eng.pl n_M0 (ivf f_M0) = M0 at *
  generalize Eng.pl n_M1 (ivf f_M1) = M1 at *
  generalize Eng.pl n_Q0 (ivf f_Q0) = Q0 at *
  generalize Eng.pl n_Q1 (ivf f_Q1) = Q1 at *
  generalize Eng.pl n_N0 (ivf f_N0) = N0 at *
  generalize Eng.pl n_N1 (ivf f_N1) = N1 at *
  simp only [penEq_eq, p20_4, pl_pf, Try.f20, go_sem, ↓reduceIte, Nat.reduceAdd, Nat.reduceSub, Nat.reduceMul, Nat.reduceEqDiff, Nat.reduceLT, Nat.reduceLeDiff, Int.reduceToNat, Int.reduceLE, Int.reduceLT, Int.reduceEq, Int.reduceNeg, reduceCtorEq]
  obtain ⟨l0, l1, l2, l3⟩ := pre
  have no : ∀ {p q : Prop} [Decidable q], (q → p) → ¬ p → decide q = false := fun h h2 => decide_eq_false (fun x => h2 (h x))
  refine loop_ofH { t : Nat // t ≤ 2 ∧ (0 < t → P0 = Q0 ∧ M0 = N0) ∧ (1 < t → P1 = Q1 ∧ M1 = N1) } (fun t => [(5, .int .i64 (t.1 : Int)), (3, .ptr 1 0), (2, .ptr 0 0)]) (fun h _ => h) (fun t => 2 - t.1) (fun _ => ⟨rfl, rfl⟩) ⟨0, by omega, by omega, by omega⟩ (by (apply sub_of <;> simp only [go_sem, ↓reduceIte, Nat.reduceAdd, Nat.reduceSub, Nat.reduceMul, Nat.reduceEqDiff, Nat.reduceLT, Nat.reduceLeDiff, Int.reduceToNat, Int.reduceLE, Int.reduceLT, Int.reduceEq, Int.reduceNeg, reduceCtorEq] <;> (try simp [catF]) <;> (try exact fun j _ => Bd_nth (by simp [BdL, Bd]) j) <;> (try exact bd_setL (by simp [bdAs, BdL, Bd])) <;> (try exact nestF_bd _ _ _ _ _ _ _ _ _))) ?_
  rintro ⟨t, ht, k0, k1⟩
  obtain rfl | rfl | rfl : t = 0 ∨ t = 1 ∨ t = 2 := by omega
  · simp only [penEq_eq, p20_4, pl_pf, Try.f20, go_sem, ↓reduceIte, Nat.reduceAdd, Nat.reduceSub, Nat.reduceMul, Nat.reduceEqDiff, Nat.reduceLT, Nat.reduceLeDiff, Int.reduceToNat, Int.reduceLE, Int.reduceLT, Int.reduceEq, Int.reduceNeg, reduceCtorEq]
    refine ⟨fun _ => ⟨⟨by kernel_rfl, by kernel_rfl⟩, by omega, by omega, l0, fun e1 => ?_, fun e1 => ⟨by omega, by omega, l2, fun e2 => ?_, fun e2 => ?_⟩⟩, fun h => absurd h (by simp)⟩
    · rw [no (p := P0 = Q0) (fun h => by cases h; rfl) (by simpa using e1)]
    · rw [no (p := M0 = N0) (fun h => by cases h; rfl) (by simpa using e2)]
    · have e1 : P0 = Q0 := by simpa using e1
      have e2 : M0 = N0 := by simpa using e2
      refine ⟨⟨1, by omega, fun _ => ⟨e1, e2⟩, fun h => absurd h (by omega)⟩, by simp only []; omega, ?_⟩
      apply sub_of <;> simp only [go_sem, ↓reduceIte, Nat.reduceAdd, Nat.reduceSub, Nat.reduceMul, Nat.reduceEqDiff, Nat.reduceLT, Nat.reduceLeDiff, Int.reduceToNat, Int.reduceLE, Int.reduceLT, Int.reduceEq, Int.reduceNeg, reduceCtorEq] <;> (try simp) <;> (try exact fun j _ => Bd_nth (by simp [BdL, Bd]) j) <;> (try exact bd_setL (by simp [bdAs, BdL, Bd])) <;> (try exact nestF_bd _ _ _ _ _ _ _ _ _)
      try rfl
  · simp only [penEq_eq, p20_4, pl_pf, Try.f20, go_sem, ↓reduceIte, Nat.reduceAdd, Nat.reduceSub, Nat.reduceMul, Nat.reduceEqDiff, Nat.reduceLT, Nat.reduceLeDiff, Int.reduceToNat, Int.reduceLE, Int.reduceLT, Int.reduceEq, Int.reduceNeg, reduceCtorEq]
    refine ⟨fun _ => ⟨⟨by kernel_rfl, by kernel_rfl⟩, by omega, by omega, l1, fun e1 => ?_, fun e1 => ⟨by omega, by omega, l3, fun e2 => ?_, fun e2 => ?_⟩⟩, fun h => absurd h (by simp)⟩
    · rw [no (p := P1 = Q1) (fun h => by cases h; rfl) (by simpa using e1)]
    · rw [no (p := M1 = N1) (fun h => by cases h; rfl) (by simpa using e2)]
    · have e1 : P1 = Q1 := by simpa using e1
      have e2 : M1 = N1 := by simpa using e2
      refine ⟨⟨2, by omega, fun _ => k0 (by omega), fun _ => ⟨e1, e2⟩⟩, by simp only []; omega, ?_⟩
      apply sub_of <;> simp only [go_sem, ↓reduceIte, Nat.reduceAdd, Nat.reduceSub, Nat.reduceMul, Nat.reduceEqDiff, Nat.reduceLT, Nat.reduceLeDiff, Int.reduceToNat, Int.reduceLE, Int.reduceLT, Int.reduceEq, Int.reduceNeg, reduceCtorEq] <;> (try simp) <;> (try exact fun j _ => Bd_nth (by simp [BdL, Bd]) j) <;> (try exact bd_setL (by simp [bdAs, BdL, Bd])) <;> (try exact nestF_bd _ _ _ _ _ _ _ _ _)
      try rfl
  · obtain ⟨rfl, rfl⟩ := k0 (by omega)
    obtain ⟨rfl, rfl⟩ := k1 (by omega)
    simp only [penEq_eq, p20_4, pl_pf, Try.f20, go_sem, ↓reduceIte, Nat.reduceAdd, Nat.reduceSub, Nat.reduceMul, Nat.reduceEqDiff, Nat.reduceLT, Nat.reduceLeDiff, Int.reduceToNat, Int.reduceLE, Int.reduceLT, Int.reduceEq, Int.reduceNeg, reduceCtorEq]
    refine ⟨fun h => absurd h (by simp), fun _ => ?_⟩
    all_goals repeat' refine spl_intro (fun _ => ?_) (fun _ => ?_)
    all_goals refine congrArg SV.bool (Bool.eq_iff_iff.2 ?_)
    all_goals simp_all
end Go.Eng
end

/- clock: what is left in all (plain). -/
section
namespace Go.Eng
open Go Go.RowKit Go.Proofs
set_option maxRecDepth 100000
set_option maxHeartbeats 4000000
attribute [local irreducible] OwnT DefS
def sumI : List Pen → Int
  | [] => 0
  | p :: l => p.l + sumI l
theorem sumI_app : ∀ (l k : List Pen), sumI (l ++ k) = sumI l + sumI k
  | [], k => by simp [sumI]
  | p :: l, k => by simp only [List.cons_append, sumI, sumI_app l k]; omega
def sumF (f : Nat → Nat → Int) : Nat → Int
  | 0 => 0
  | n + 1 => sumF f n + f n 2
theorem sumI_pl (f : Nat → Nat → Int) : ∀ n, sumI (Eng.pl n f) = sumF f n
  | 0 => rfl
  | n + 1 => by rw [pl_succ, sumI_app, sumI_pl f n]; simp [sumI, sumF, pn]
theorem sumI_filter : ∀ (l : List Pen), sumI (l.filter (fun p => decide (p.l ≠ 0))) = sumI l
  | [] => rfl
  | p :: l => by
    by_cases h : p.l = 0
    · rw [List.filter_cons_of_neg (by simp [h])]; simp only [sumI, sumI_filter l]; omega
    · rw [List.filter_cons_of_pos (by simp [h])]; simp only [sumI, sumI_filter l]
theorem sumF_congr {f g : Nat → Nat → Int} : ∀ {n : Nat}, (∀ i, i < n → f i 2 = g i 2) → sumF f n = sumF g n
  | 0, _ => rfl
  | n + 1, h => by simp only [sumF, h n (by omega), sumF_congr (n := n) (fun i hi => h i (by omega))]
theorem sumF_one {f g : Nat → Nat → Int} {q : Nat} {d : Int} (hq : g q 2 = f q 2 - d) (ho : ∀ i, i ≠ q → g i 2 = f i 2) : ∀ {n : Nat}, sumF g n = sumF f n - if q < n then d else 0
  | 0 => by simp [sumF]
  | n + 1 => by
    simp only [sumF, sumF_one hq ho (n := n)]
    by_cases h : n = q
    · subst h
      rw [if_neg (Nat.lt_irrefl _), if_pos (by omega), hq]
      omega
    · rw [ho n h]
      by_cases h2 : q < n
      · rw [if_pos h2, if_pos (by omega)]; omega
      · rw [if_neg h2, if_neg (by omega)]; omega
theorem sumF_dec {w : Nat → Int} {n : Int} {f : Nat → Nat → Int} {N : Nat} : ∀ (m : Nat), (∀ k, k < m → 0 ≤ w k ∧ w k < N) → (∀ j k, j < m → k < m → w j = w k → j = k) → sumF (decF m w n f) N = sumF f N - n * m
  | 0, _, _ => by
    rw [sumF_congr (f := decF 0 w n f) (g := f)]
    · simp
    · intro i _
      rw [decF, if_neg]
      rintro ⟨_, k, h, _⟩
      omega
  | m + 1, h1, h2 => by
    have hm := h1 m (by omega)
    have ih := sumF_dec m (fun k hk => h1 k (by omega)) (fun j k hj hk => h2 j k (by omega) (by omega)) (n := n) (f := f) (N := N)
    have hone := sumF_one (f := decF m w n f) (g := decF (m + 1) w n f) (q := (w m).toNat) (d := n)
      (by rw [decF_succ h2, if_pos ⟨rfl, by omega⟩, decF_new h2 (by omega)])
      (fun i hi => by rw [decF_succ h2, if_neg (by rintro ⟨_, h⟩; omega)]) (n := N)
    rw [hone, ih, if_pos (by omega)]
    rw [Int.natCast_add, Int.mul_add]
    omega
theorem sum_goneW {m : Nat} {w : Nat → Int} {n : Int} {l : List Pen} (h1 : ∀ k, k < m → 0 ≤ w k ∧ w k < l.length) (h2 : ∀ j k, j < m → k < m → w j = w k → j = k) : sumI (goneW m w n l) = sumI l - n * m := by
  have e : decW m w n l = Eng.pl l.length (decF m w n (pf l)) := by
    have := decW_pl (m := m) (w := w) (n := n) (N := l.length) (f := pf l)
    rw [pl_pf] at this
    exact this
  unfold goneW
  rw [sumI_filter, e, sumI_pl, sumF_dec m h1 h2, ← sumI_pl, pl_pf]
theorem sum_goneS (n : Int) (l : List Pen) : sumI (goneS n l) = sumI l - n * nS l := sum_goneW (fun k hk => wS_lt hk) (fun j k h1 h2 h3 => wS_inj h1 h2 h3)
theorem sum_goneM (n : Int) (l : List Pen) : sumI (goneM n l) = sumI l - n * l.length := sum_goneW (fun k hk => by omega) (fun j k h1 h2 h3 => by omega)
theorem sum_pos : ∀ {l : List Pen}, (∀ p ∈ l, 1 ≤ p.l) → (l.length : Int) ≤ sumI l
  | [], _ => by simp [sumI]
  | p :: l, h => by
    have h1 := h p (by simp)
    have h2 := sum_pos (l := l) (fun q hq => h q (by simp [hq]))
    simp only [sumI, List.length_cons]
    omega
theorem sum_max {M : Int} : ∀ {l : List Pen}, (∀ p ∈ l, p.l ≤ M) → sumI l ≤ M * l.length
  | [], _ => by simp [sumI]
  | p :: l, h => by
    have h1 := h p (by simp)
    have h2 := sum_max (M := M) (l := l) (fun q hq => h q (by simp [hq]))
    simp only [sumI, List.length_cons, Int.natCast_add, Int.mul_add]
    omega
/-- After how many seconds all is over, second by second. -/
def wholeT : Nat → List Pen → Int
  | 0, _ => 0
  | k + 1, l => if l = [] then 0 else 1 + wholeT k (goneS 1 l)
def wholeRT (p0 p1 : List Pen) (team : Int) : Int × Int :=
  if (okL p0 && okL p1) = false then (0, 1) else if in3 team 0 1 = false then (0, 2) else if team = 0 then (wholeT 76800 p0, 0) else (wholeT 76800 p1, 0)
end Go.Eng
end

/- clock: Board, by the reference. -/
section
namespace Go.Eng
open Go Go.RowKit Go.Proofs
set_option maxRecDepth 100000
set_option maxHeartbeats 4000000
attribute [local irreducible] OwnT DefS
def boardTBase : BaseF := fun args => match args with
  | [.agg [.int .i64 per, .int .i64 pd, .bool run, .int .i64 g0, .int .i64 g1, .row n_P0 sz_P0 f_P0, .row n_P1 sz_P1 f_P1, .row n_M0 sz_M0 f_M0, .row n_M1 sz_M1 f_M1]] => some ((sz_P0 = 3 ∧ IntR n_P0 3 f_P0) ∧ (sz_P1 = 3 ∧ IntR n_P1 3 f_P1) ∧ (sz_M0 = 3 ∧ IntR n_M0 3 f_M0) ∧ (sz_M1 = 3 ∧ IntR n_M1 3 f_M1) ∧ ((Eng.pl n_P0 (ivf f_P0)).length ≤ 1000000 ∧ (Eng.pl n_P1 (ivf f_P1)).length ≤ 1000000), .bool (okL (Eng.pl n_P0 (ivf f_P0)) && okL (Eng.pl n_P1 (ivf f_P1))))
  | _ => none
theorem boardT_eq (per : Int) (pd : Int) (run : Bool) (g0 : Int) (g1 : Int) (n_P0 : Nat) (sz_P0 : Nat) (f_P0 : Nat → Nat → SV) (n_P1 : Nat) (sz_P1 : Nat) (f_P1 : Nat → Nat → SV) (n_M0 : Nat) (sz_M0 : Nat) (f_M0 : Nat → Nat → SV) (n_M1 : Nat) (sz_M1 : Nat) (f_M1 : Nat → Nat → SV) : boardTBase [.agg [.int .i64 per, .int .i64 pd, .bool run, .int .i64 g0, .int .i64 g1, .row n_P0 sz_P0 f_P0, .row n_P1 sz_P1 f_P1, .row n_M0 sz_M0 f_M0, .row n_M1 sz_M1 f_M1]] = some ((sz_P0 = 3 ∧ IntR n_P0 3 f_P0) ∧ (sz_P1 = 3 ∧ IntR n_P1 3 f_P1) ∧ (sz_M0 = 3 ∧ IntR n_M0 3 f_M0) ∧ (sz_M1 = 3 ∧ IntR n_M1 3 f_M1) ∧ ((Eng.pl n_P0 (ivf f_P0)).length ≤ 1000000 ∧ (Eng.pl n_P1 (ivf f_P1)).length ≤ 1000000), .bool (okL (Eng.pl n_P0 (ivf f_P0)) && okL (Eng.pl n_P1 (ivf f_P1)))) := rfl
theorem boardT_base : Base Try.prog 41 boardTBase := by
  intro args p v hq hp
  unfold boardTBase at hq
  split at hq
  rotate_left
  · cases hq
  rename_i per pd run g0 g1 n_P0 sz_P0 f_P0 n_P1 sz_P1 f_P1 n_M0 sz_M0 f_M0 n_M1 sz_M1 f_M1
  cases hq
  obtain ⟨⟨rfl, i_P0⟩, ⟨rfl, i_P1⟩, ⟨rfl, i_M0⟩, ⟨rfl, i_M1⟩, pre⟩ := hp
  refine base_of (C := cx [] [] [(42, inBase)] [] none) (cx_ok trivial ⟨in_base, trivial⟩) rfl (g := 41) (fn := Try.f41)
    (args' := [.agg [.int .i64 per, .int .i64 pd, .bool run, .int .i64 g0, .int .i64 g1, .row (Eng.pl n_P0 (ivf f_P0)).length 3 (fun i j => .int .i64 (pf (Eng.pl n_P0 (ivf f_P0)) i j)), .row (Eng.pl n_P1 (ivf f_P1)).length 3 (fun i j => .int .i64 (pf (Eng.pl n_P1 (ivf f_P1)) i j)), .row (Eng.pl n_M0 (ivf f_M0)).length 3 (fun i j => .int .i64 (pf (Eng.pl n_M0 (ivf f_M0)) i j)), .row (Eng.pl n_M1 (ivf f_M1)).length 3 (fun i j => .int .i64 (pf (Eng.pl n_M1 (ivf f_M1)) i j))]]) (fn_41) rfl 1000 (by
    simp only [BdL, Bd, and_self, and_true, true_and]
    exact ⟨(fun i j hi hj => by rw [i_P0 i j hi hj]; trivial), (fun i j hi hj => by rw [i_P1 i j hi hj]; trivial), (fun i j hi hj => by rw [i_M0 i j hi hj]; trivial), (fun i j hi hj => by rw [i_M1 i j hi hj]; trivial)⟩) ⟨SameD.agg ⟨SameD.rfl' _, SameD.rfl' _, SameD.rfl' _, SameD.rfl' _, SameD.rfl' _, SameD.penL i_P0, SameD.penL i_P1, SameD.penL i_M0, SameD.penL i_M1, trivial⟩, trivial⟩ ?_
  generalize Eng.pl n_P0 (ivf f_P0) = P0 at *
  generalize Eng.pl n_P1 (ivf f_P1) = P1 at *
  generalize Eng.pl n_M0 (ivf f_M0) = M0 at *
  generalize Eng.pl n_M1 (ivf f_M1) = M1 at *
  simp only [in_eq, Try.f41, go_sem, ↓reduceIte, Nat.reduceAdd, Nat.reduceSub, Nat.reduceMul, Nat.reduceEqDiff, Nat.reduceLT, Nat.reduceLeDiff, Int.reduceToNat, Int.reduceLE, Int.reduceLT, Int.reduceEq, Int.reduceNeg, reduceCtorEq]
  obtain ⟨l0, l1⟩ := pre
  refine loop_ofH { t : Nat // t ≤ 2 ∧ (0 < t → okL P0 = true) ∧ (1 < t → okL P1 = true) } (fun t => [(3, .int .i64 (t.1 : Int)), (1, .ptr 0 0)]) (fun h _ => h) (fun t => 2 - t.1) (fun _ => ⟨rfl, rfl⟩) ⟨0, by omega, by omega, by omega⟩ (by (apply sub_of <;> simp only [go_sem, ↓reduceIte, Nat.reduceAdd, Nat.reduceSub, Nat.reduceMul, Nat.reduceEqDiff, Nat.reduceLT, Nat.reduceLeDiff, Int.reduceToNat, Int.reduceLE, Int.reduceLT, Int.reduceEq, Int.reduceNeg, reduceCtorEq] <;> (try simp [catF]) <;> (try exact fun j _ => Bd_nth (by simp [BdL, Bd]) j) <;> (try exact bd_setL (by simp [bdAs, BdL, Bd])) <;> (try exact nestF_bd _ _ _ _ _ _ _ _ _))) ?_
  rintro ⟨t, ht, k0, k1⟩
  have hw3 : ∀ i : Nat, i ≤ 1000000 → IntKind.i64.wrap ((i : Int) + 1) = ((i + 1 : Nat) : Int) := fun i h => by rw [wrap_id (by omega) (by omega)]; omega
  obtain rfl | rfl | rfl : t = 0 ∨ t = 1 ∨ t = 2 := by omega
  · simp only [in_eq, Try.f41, go_sem, ↓reduceIte, Nat.reduceAdd, Nat.reduceSub, Nat.reduceMul, Nat.reduceEqDiff, Nat.reduceLT, Nat.reduceLeDiff, Int.reduceToNat, Int.reduceLE, Int.reduceLT, Int.reduceEq, Int.reduceNeg, reduceCtorEq]
    have bad : okL P0 = false → SV.bool false = .bool (okL P0 && okL P1) := fun h => by rw [h]; rfl
    refine ⟨fun _ => ⟨by omega, ?_⟩, fun h => absurd h (by simp)⟩
    refine loop_ofH { i : Nat // i ≤ P0.length ∧ i ≤ 257 ∧ ∀ j, j < i → badF (pf P0) j = false } (fun i => [(5, .int .i64 (i.1 : Int)), (4, .row P0.length 3 (fun i j => .int .i64 (pf P0 i j))), (3, .int .i64 0), (1, .ptr 0 0)]) (fun h _ => h) (fun i => P0.length - i.1) (fun _ => ⟨rfl, rfl⟩) ⟨0, by omega, by omega, fun j hj => by omega⟩ (by (apply sub_of <;> simp only [go_sem, ↓reduceIte, Nat.reduceAdd, Nat.reduceSub, Nat.reduceMul, Nat.reduceEqDiff, Nat.reduceLT, Nat.reduceLeDiff, Int.reduceToNat, Int.reduceLE, Int.reduceLT, Int.reduceEq, Int.reduceNeg, reduceCtorEq] <;> (try simp [catF]) <;> (try exact fun j _ => Bd_nth (by simp [BdL, Bd]) j) <;> (try exact bd_setL (by simp [bdAs, BdL, Bd])) <;> (try exact nestF_bd _ _ _ _ _ _ _ _ _))) ?_
    rintro ⟨i, hi, hi2, h3⟩
    simp only [in_eq, Try.f41, go_sem, ↓reduceIte, Nat.reduceAdd, Nat.reduceSub, Nat.reduceMul, Nat.reduceEqDiff, Nat.reduceLT, Nat.reduceLeDiff, Int.reduceToNat, Int.reduceLE, Int.reduceLT, Int.reduceEq, Int.reduceNeg, reduceCtorEq]
    have stepN : ¬ P0.length ≤ 256 → okL P0 = false := fun h => by unfold okL; rw [decide_eq_false h]; rfl
    have badI : i < P0.length → badF (pf P0) i = true → okL P0 = false := fun h1 h2 => by
      unfold okL; rw [anyB_iff.2 ⟨i, h1, h2⟩]; simp
    have okI : P0.length ≤ i → P0.length ≤ 256 → okL P0 = true := fun h1 h2 => by
      unfold okL; rw [decide_eq_true h2, anyB_false.2 (fun j hj => h3 j (by omega))]; rfl
    have fin : (¬ i < P0.length ∨ ¬ i ≤ 256) → (P0.length ≤ 256 → okL P0 = true) := fun h1 h2 => okI (by omega) h2
    have again : (∀ P : Prop, P → P) := fun _ h => h
    refine ⟨fun e1 => ⟨fun e2 => ⟨by simp only [decide_eq_true_eq] at e1; omega, fun e3 => ?_, fun e3 => ⟨by simp only [decide_eq_true_eq] at e1; omega, fun e4 => ?_, fun e4 => ?_⟩⟩, fun e2 => ⟨fun e3 => ?_, fun e3 => ?_⟩⟩, fun e1 => ⟨fun e3 => ?_, fun e3 => ?_⟩⟩
    all_goals simp only [decide_eq_true_eq, decide_eq_false_iff_not] at e1
    all_goals try simp only [decide_eq_true_eq, decide_eq_false_iff_not] at e2
    all_goals try simp only [decide_eq_true_eq, decide_eq_false_iff_not] at e3
    · exact bad (badI (by omega) (by unfold badF; simp only [Bool.not_eq_true'] at e3; rw [e3]; rfl))
    · exact bad (badI (by omega) (by unfold badF; simp only [Bool.not_eq_true'] at e4; rw [e4]; simp))
    · simp only [Bool.not_eq_false'] at e3 e4
      refine ⟨⟨i + 1, by omega, by omega, fun j hj => ?_⟩, by simp only []; omega, ?_⟩
      · rcases Nat.lt_or_ge j i with h | h
        · exact h3 j h
        · obtain rfl : j = i := by omega
          unfold badF; rw [e3, e4]; rfl
      · apply sub_of <;> simp only [hw3 i (by omega), go_sem, ↓reduceIte, Nat.reduceAdd, Nat.reduceSub, Nat.reduceMul, Nat.reduceEqDiff, Nat.reduceLT, Nat.reduceLeDiff, Int.reduceToNat, Int.reduceLE, Int.reduceLT, Int.reduceEq, Int.reduceNeg, reduceCtorEq] <;> (try simp) <;> (try exact fun j _ => Bd_nth (by simp [BdL, Bd]) j) <;> (try exact bd_setL (by simp [bdAs, BdL, Bd])) <;> (try exact nestF_bd _ _ _ _ _ _ _ _ _)
    · exact bad (stepN (by omega))
    · have okP := fin (by omega) (by omega)
      refine ⟨⟨1, by omega, fun _ => okP, fun h => absurd h (by omega)⟩, by simp only []; omega, ?_⟩
      apply sub_of <;> simp only [go_sem, ↓reduceIte, Nat.reduceAdd, Nat.reduceSub, Nat.reduceMul, Nat.reduceEqDiff, Nat.reduceLT, Nat.reduceLeDiff, Int.reduceToNat, Int.reduceLE, Int.reduceLT, Int.reduceEq, Int.reduceNeg, reduceCtorEq] <;> (try simp) <;> (try exact fun j _ => Bd_nth (by simp [BdL, Bd]) j) <;> (try exact bd_setL (by simp [bdAs, BdL, Bd])) <;> (try exact nestF_bd _ _ _ _ _ _ _ _ _)
      try rfl
    · exact bad (stepN (by omega))
    · have okP := fin (by omega) (by omega)
      refine ⟨⟨1, by omega, fun _ => okP, fun h => absurd h (by omega)⟩, by simp only []; omega, ?_⟩
      apply sub_of <;> simp only [go_sem, ↓reduceIte, Nat.reduceAdd, Nat.reduceSub, Nat.reduceMul, Nat.reduceEqDiff, Nat.reduceLT, Nat.reduceLeDiff, Int.reduceToNat, Int.reduceLE, Int.reduceLT, Int.reduceEq, Int.reduceNeg, reduceCtorEq] <;> (try simp) <;> (try exact fun j _ => Bd_nth (by simp [BdL, Bd]) j) <;> (try exact bd_setL (by simp [bdAs, BdL, Bd])) <;> (try exact nestF_bd _ _ _ _ _ _ _ _ _)
      try rfl
  · simp only [in_eq, Try.f41, go_sem, ↓reduceIte, Nat.reduceAdd, Nat.reduceSub, Nat.reduceMul, Nat.reduceEqDiff, Nat.reduceLT, Nat.reduceLeDiff, Int.reduceToNat, Int.reduceLE, Int.reduceLT, Int.reduceEq, Int.reduceNeg, reduceCtorEq]
    have bad : okL P1 = false → SV.bool false = .bool (okL P0 && okL P1) := fun h => by rw [h]; simp
    refine ⟨fun _ => ⟨by omega, ?_⟩, fun h => absurd h (by simp)⟩
    refine loop_ofH { i : Nat // i ≤ P1.length ∧ i ≤ 257 ∧ ∀ j, j < i → badF (pf P1) j = false } (fun i => [(5, .int .i64 (i.1 : Int)), (4, .row P1.length 3 (fun i j => .int .i64 (pf P1 i j))), (3, .int .i64 1), (1, .ptr 0 0)]) (fun h _ => h) (fun i => P1.length - i.1) (fun _ => ⟨rfl, rfl⟩) ⟨0, by omega, by omega, fun j hj => by omega⟩ (by (apply sub_of <;> simp only [go_sem, ↓reduceIte, Nat.reduceAdd, Nat.reduceSub, Nat.reduceMul, Nat.reduceEqDiff, Nat.reduceLT, Nat.reduceLeDiff, Int.reduceToNat, Int.reduceLE, Int.reduceLT, Int.reduceEq, Int.reduceNeg, reduceCtorEq] <;> (try simp [catF]) <;> (try exact fun j _ => Bd_nth (by simp [BdL, Bd]) j) <;> (try exact bd_setL (by simp [bdAs, BdL, Bd])) <;> (try exact nestF_bd _ _ _ _ _ _ _ _ _))) ?_
    rintro ⟨i, hi, hi2, h3⟩
    simp only [in_eq, Try.f41, go_sem, ↓reduceIte, Nat.reduceAdd, Nat.reduceSub, Nat.reduceMul, Nat.reduceEqDiff, Nat.reduceLT, Nat.reduceLeDiff, Int.reduceToNat, Int.reduceLE, Int.reduceLT, Int.reduceEq, Int.reduceNeg, reduceCtorEq]
    have stepN : ¬ P1.length ≤ 256 → okL P1 = false := fun h => by unfold okL; rw [decide_eq_false h]; rfl
    have badI : i < P1.length → badF (pf P1) i = true → okL P1 = false := fun h1 h2 => by
      unfold okL; rw [anyB_iff.2 ⟨i, h1, h2⟩]; simp
    have okI : P1.length ≤ i → P1.length ≤ 256 → okL P1 = true := fun h1 h2 => by
      unfold okL; rw [decide_eq_true h2, anyB_false.2 (fun j hj => h3 j (by omega))]; rfl
    have fin : (¬ i < P1.length ∨ ¬ i ≤ 256) → (P1.length ≤ 256 → okL P1 = true) := fun h1 h2 => okI (by omega) h2
    have again : (∀ P : Prop, P → P) := fun _ h => h
    refine ⟨fun e1 => ⟨fun e2 => ⟨by simp only [decide_eq_true_eq] at e1; omega, fun e3 => ?_, fun e3 => ⟨by simp only [decide_eq_true_eq] at e1; omega, fun e4 => ?_, fun e4 => ?_⟩⟩, fun e2 => ⟨fun e3 => ?_, fun e3 => ?_⟩⟩, fun e1 => ⟨fun e3 => ?_, fun e3 => ?_⟩⟩
    all_goals simp only [decide_eq_true_eq, decide_eq_false_iff_not] at e1
    all_goals try simp only [decide_eq_true_eq, decide_eq_false_iff_not] at e2
    all_goals try simp only [decide_eq_true_eq, decide_eq_false_iff_not] at e3
    · exact bad (badI (by omega) (by unfold badF; simp only [Bool.not_eq_true'] at e3; rw [e3]; rfl))
    · exact bad (badI (by omega) (by unfold badF; simp only [Bool.not_eq_true'] at e4; rw [e4]; simp))
    · simp only [Bool.not_eq_false'] at e3 e4
      refine ⟨⟨i + 1, by omega, by omega, fun j hj => ?_⟩, by simp only []; omega, ?_⟩
      · rcases Nat.lt_or_ge j i with h | h
        · exact h3 j h
        · obtain rfl : j = i := by omega
          unfold badF; rw [e3, e4]; rfl
      · apply sub_of <;> simp only [hw3 i (by omega), go_sem, ↓reduceIte, Nat.reduceAdd, Nat.reduceSub, Nat.reduceMul, Nat.reduceEqDiff, Nat.reduceLT, Nat.reduceLeDiff, Int.reduceToNat, Int.reduceLE, Int.reduceLT, Int.reduceEq, Int.reduceNeg, reduceCtorEq] <;> (try simp) <;> (try exact fun j _ => Bd_nth (by simp [BdL, Bd]) j) <;> (try exact bd_setL (by simp [bdAs, BdL, Bd])) <;> (try exact nestF_bd _ _ _ _ _ _ _ _ _)
    · exact bad (stepN (by omega))
    · have okP := fin (by omega) (by omega)
      refine ⟨⟨2, by omega, fun _ => k0 (by omega), fun _ => okP⟩, by simp only []; omega, ?_⟩
      apply sub_of <;> simp only [go_sem, ↓reduceIte, Nat.reduceAdd, Nat.reduceSub, Nat.reduceMul, Nat.reduceEqDiff, Nat.reduceLT, Nat.reduceLeDiff, Int.reduceToNat, Int.reduceLE, Int.reduceLT, Int.reduceEq, Int.reduceNeg, reduceCtorEq] <;> (try simp) <;> (try exact fun j _ => Bd_nth (by simp [BdL, Bd]) j) <;> (try exact bd_setL (by simp [bdAs, BdL, Bd])) <;> (try exact nestF_bd _ _ _ _ _ _ _ _ _)
      try rfl
    · exact bad (stepN (by omega))
    · have okP := fin (by omega) (by omega)
      refine ⟨⟨2, by omega, fun _ => k0 (by omega), fun _ => okP⟩, by simp only []; omega, ?_⟩
      apply sub_of <;> simp only [go_sem, ↓reduceIte, Nat.reduceAdd, Nat.reduceSub, Nat.reduceMul, Nat.reduceEqDiff, Nat.reduceLT, Nat.reduceLeDiff, Int.reduceToNat, Int.reduceLE, Int.reduceLT, Int.reduceEq, Int.reduceNeg, reduceCtorEq] <;> (try simp) <;> (try exact fun j _ => Bd_nth (by simp [BdL, Bd]) j) <;> (try exact bd_setL (by simp [bdAs, BdL, Bd])) <;> (try exact nestF_bd _ _ _ _ _ _ _ _ _)
      try rfl
  · simp only [in_eq, Try.f41, go_sem, ↓reduceIte, Nat.reduceAdd, Nat.reduceSub, Nat.reduceMul, Nat.reduceEqDiff, Nat.reduceLT, Nat.reduceLeDiff, Int.reduceToNat, Int.reduceLE, Int.reduceLT, Int.reduceEq, Int.reduceNeg, reduceCtorEq]
    refine ⟨fun h => absurd h (by simp), fun _ => ?_⟩
    rw [k0 (by omega), k1 (by omega)]
    try rfl
def wholeTBase : BaseF := fun args => match args with
  | [.agg [.int .i64 per, .int .i64 pd, .bool run, .int .i64 g0, .int .i64 g1, .row n_P0 sz_P0 f_P0, .row n_P1 sz_P1 f_P1, .row n_M0 sz_M0 f_M0, .row n_M1 sz_M1 f_M1], .int .i64 team] => some ((sz_P0 = 3 ∧ IntR n_P0 3 f_P0) ∧ (sz_P1 = 3 ∧ IntR n_P1 3 f_P1) ∧ (sz_M0 = 3 ∧ IntR n_M0 3 f_M0) ∧ (sz_M1 = 3 ∧ IntR n_M1 3 f_M1) ∧ ((Eng.pl n_P0 (ivf f_P0)).length ≤ 1000000 ∧ (Eng.pl n_P1 (ivf f_P1)).length ≤ 1000000), .tup [.int .i64 (wholeRT (Eng.pl n_P0 (ivf f_P0)) (Eng.pl n_P1 (ivf f_P1)) team).1, .int .i64 (wholeRT (Eng.pl n_P0 (ivf f_P0)) (Eng.pl n_P1 (ivf f_P1)) team).2])
  | _ => none
theorem wholeT_eq (per : Int) (pd : Int) (run : Bool) (g0 : Int) (g1 : Int) (n_P0 : Nat) (sz_P0 : Nat) (f_P0 : Nat → Nat → SV) (n_P1 : Nat) (sz_P1 : Nat) (f_P1 : Nat → Nat → SV) (n_M0 : Nat) (sz_M0 : Nat) (f_M0 : Nat → Nat → SV) (n_M1 : Nat) (sz_M1 : Nat) (f_M1 : Nat → Nat → SV) (team : Int) : wholeTBase [.agg [.int .i64 per, .int .i64 pd, .bool run, .int .i64 g0, .int .i64 g1, .row n_P0 sz_P0 f_P0, .row n_P1 sz_P1 f_P1, .row n_M0 sz_M0 f_M0, .row n_M1 sz_M1 f_M1], .int .i64 team] = some ((sz_P0 = 3 ∧ IntR n_P0 3 f_P0) ∧ (sz_P1 = 3 ∧ IntR n_P1 3 f_P1) ∧ (sz_M0 = 3 ∧ IntR n_M0 3 f_M0) ∧ (sz_M1 = 3 ∧ IntR n_M1 3 f_M1) ∧ ((Eng.pl n_P0 (ivf f_P0)).length ≤ 1000000 ∧ (Eng.pl n_P1 (ivf f_P1)).length ≤ 1000000), .tup [.int .i64 (wholeRT (Eng.pl n_P0 (ivf f_P0)) (Eng.pl n_P1 (ivf f_P1)) team).1, .int .i64 (wholeRT (Eng.pl n_P0 (ivf f_P0)) (Eng.pl n_P1 (ivf f_P1)) team).2]) := rfl
theorem wholeT_base : Base Try.prog 18 wholeTBase := by
  intro args p v hq hp
  unfold wholeTBase at hq
  split at hq
  rotate_left
  · cases hq
  rename_i per pd run g0 g1 n_P0 sz_P0 f_P0 n_P1 sz_P1 f_P1 n_M0 sz_M0 f_M0 n_M1 sz_M1 f_M1 team
  cases hq
  obtain ⟨⟨rfl, i_P0⟩, ⟨rfl, i_P1⟩, ⟨rfl, i_M0⟩, ⟨rfl, i_M1⟩, pre⟩ := hp
  refine base_of (C := cx [] [] [(41, boardTBase), (42, inBase), (22, servedRBase), (43, lessBase)] [] none) (cx_ok trivial ⟨boardT_base, in_base, servedR_base, less_base, trivial⟩) rfl (g := 18) (fn := Try.f18)
    (args' := [.agg [.int .i64 per, .int .i64 pd, .bool run, .int .i64 g0, .int .i64 g1, .row (Eng.pl n_P0 (ivf f_P0)).length 3 (fun i j => .int .i64 (pf (Eng.pl n_P0 (ivf f_P0)) i j)), .row (Eng.pl n_P1 (ivf f_P1)).length 3 (fun i j => .int .i64 (pf (Eng.pl n_P1 (ivf f_P1)) i j)), .row (Eng.pl n_M0 (ivf f_M0)).length 3 (fun i j => .int .i64 (pf (Eng.pl n_M0 (ivf f_M0)) i j)), .row (Eng.pl n_M1 (ivf f_M1)).length 3 (fun i j => .int .i64 (pf (Eng.pl n_M1 (ivf f_M1)) i j))], .int .i64 team]) (fn_18) rfl 1000 (by
    simp only [BdL, Bd, and_self, and_true, true_and]
    exact ⟨(fun i j hi hj => by rw [i_P0 i j hi hj]; trivial), (fun i j hi hj => by rw [i_P1 i j hi hj]; trivial), (fun i j hi hj => by rw [i_M0 i j hi hj]; trivial), (fun i j hi hj => by rw [i_M1 i j hi hj]; trivial)⟩) ⟨SameD.agg ⟨SameD.rfl' _, SameD.rfl' _, SameD.rfl' _, SameD.rfl' _, SameD.rfl' _, SameD.penL i_P0, SameD.penL i_P1, SameD.penL i_M0, SameD.penL i_M1, trivial⟩, SameD.rfl' _, trivial⟩ ?_
  generalize Eng.pl n_P0 (ivf f_P0) = P0 at *
  generalize Eng.pl n_P1 (ivf f_P1) = P1 at *
  generalize Eng.pl n_M0 (ivf f_M0) = M0 at *
  generalize Eng.pl n_M1 (ivf f_M1) = M1 at *
  obtain ⟨l0, l1⟩ := pre
  have hw : ∀ team, wholeRT P0 P1 team = if (okL P0 && okL P1) = false then (0, 1) else if in3 team 0 1 = false then (0, 2) else if team = 0 then (wholeT 76800 P0, 0) else (wholeT 76800 P1, 0) := fun team => rfl
  cases hbb : (okL P0 && okL P1)
  · rw [hw, if_pos hbb]
    simp only [hbb, boardT_eq, in_eq, servedR_eq, less_eq, pl_pf, rowP, Try.f18, go_sem, ↓reduceIte, Nat.reduceAdd, Nat.reduceSub, Nat.reduceMul, Nat.reduceEqDiff, Nat.reduceLT, Nat.reduceLeDiff, Int.reduceToNat, Int.reduceLE, Int.reduceLT, Int.reduceEq, Int.reduceNeg, reduceCtorEq]
    exact ⟨l0, l1⟩
  rw [hw, if_neg (by rw [hbb]; simp)]
  cases hin : in3 team 0 1
  · rw [if_pos rfl]
    simp only [hbb, hin, boardT_eq, in_eq, servedR_eq, less_eq, pl_pf, rowP, Try.f18, go_sem, ↓reduceIte, Nat.reduceAdd, Nat.reduceSub, Nat.reduceMul, Nat.reduceEqDiff, Nat.reduceLT, Nat.reduceLeDiff, Int.reduceToNat, Int.reduceLE, Int.reduceLT, Int.reduceEq, Int.reduceNeg, reduceCtorEq]
    exact ⟨l0, l1⟩
  · have hin2 := in3_iff.1 hin
    rw [if_neg (by simp)]
    have e1 : okL P0 = true ∧ okL P1 = true := by simpa using hbb
    obtain rfl | rfl : team = 0 ∨ team = 1 := by omega
    · rw [if_pos rfl]
      simp only [hbb, hin, boardT_eq, in_eq, servedR_eq, less_eq, pl_pf, rowP, Try.f18, go_sem, ↓reduceIte, Nat.reduceAdd, Nat.reduceSub, Nat.reduceMul, Nat.reduceEqDiff, Nat.reduceLT, Nat.reduceLeDiff, Int.reduceToNat, Int.reduceLE, Int.reduceLT, Int.reduceEq, Int.reduceNeg, reduceCtorEq]
      refine ⟨⟨l0, l1⟩, by omega, ?_⟩
      have hokP := okL_lOk e1.1
      have hlenP : P0.length ≤ 256 := by have := e1.1; unfold okL at this; simp only [Bool.and_eq_true, decide_eq_true_eq] at this; exact this.1
      have hsum := sum_max hokP.2
      generalize hT : wholeT 76800 P0 = T
      refine loop_of { x : List Pen × Int × Nat // lOk x.1 ∧ x.2.1 + wholeT x.2.2 x.1 = T ∧ sumI x.1 ≤ x.2.2 ∧ 0 ≤ x.2.1 ∧ x.2.1 + sumI x.1 ≤ 76800 } (fun x => [(7, .int .i64 x.1.2.1), (6, .row x.1.1.length 3 (fun i j => .int .i64 (pf x.1.1 i j)))]) (fun _ => ⟨[.dead], []⟩) (fun x => (sumI x.1.1).toNat) (fun _ => ⟨rfl, rfl⟩) ⟨(P0, 0, 76800), hokP.1, (Int.zero_add _).trans hT, by simp only []; omega, Int.le_refl _, by simp only []; omega⟩ (by (apply sub_of <;> simp only [go_sem, ↓reduceIte, Nat.reduceAdd, Nat.reduceSub, Nat.reduceMul, Nat.reduceEqDiff, Nat.reduceLT, Nat.reduceLeDiff, Int.reduceToNat, Int.reduceLE, Int.reduceLT, Int.reduceEq, Int.reduceNeg, reduceCtorEq] <;> (try simp [catF]) <;> (try exact fun j _ => Bd_nth (by simp [BdL, Bd]) j) <;> (try exact bd_setL (by simp [bdAs, BdL, Bd])) <;> (try exact nestF_bd _ _ _ _ _ _ _ _ _))) ?_
      rintro ⟨⟨L, sm, k⟩, c1, c2, c3, c4, c5⟩
      simp only at c1 c2 c3 c4 c5
      simp only [boardT_eq, in_eq, servedR_eq, less_eq, pl_pf, rowP, Try.f18, go_sem, ↓reduceIte, Nat.reduceAdd, Nat.reduceSub, Nat.reduceMul, Nat.reduceEqDiff, Nat.reduceLT, Nat.reduceLeDiff, Int.reduceToNat, Int.reduceLE, Int.reduceLT, Int.reduceEq, Int.reduceNeg, reduceCtorEq]
      have hS := nS_le L
      have hl := c1.1
      have hps := sum_pos (fun p hp => (c1.2 p hp).1)
      refine ⟨fun e2 => ⟨by omega, ⟨by omega, by omega, fun j k h1 h2 h3 => wS_inj h1 h2 h3, fun i hi => lOk_pf c1 hi⟩, ?_⟩, fun e2 => ?_⟩
      all_goals simp only [decide_eq_true_eq, decide_eq_false_iff_not] at e2
      · have hne : L ≠ [] := fun h => by rw [h] at e2; simp at e2
        obtain ⟨k, rfl⟩ : ∃ k', k = k' + 1 := ⟨k - 1, by omega⟩
        have hp := nS_pos hne
        have hs := sum_goneS 1 L
        simp only [wholeT, if_neg hne] at c2
        have w1 : IntKind.i64.wrap (sm + 1) = sm + 1 := wrap_id (by omega) (by omega)
        have hsn := sum_pos (fun p hp => ((goneW_ok c1 (m := nS L) (w := wS L) (n := 1) (by omega) (fun k hk => (lOk_pf c1 (by have := wS_lt hk; omega)).1)).2 p hp).1)
        refine ⟨⟨(goneS 1 L, sm + 1, k), goneW_ok c1 (by omega) (fun k hk => (lOk_pf c1 (by have := wS_lt hk; omega)).1), by simp only []; omega, by simp only []; omega, by simp only []; omega, by simp only []; omega⟩, ?_, ?_⟩
        · show (sumI (goneS 1 L)).toNat < _
          omega
        · apply sub_of <;> simp only [w1, goneS, go_sem, ↓reduceIte, Nat.reduceAdd, Nat.reduceSub, Nat.reduceMul, Nat.reduceEqDiff, Nat.reduceLT, Nat.reduceLeDiff, Int.reduceToNat, Int.reduceLE, Int.reduceLT, Int.reduceEq, Int.reduceNeg, reduceCtorEq] <;> (try simp) <;> (try exact fun j _ => Bd_nth (by simp [BdL, Bd]) j) <;> (try exact bd_setL (by simp [bdAs, BdL, Bd])) <;> (try exact nestF_bd _ _ _ _ _ _ _ _ _)
          try rfl
      · have hne : L = [] := List.length_eq_zero_iff.1 (by omega)
        subst hne
        have : wholeT k [] = 0 := by cases k <;> simp [wholeT]
        rw [← c2, this, Int.add_zero]
    · rw [if_neg (by decide)]
      simp only [hbb, hin, boardT_eq, in_eq, servedR_eq, less_eq, pl_pf, rowP, Try.f18, go_sem, ↓reduceIte, Nat.reduceAdd, Nat.reduceSub, Nat.reduceMul, Nat.reduceEqDiff, Nat.reduceLT, Nat.reduceLeDiff, Int.reduceToNat, Int.reduceLE, Int.reduceLT, Int.reduceEq, Int.reduceNeg, reduceCtorEq]
      refine ⟨⟨l0, l1⟩, by omega, ?_⟩
      have hokP := okL_lOk e1.2
      have hlenP : P1.length ≤ 256 := by have := e1.2; unfold okL at this; simp only [Bool.and_eq_true, decide_eq_true_eq] at this; exact this.1
      have hsum := sum_max hokP.2
      generalize hT : wholeT 76800 P1 = T
      refine loop_of { x : List Pen × Int × Nat // lOk x.1 ∧ x.2.1 + wholeT x.2.2 x.1 = T ∧ sumI x.1 ≤ x.2.2 ∧ 0 ≤ x.2.1 ∧ x.2.1 + sumI x.1 ≤ 76800 } (fun x => [(7, .int .i64 x.1.2.1), (6, .row x.1.1.length 3 (fun i j => .int .i64 (pf x.1.1 i j)))]) (fun _ => ⟨[.dead], []⟩) (fun x => (sumI x.1.1).toNat) (fun _ => ⟨rfl, rfl⟩) ⟨(P1, 0, 76800), hokP.1, (Int.zero_add _).trans hT, by simp only []; omega, Int.le_refl _, by simp only []; omega⟩ (by (apply sub_of <;> simp only [go_sem, ↓reduceIte, Nat.reduceAdd, Nat.reduceSub, Nat.reduceMul, Nat.reduceEqDiff, Nat.reduceLT, Nat.reduceLeDiff, Int.reduceToNat, Int.reduceLE, Int.reduceLT, Int.reduceEq, Int.reduceNeg, reduceCtorEq] <;> (try simp [catF]) <;> (try exact fun j _ => Bd_nth (by simp [BdL, Bd]) j) <;> (try exact bd_setL (by simp [bdAs, BdL, Bd])) <;> (try exact nestF_bd _ _ _ _ _ _ _ _ _))) ?_
      rintro ⟨⟨L, sm, k⟩, c1, c2, c3, c4, c5⟩
      simp only at c1 c2 c3 c4 c5
      simp only [boardT_eq, in_eq, servedR_eq, less_eq, pl_pf, rowP, Try.f18, go_sem, ↓reduceIte, Nat.reduceAdd, Nat.reduceSub, Nat.reduceMul, Nat.reduceEqDiff, Nat.reduceLT, Nat.reduceLeDiff, Int.reduceToNat, Int.reduceLE, Int.reduceLT, Int.reduceEq, Int.reduceNeg, reduceCtorEq]
      have hS := nS_le L
      have hl := c1.1
      have hps := sum_pos (fun p hp => (c1.2 p hp).1)
      refine ⟨fun e2 => ⟨by omega, ⟨by omega, by omega, fun j k h1 h2 h3 => wS_inj h1 h2 h3, fun i hi => lOk_pf c1 hi⟩, ?_⟩, fun e2 => ?_⟩
      all_goals simp only [decide_eq_true_eq, decide_eq_false_iff_not] at e2
      · have hne : L ≠ [] := fun h => by rw [h] at e2; simp at e2
        obtain ⟨k, rfl⟩ : ∃ k', k = k' + 1 := ⟨k - 1, by omega⟩
        have hp := nS_pos hne
        have hs := sum_goneS 1 L
        simp only [wholeT, if_neg hne] at c2
        have w1 : IntKind.i64.wrap (sm + 1) = sm + 1 := wrap_id (by omega) (by omega)
        have hsn := sum_pos (fun p hp => ((goneW_ok c1 (m := nS L) (w := wS L) (n := 1) (by omega) (fun k hk => (lOk_pf c1 (by have := wS_lt hk; omega)).1)).2 p hp).1)
        refine ⟨⟨(goneS 1 L, sm + 1, k), goneW_ok c1 (by omega) (fun k hk => (lOk_pf c1 (by have := wS_lt hk; omega)).1), by simp only []; omega, by simp only []; omega, by simp only []; omega, by simp only []; omega⟩, ?_, ?_⟩
        · show (sumI (goneS 1 L)).toNat < _
          omega
        · apply sub_of <;> simp only [w1, goneS, go_sem, ↓reduceIte, Nat.reduceAdd, Nat.reduceSub, Nat.reduceMul, Nat.reduceEqDiff, Nat.reduceLT, Nat.reduceLeDiff, Int.reduceToNat, Int.reduceLE, Int.reduceLT, Int.reduceEq, Int.reduceNeg, reduceCtorEq] <;> (try simp) <;> (try exact fun j _ => Bd_nth (by simp [BdL, Bd]) j) <;> (try exact bd_setL (by simp [bdAs, BdL, Bd])) <;> (try exact nestF_bd _ _ _ _ _ _ _ _ _)
          try rfl
      · have hne : L = [] := List.length_eq_zero_iff.1 (by omega)
        subst hne
        have : wholeT k [] = 0 := by cases k <;> simp [wholeT]
        rw [← c2, this, Int.add_zero]
end Go.Eng
end

/- clock: Without by the reference. -/
section
namespace Go.Eng
open Go Go.RowKit Go.Proofs
set_option maxRecDepth 100000
set_option maxHeartbeats 4000000
attribute [local irreducible] OwnT DefS
theorem playT_at {n : Nat} (hn : n ≤ 1000000) (l : Nat → Nat → Int) (h : HS) : CallsS Try.prog 23 [.row n 4 (fun i j => .int .i64 (l i j))] h (fun o h' => o = .ret (.tup [boS (plT n l).1, .int .i64 (plT n l).2.1, .int .i64 (plT n l).2.2]) ∧ h' = h) := by
  refine calls_mono ?_ (bareS_ok playT_base [.row n 4 (fun i j => .int .i64 (l i j))] h ((4 = 4 ∧ IntR n 4 (fun i j => .int .i64 (l i j))) ∧ n ≤ 1000000) (.tup [boS (plT n l).1, .int .i64 (plT n l).2.1, .int .i64 (plT n l).2.2]) h rfl ⟨⟨rfl, fun _ _ _ _ => rfl⟩, hn⟩)
  rintro o h' ⟨h1, h2⟩
  exact ⟨h1, h2⟩
theorem playT_own {n : Nat} (hn : n ≤ 1000000) (l : Nat → Nat → Int) (h : HS) (k v ty : Nat) {F : Nat → Nat → SV} (hk : getV h.vecs k = .live v ty 4 n F) (hF : ∀ i j, i < n → j < 4 → F i j = .int .i64 (l i j)) :
    CallsS Try.prog 23 [.vec k v] h (fun o h' => o = .ret (.tup [boS (plT n l).1, .int .i64 (plT n l).2.1, .int .i64 (plT n l).2.2]) ∧ h' = { h with vecs := setV h.vecs k .dead }) := by
  refine calls_give (l1 := []) (l2 := []) hk ?_
  refine calls_congr (args' := [.row n 4 (fun i j => .int .i64 (l i j))]) ⟨SameD.rowD fun i j hi hj => by rw [hF i j hi hj]; exact SameD.rfl' _, trivial⟩ ?_
  exact playT_at hn l _
theorem playT_congr {ev ev' : Nat → Ev} {to : Int} : ∀ (k i : Nat) (s : Ga), (∀ j, j < i + k → ev j = ev' j) → playT ev to k i s = playT ev' to k i s
  | 0, i, s, _ => rfl
  | k + 1, i, s, h => by
    have h1 := h i (by omega)
    have h2 : i ≠ 0 → ev (i - 1) = ev' (i - 1) := fun _ => h (i - 1) (by omega)
    have h3 : (i ≠ 0 ∧ (ev i).s < (ev (i - 1)).s) ↔ (i ≠ 0 ∧ (ev' i).s < (ev' (i - 1)).s) := by
      constructor
      · rintro ⟨a, b⟩; rw [h1, h2 a] at b; exact ⟨a, b⟩
      · rintro ⟨a, b⟩; rw [h1, h2 a]; exact ⟨a, b⟩
    simp only [playT, h1, playT_congr k (i + 1) _ (fun j hj => h j (by omega))]
    congr 1
    by_cases q : i ≠ 0 ∧ (ev i).s < (ev (i - 1)).s
    · rw [if_pos (by rw [← h1]; exact q), if_pos (h3.1 q)]
    · rw [if_neg (by rw [← h1]; exact q), if_neg (fun r => q (h3.2 r))]
def wiT (n : Nat) (l : Nat → Nat → Int) (q : Int) : Bo × Int :=
  if (plT n l).2.2 ≠ 0 then (Bo.z, (plT n l).2.2) else if in3 q 0 ((n : Int) - 1) = false then (Bo.z, 2) else if l q.toNat 0 ≠ 2 then (Bo.z, 6) else ((plT n (setK l q.toNat)).1, 0)
def withTBase : BaseF := fun args => match args with
  | [.row n sz_l f_l, .int .i64 q] => some ((sz_l = 4 ∧ IntR n 4 f_l) ∧ (n ≤ 1000000), .tup [boS (wiT n (ivf f_l) q).1, .int .i64 (wiT n (ivf f_l) q).2])
  | _ => none
theorem withT_eq (n : Nat) (sz_l : Nat) (f_l : Nat → Nat → SV) (q : Int) : withTBase [.row n sz_l f_l, .int .i64 q] = some ((sz_l = 4 ∧ IntR n 4 f_l) ∧ (n ≤ 1000000), .tup [boS (wiT n (ivf f_l) q).1, .int .i64 (wiT n (ivf f_l) q).2]) := rfl
theorem withT_base : NB Try.prog 26 withTBase := by
  intro args p v hq hp
  unfold withTBase at hq
  split at hq
  rotate_left
  · cases hq
  rename_i n sz_l f_l q
  cases hq
  obtain ⟨⟨rfl, i_l⟩, pre⟩ := hp
  refine nb_of (C := cx [23] [] [(42, inBase)] [] none) (cx_ok trivial ⟨in_base, trivial⟩) rfl (g := 26) (fn := Try.f26)
    (args' := [.row n 4 (rowF .i64 (ivf f_l)), .int .i64 q]) (fn_26) rfl 1000 (by
    simp only [BdL, Bd, and_self, and_true, true_and]
    exact (fun i j hi hj => by rw [i_l i j hi hj]; trivial)) ⟨SameD.int i_l, SameD.rfl' _, trivial⟩ (by simp only [boS, rowP, Bd, BdL, and_true, implies_true]) ?_
  generalize ivf f_l = l at *
  simp only [rowF_eq]
  simp only [in_eq, boS, rowP, Try.f26, go_sem, ↓reduceIte, Nat.reduceAdd, Nat.reduceSub, Nat.reduceMul, Nat.reduceEqDiff, Nat.reduceLT, Nat.reduceLeDiff, Int.reduceToNat, Int.reduceLE, Int.reduceLT, Int.reduceEq, Int.reduceNeg, reduceCtorEq]
  have wn : IntKind.i64.wrap ((n : Int) - 1) = (n : Int) - 1 := wrap_id (by omega) (by omega)
  unfold callS
  refine calls_mono ?_ (playT_at pre l _)
  rintro o h' ⟨rfl, rfl⟩
  simp only [wn, in_eq, boS, rowP, Try.f26, go_sem, ↓reduceIte, Nat.reduceAdd, Nat.reduceSub, Nat.reduceMul, Nat.reduceEqDiff, Nat.reduceLT, Nat.reduceLeDiff, Int.reduceToNat, Int.reduceLE, Int.reduceLT, Int.reduceEq, Int.reduceNeg, reduceCtorEq]
  refine ⟨fun e1 => ?_, fun e1 => ⟨fun e2 => ?_, fun e2 => ⟨?_, fun e3 => ?_, fun e3 => ?_⟩⟩⟩
  · have h : wiT n l q = (Bo.z, (plT n l).2.2) := by unfold wiT; rw [if_pos (by simpa using e1)]
    rw [h]
    exact ⟨fun i j h => by omega, SameD.tup ⟨boS_z, SameD.rfl' _, trivial⟩⟩
  · have h : wiT n l q = (Bo.z, 2) := by unfold wiT; rw [if_neg (by simpa using e1), if_pos (by simpa using e2)]
    rw [h]
    exact ⟨fun i j h => by omega, SameD.tup ⟨boS_z, SameD.rfl' _, trivial⟩⟩
  · have := in3_iff.1 (show in3 q 0 ((n : Int) - 1) = true by simpa using e2)
    omega
  · have h : wiT n l q = (Bo.z, 6) := by unfold wiT; rw [if_neg (by simpa using e1), if_neg (by simpa using e2), if_pos (by simpa using e3)]
    rw [h]
    exact ⟨fun i j h => by omega, SameD.tup ⟨boS_z, SameD.rfl' _, trivial⟩⟩
  · have := in3_iff.1 (show in3 q 0 ((n : Int) - 1) = true by simpa using e2)
    have h : wiT n l q = ((plT n (setK l q.toNat)).1, 0) := by unfold wiT; rw [if_neg (by simpa using e1), if_neg (by simpa using e2), if_neg (by simpa using e3)]
    rw [h]
    refine ⟨by omega, by omega, by omega, ?_⟩
    unfold callS
    refine calls_mono ?_ (playT_own pre (setK l q.toNat) _ 8 1 35 rfl ?_)
    · rintro o h' ⟨rfl, rfl⟩
      simp only [in_eq, boS, rowP, Try.f26, go_sem, ↓reduceIte, Nat.reduceAdd, Nat.reduceSub, Nat.reduceMul, Nat.reduceEqDiff, Nat.reduceLT, Nat.reduceLeDiff, Int.reduceToNat, Int.reduceLE, Int.reduceLT, Int.reduceEq, Int.reduceNeg, reduceCtorEq]
      exact ⟨⟨fun _ _ _ _ => trivial, fun _ _ _ _ => trivial, fun _ _ _ _ => trivial, fun _ _ _ _ => trivial⟩, SameD.rfl' _⟩
    · intro i j hi hj
      unfold setK updF catF
      by_cases hc : i = q.toNat ∧ j = 0
      · obtain ⟨h1, rfl⟩ := hc
        rw [if_pos (by omega), if_pos (by omega)]
        rfl
      · rw [if_neg (by omega), if_neg hc]
        simp
end Go.Eng
end

/- clock: a stretch is as many seconds (plain). -/
section
namespace Go.Eng
open Go Go.RowKit Go.Proofs
set_option maxRecDepth 100000
set_option maxHeartbeats 4000000
attribute [local irreducible] OwnT DefS
theorem decW_len (m : Nat) (w : Nat → Int) (n : Int) (l : List Pen) : (decW m w n l).length = l.length := by unfold decW; rw [pl_len]
theorem pf_decW {m : Nat} {w : Nat → Int} {n : Int} {l : List Pen} {i j : Nat} (hi : i < l.length) (hj : j < 3) : pf (decW m w n l) i j = if j = 2 ∧ ∃ k, k < m ∧ w k = i then pf l i j - n else pf l i j := by
  unfold decW
  rw [pf_pl hi hj]
/-- Nobody's is over. -/
theorem goneW_less {m : Nat} {w : Nat → Int} {n : Int} {l : List Pen} (h : ∀ p ∈ l, 1 ≤ p.l) (hn : ∀ k, k < m → n + 1 ≤ pf l (w k).toNat 2) : goneW m w n l = decW m w n l := by
  unfold goneW
  refine List.filter_eq_self.2 fun p hp => ?_
  obtain ⟨i, hi, rfl⟩ := mem_pl hp
  have h1 := h _ (pf_mem hi)
  simp only [pn, decide_eq_true_eq] at h1 ⊢
  split
  · rename_i hk
    obtain ⟨_, k, hk, hk2⟩ := hk
    have := hn k hk
    rw [show (w k).toNat = i by omega] at this
    omega
  · omega
theorem decW_add {m : Nat} {w : Nat → Int} {n d : Int} {l : List Pen} : decW m w d (decW m w n l) = decW m w (n + d) l := by
  have h1 : decW m w d (decW m w n l) = Eng.pl l.length (fun i j => if j = 2 ∧ ∃ k, k < m ∧ w k = i then pf (decW m w n l) i j - d else pf (decW m w n l) i j) := by
    conv => lhs; unfold decW
    rw [show (Eng.pl l.length fun i j => if j = 2 ∧ ∃ k, k < m ∧ w k = i then pf l i j - n else pf l i j) = decW m w n l from rfl, decW_len]
  rw [h1]
  unfold decW
  apply pl_congr
  intro i j hi hj
  rw [pf_pl hi hj]
  split
  · omega
  · rfl
theorem goneW_add {m : Nat} {w : Nat → Int} {n d : Int} {l : List Pen} (h : ∀ p ∈ l, 1 ≤ p.l) (hn : ∀ k, k < m → n + 1 ≤ pf l (w k).toNat 2) : goneW m w d (goneW m w n l) = goneW m w (n + d) l := by
  rw [goneW_less h hn]
  unfold goneW
  rw [decW_add]
theorem same_players {l k : List Pen} (hl : l.length = k.length) (h : ∀ i, i < l.length → pf l i 0 = pf k i 0) : secL l = secL k ∧ nS l = nS k ∧ wS l = wS k := by
  have e : secL l = secL k := by
    rcases Nat.eq_zero_or_pos l.length with h0 | h0
    · have a : l = [] := List.length_eq_zero_iff.1 h0
      have b : k = [] := List.length_eq_zero_iff.1 (by omega)
      rw [a, b]
    · obtain ⟨q1, q2, q3, q4⟩ := secL_spec (l := k) (by omega)
      refine secL_eq h0 (by omega) (fun j hj => ?_) (fun hk => ?_)
      · rw [h j (by omega), h 0 h0]; exact q3 j hj
      · rw [h _ hk, h 0 h0]; exact q4 (by omega)
  refine ⟨e, ?_, ?_⟩
  · unfold nS; rw [e, hl]
  · funext x; unfold wS; rw [e]
theorem goneS_same {n : Int} {l : List Pen} (h : ∀ p ∈ l, 1 ≤ p.l) (hn : ∀ k, k < nS l → n + 1 ≤ pf l (wS l k).toNat 2) : nS (goneS n l) = nS l ∧ wS (goneS n l) = wS l ∧ goneS n l = decW (nS l) (wS l) n l := by
  have e : goneS n l = decW (nS l) (wS l) n l := goneW_less h hn
  obtain ⟨_, h2, h3⟩ := same_players (l := goneS n l) (k := l) (by rw [e, decW_len]) (fun i hi => by rw [e] at hi ⊢; rw [decW_len] at hi; rw [pf_decW hi (by omega), if_neg (by omega)])
  exact ⟨h2, h3, e⟩
theorem goneS_add {n d : Int} {l : List Pen} (h : ∀ p ∈ l, 1 ≤ p.l) (hn : ∀ k, k < nS l → n + 1 ≤ pf l (wS l k).toNat 2) : goneS d (goneS n l) = goneS (n + d) l := by
  obtain ⟨h1, h2, _⟩ := goneS_same h hn
  have : goneS d (goneS n l) = goneW (nS l) (wS l) d (goneW (nS l) (wS l) n l) := by
    show goneW (nS (goneS n l)) (wS (goneS n l)) d (goneS n l) = _
    rw [h1, h2]; rfl
  rw [this, goneW_add h hn]
  rfl
theorem goneM_add {n d : Int} {l : List Pen} (h : ∀ p ∈ l, 1 ≤ p.l) (hn : ∀ k, k < l.length → n + 1 ≤ pf l k 2) : goneM d (goneM n l) = goneM (n + d) l := by
  have hn' : ∀ k, k < l.length → n + 1 ≤ pf l ((k : Int)).toNat 2 := fun k hk => by simpa using hn k hk
  have e : goneM n l = decW l.length (fun k => (k : Int)) n l := goneW_less h hn'
  have hl : (goneM n l).length = l.length := by rw [e, decW_len]
  have : goneM d (goneM n l) = goneW l.length (fun k => (k : Int)) d (goneW l.length (fun k => (k : Int)) n l) := by
    show goneW (goneM n l).length _ d (goneM n l) = _
    rw [hl]; rfl
  rw [this, goneW_add h hn']
  rfl
theorem goneW_0 {m : Nat} {w : Nat → Int} {l : List Pen} (h : ∀ p ∈ l, 1 ≤ p.l) (hw : ∀ k, k < m → 0 ≤ w k ∧ w k < l.length) : goneW m w 0 l = l := by
  rw [goneW_less h (fun k hk => by have := hw k hk; have := h _ (pf_mem (l := l) (i := (w k).toNat) (by omega)); simp only at this; omega)]
  have : decW m w 0 l = Eng.pl l.length (pf l) := by
    unfold decW
    apply pl_congr
    intro i j _ _
    split
    · omega
    · rfl
  rw [this, pl_pf]
/-- How the board is when so many seconds could pass that nobody's was over. -/
structure CanPass (b : Bo) (n : Int) : Prop where
  p0 : ∀ k, k < nS b.p0 → n ≤ pf b.p0 (wS b.p0 k).toNat 2
  p1 : ∀ k, k < nS b.p1 → n ≤ pf b.p1 (wS b.p1 k).toNat 2
  m0 : ∀ k, k < b.m0.length → n ≤ pf b.m0 k 2
  m1 : ∀ k, k < b.m1.length → n ≤ pf b.m1 k 2
theorem pass_add {b : Bo} (h : b.Ok) {n d : Int} (hc : CanPass b (n + 1)) : (b.pass n).pass d = b.pass (n + d) := by
  simp only [Bo.pass, goneS_add (fun p hp => (h.p0.2 p hp).1) hc.p0, goneS_add (fun p hp => (h.p1.2 p hp).1) hc.p1, goneM_add (fun p hp => (h.m0.2 p hp).1) hc.m0, goneM_add (fun p hp => (h.m1.2 p hp).1) hc.m1]
  simp only [Int.add_assoc]
theorem pass_0 {b : Bo} (h : b.Ok) (hr : b.run = true) : b.pass 0 = b := by
  have h1 := h.run hr
  unfold Bo.pass
  rw [show goneS 0 b.p0 = b.p0 from goneW_0 (fun p hp => (h.p0.2 p hp).1) (fun k hk => wS_lt hk), show goneS 0 b.p1 = b.p1 from goneW_0 (fun p hp => (h.p1.2 p hp).1) (fun k hk => wS_lt hk),
    show goneM 0 b.m0 = b.m0 from goneW_0 (fun p hp => (h.m0.2 p hp).1) (fun k hk => by omega), show goneM 0 b.m1 = b.m1 from goneW_0 (fun p hp => (h.m1.2 p hp).1) (fun k hk => by omega), Int.add_zero, decide_eq_true h1, ← hr]
theorem pass_stren {b : Bo} (h : b.Ok) {n : Int} (hc : CanPass b (n + 1)) : stren (b.pass n).p0 = stren b.p0 ∧ stren (b.pass n).p1 = stren b.p1 := by
  obtain ⟨h1, _⟩ := goneS_same (fun p hp => (h.p0.2 p hp).1) hc.p0
  obtain ⟨h2, _⟩ := goneS_same (fun p hp => (h.p1.2 p hp).1) hc.p1
  simp only [stren, Bo.pass, h1, h2, and_self]
theorem CanPass.mono {b : Bo} {n m : Int} (h : CanPass b n) (hm : m ≤ n) : CanPass b m :=
  ⟨fun k hk => Int.le_trans hm (h.p0 k hk), fun k hk => Int.le_trans hm (h.p1 k hk), fun k hk => Int.le_trans hm (h.m0 k hk), fun k hk => Int.le_trans hm (h.m1 k hk)⟩
/-- So many ticks. -/
def tickN : Nat → Ga → Ga
  | 0, s => s
  | n + 1, s => (tickN n s).tick
theorem tickN_eq {s : Ga} (h : s.b.Ok) (hr : s.b.run = true) : ∀ (n : Nat), CanPass s.b n → (n : Int) ≤ 1200 - s.b.pl → tickN n s = ⟨s.b.pass n, s.now + n, s.out ++ List.replicate n ⟨stren s.b.p0, stren s.b.p1, 0⟩⟩
  | 0, _, _ => by simp [tickN, pass_0 h hr]
  | n + 1, hc, hn => by
    have ih := tickN_eq h hr n (hc.mono (by omega)) (by omega)
    have hc' : CanPass s.b ((n : Int) + 1) := hc.mono (by omega)
    simp only [tickN, ih, Ga.tick, pass_add h hc', (pass_stren h hc').1, (pass_stren h hc').2]
    rw [List.replicate_succ', ← List.append_assoc]
    congr 1
    omega
theorem passT_tickN {s : Ga} {to : Int} (h : s.b.Ok) (hr : s.b.run = true) : ∀ (n k : Nat), CanPass s.b n → (n : Int) ≤ 1200 - s.b.pl → (n : Int) ≤ to - s.now → passT (n + k) s to = passT k (tickN n s) to
  | 0, k, _, _, _ => by simp [tickN]
  | n + 1, k, hc, hn, ht => by
    rw [show n + 1 + k = n + (k + 1) by omega, passT_tickN h hr n (k + 1) (hc.mono (by omega)) (by omega) (by omega)]
    have e := tickN_eq h hr n (hc.mono (by omega)) (by omega)
    have h1 : (tickN n s).b.run = true ∧ (tickN n s).now < to := by
      rw [e]
      refine ⟨?_, by simp only []; omega⟩
      simp only [Bo.pass, decide_eq_true_eq]
      omega
    conv => lhs; unfold passT
    rw [if_pos h1]
    rfl
end Go.Eng
end

/- clock: the program's stretches and the reference's seconds are the same (plain). -/
section
namespace Go.Eng
open Go Go.RowKit Go.Proofs
set_option maxRecDepth 100000
set_option maxHeartbeats 4000000
attribute [local irreducible] OwnT DefS
theorem cmpT_app {o k : List Pen} : ∀ i, i ≤ o.length → cmpT (o ++ k) i = cmpT o i
  | 0, _ => rfl
  | i + 1, h => by
    have h1 : ∀ j, pf (o ++ k) i j = pf o i j := fun j => by rw [pf_app, if_pos (by omega)]
    have h2 : ∀ j, pf (o ++ k) (i - 1) j = pf o (i - 1) j := fun j => by rw [pf_app, if_pos (by omega)]
    simp only [cmpT, @cmpT_app o k i (by omega), h1, h2]
theorem last_app (l : List Pen) (p : Pen) : (l ++ [p]).getD ((l ++ [p]).length - 1) ⟨0, 0, 0⟩ = p := by simp
theorem cmp_last (o : List Pen) : ∀ i, cmpT o (i + 1) ≠ [] ∧ ((cmpT o (i + 1)).getD ((cmpT o (i + 1)).length - 1) ⟨0, 0, 0⟩).k = pf o i 0 ∧ ((cmpT o (i + 1)).getD ((cmpT o (i + 1)).length - 1) ⟨0, 0, 0⟩).l = pf o i 1
  | 0 => by simp [cmpT]
  | i + 1 => by
    have ih := cmp_last o i
    rw [cmpT]
    split
    · rw [last_app]
      exact ⟨by simp, rfl, rfl⟩
    · rename_i h
      have h : pf o (i + 1) 0 = pf o i 0 ∧ pf o (i + 1) 1 = pf o i 1 := by
        rw [not_or, Decidable.not_not] at h
        exact h.2
      rw [h.1, h.2]
      exact ih
theorem cmp_one (o : List Pen) (x y : Int) : cmpT (o ++ [⟨x, y, 0⟩]) (o.length + 1) = addOut (cmpT o o.length) o.length x y := by
  have p0 : pf (o ++ [⟨x, y, 0⟩]) o.length 0 = x := by simp [pf, pe]
  have p1 : pf (o ++ [⟨x, y, 0⟩]) o.length 1 = y := by simp [pf, pe]
  rw [cmpT, p0, p1, cmpT_app _ (by omega)]
  rcases Nat.eq_zero_or_pos o.length with h | h
  · rw [if_pos (.inl h), h]
    simp [cmpT, addOut]
  · obtain ⟨i, hi⟩ : ∃ i, o.length = i + 1 := ⟨o.length - 1, by omega⟩
    obtain ⟨h1, h2, h3⟩ := cmp_last o i
    have q : ∀ j, pf (o ++ [⟨x, y, 0⟩]) (i + 1 - 1) j = pf o i j := fun j => by rw [pf_app, if_pos (by omega)]; rfl
    unfold addOut
    rw [hi, q 0, q 1, h2, h3]
    by_cases c : pf o i 0 = x ∧ pf o i 1 = y
    · rw [if_neg (by rw [not_or, Decidable.not_not]; exact ⟨by omega, c.1.symm, c.2.symm⟩), if_neg (by rw [not_or, Decidable.not_not]; exact ⟨h1, c⟩)]
    · rw [if_pos (.inr (fun r => c ⟨r.1.symm, r.2.symm⟩)), if_pos (.inr c)]
theorem addOut_same (out : List Pen) (a b x y : Int) : addOut (addOut out a x y) b x y = addOut out a x y := by
  have key : ∀ o : List Pen, o ≠ [] → (o.getD (o.length - 1) ⟨0, 0, 0⟩).k = x ∧ (o.getD (o.length - 1) ⟨0, 0, 0⟩).l = y → addOut o b x y = o := fun o h1 h2 => by
    unfold addOut
    rw [if_neg (by rw [not_or, Decidable.not_not]; exact ⟨h1, h2⟩)]
  by_cases h : out = [] ∨ ¬ ((out.getD (out.length - 1) ⟨0, 0, 0⟩).k = x ∧ (out.getD (out.length - 1) ⟨0, 0, 0⟩).l = y)
  · have e : addOut out a x y = out ++ [⟨a, x, y⟩] := by unfold addOut; rw [if_pos h]
    rw [e]
    exact key _ (by simp) (by rw [last_app]; exact ⟨rfl, rfl⟩)
  · have e : addOut out a x y = out := by unfold addOut; rw [if_neg h]
    rw [not_or, Decidable.not_not] at h
    rw [e]
    exact key _ h.1 h.2
theorem cmp_more (o : List Pen) (x y : Int) : ∀ n, cmpT (o ++ List.replicate (n + 1) (Pen.mk x y 0)) (o ++ List.replicate (n + 1) (Pen.mk x y 0)).length = addOut (cmpT o o.length) o.length x y
  | 0 => by simpa using cmp_one o x y
  | n + 1 => by
    have ih := cmp_more o x y n
    have := cmp_one (o ++ List.replicate (n + 1) ⟨x, y, 0⟩) x y
    rw [ih, addOut_same] at this
    rw [List.replicate_succ', ← List.append_assoc, List.length_append]
    exact this
/-- The program's game and the reference's. -/
structure Rel (s t : Ga) : Prop where
  b : s.b = t.b
  now : s.now = t.now
  out : s.out = cmpT t.out t.out.length
  len : (t.out.length : Int) = s.b.per * 1200 + s.b.pl
theorem rel0 : Rel G0 G0 := ⟨rfl, rfl, rfl, rfl⟩
theorem rel_step {s t : Ga} (h : Rel s t) (hs : s.Ok) {to : Int} (hr : s.b.run = true) (ht : s.now < to) : Rel (s.step to) (tickN (s.n to).toNat t) := by
  obtain ⟨n1, n2, n3⟩ := step_n hs hr ht
  have h1 := hs.b.run hr
  obtain ⟨_, _, q3, q4, q5, q6⟩ := minB_spec hs.b (n := min (to - s.now) (1200 - s.b.pl)) (by omega)
  have hc : CanPass s.b (s.n to) := ⟨q3, q4, q5, q6⟩
  obtain ⟨m, hm⟩ : ∃ m : Nat, s.n to = m + 1 := ⟨(s.n to).toNat - 1, by omega⟩
  rw [hm] at hc n2 n3
  have e := tickN_eq (s := t) (by rw [← h.b]; exact hs.b) (by rw [← h.b]; exact hr) (m + 1) (by rw [← h.b]; simpa using hc) (by rw [← h.b]; omega)
  have hm2 : (s.n to).toNat = m + 1 := by omega
  rw [hm2, e]
  refine ⟨?_, ?_, ?_, ?_⟩
  · simp only [Ga.step, hm, h.b, Int.natCast_add, Int.natCast_one]
  · simp only [Ga.step, hm, h.now, Int.natCast_add, Int.natCast_one]
  · simp only [Ga.step]
    rw [cmp_more, h.out, h.len, h.b]
  · have := h.len
    simp only [Ga.step, Bo.pass, List.length_append, List.length_replicate, hm]
    omega
theorem rel_pass {to : Int} (hto : to ≤ 1048576) : ∀ (k k' : Nat) (s t : Ga), Rel s t → s.Ok → to - s.now ≤ k → to - s.now ≤ k' → Rel (passP k s to) (passT k' t to)
  | 0, k', s, t, h, hs, hk, _ => by
    have := h.now
    rw [passT_stop (fun q => by have := q.2; omega)]
    exact ⟨h.b, rfl, h.out, h.len⟩
  | k + 1, k', s, t, h, hs, hk, hk' => by
    simp only [passP]
    split
    · rename_i h1
      obtain ⟨n1, n2, n3⟩ := step_n hs h1.1 h1.2
      have h2 := hs.b.run h1.1
      obtain ⟨_, _, q3, q4, q5, q6⟩ := minB_spec hs.b (n := min (to - s.now) (1200 - s.b.pl)) (by omega)
      have hc : CanPass s.b ((s.n to).toNat : Int) := by rw [Int.toNat_of_nonneg (by omega)]; exact ⟨q3, q4, q5, q6⟩
      obtain ⟨d, hd⟩ : ∃ d, k' = (s.n to).toNat + d := ⟨k' - (s.n to).toNat, by omega⟩
      have hn := h.now
      rw [hd, passT_tickN (s := t) (by rw [← h.b]; exact hs.b) (by rw [← h.b]; exact h1.1) _ d (by rw [← h.b]; exact hc) (by rw [← h.b]; omega) (by omega)]
      refine rel_pass hto k d _ _ (rel_step h hs h1.1 h1.2) (step_ok hs hto h1.1 h1.2) ?_ ?_
      · simp only [Ga.step]; omega
      · simp only [Ga.step]; omega
    · rename_i h1
      have hn := h.now
      rw [passT_stop (by rw [← h.b, ← hn]; exact h1)]
      exact ⟨h.b, rfl, h.out, h.len⟩
theorem rel_passF {s t : Ga} {to : Int} (hto : to ≤ 1048576) (h : Rel s t) (hs : s.Ok) : Rel (passF s to) (passTF t to) := by
  have := h.now
  exact rel_pass hto _ _ _ _ h hs (by omega) (by omega)
theorem deed_time (b : Bo) (x : Ev) : (b.deed x).1.per * 1200 + (b.deed x).1.pl = b.per * 1200 + b.pl := by
  unfold Bo.deed Bo.start Bo.stop Bo.goal Bo.give
  repeat' split
  all_goals first | rfl | (dsimp only; omega)
theorem rel_deed {s t : Ga} (h : Rel s t) (x : Ev) : (s.b.deed x).2 = (t.b.deed x).2 ∧ Rel ⟨(s.b.deed x).1, x.s, s.out⟩ ⟨(t.b.deed x).1, x.s, t.out⟩ := by
  refine ⟨by rw [h.b], ⟨by rw [h.b], rfl, h.out, ?_⟩⟩
  have := deed_time s.b x
  have := h.len
  simp only []
  omega
theorem rel_play {ev : Nat → Ev} : ∀ (k i : Nat) (s t : Ga), Rel s t → s.Ok → s.b.Cnt i → i + k ≤ 300 →
    (playP ev 1048576 k i s).2.2 = (playT ev 1048576 k i t).2.2 ∧ (playP ev 1048576 k i s).2.1 = (playT ev 1048576 k i t).2.1 ∧ ((playT ev 1048576 k i t).2.2 = 0 → (playT ev 1048576 k i t).2.1 = i + k ∧ Rel (playP ev 1048576 k i s).1 (playT ev 1048576 k i t).1)
  | 0, i, s, t, h, _, _, _ => ⟨rfl, rfl, fun _ => ⟨rfl, h⟩⟩
  | k + 1, i, s, t, h, hs, hc, hn => by
    unfold playP playT
    by_cases h1 : evOk (ev i) = false
    · rw [if_pos h1, if_pos h1]
      exact ⟨rfl, rfl, fun q => absurd q (by simp)⟩
    rw [if_neg h1, if_neg h1]
    by_cases h2 : i ≠ 0 ∧ (ev i).s < (ev (i - 1)).s
    · rw [if_pos h2, if_pos h2]
      exact ⟨rfl, rfl, fun q => absurd q (by simp)⟩
    rw [if_neg h2, if_neg h2]
    have he := evOk_iff.1 (by simpa using h1)
    rw [if_pos (show (ev i).s ≤ 1048576 by omega), if_neg (show ¬ (1048576 : Int) < (ev i).s by omega)]
    have hr := rel_passF (to := (ev i).s) (by omega) h hs
    obtain ⟨d1, d2⟩ := rel_deed hr (ev i)
    rw [← d1]
    split
    · rename_i hd
      exact ⟨rfl, rfl, fun q => absurd q hd⟩
    · have g1 := passF_ok he.2.1 hs
      have g3 : (passF s (ev i).s).b.Cnt i := passP_cnt _ _ hc
      have g4 := deed_ok g1 g3 (by omega) (ev i)
      have g5 := deed_cnt g3 (ev i)
      rw [passF_now] at g4
      obtain ⟨r1, r2, r3⟩ := rel_play (ev := ev) k (i + 1) _ _ d2 g4 g5 (by omega)
      exact ⟨r1, r2, fun q => ⟨by rw [(r3 q).1]; omega, (r3 q).2⟩⟩
/-- All events are right, and in order. -/
def Right (ev : Nat → Ev) (i k : Nat) : Prop := ∀ j, i ≤ j → j < i + k → evOk (ev j) = true ∧ ¬ (j ≠ 0 ∧ (ev j).s < (ev (j - 1)).s)
theorem playT_right {ev : Nat → Ev} : ∀ (k i : Nat) (t : Ga), (playT ev 1048576 k i t).2.2 = 0 → Right ev i k
  | 0, i, t, _ => fun j h1 h2 => by omega
  | k + 1, i, t, h => by
    unfold playT at h
    split at h
    · cases h
    rename_i h1
    split at h
    · cases h
    rename_i h2
    have he := evOk_iff.1 (by simpa using h1)
    rw [if_neg (by omega)] at h
    split at h
    · rename_i hd; exact absurd h hd
    · intro j a b
      rcases Nat.eq_or_lt_of_le a with q | q
      · rw [← q]; exact ⟨by simpa using h1, h2⟩
      · exact playT_right k (i + 1) _ h j (by omega) (by omega)
theorem playP_late {ev : Nat → Ev} {to : Int} : ∀ (k i : Nat) (s : Ga), Right ev i k → i ≠ 0 → to < (ev (i - 1)).s → playP ev to k i s = (s, i + k, 0)
  | 0, i, s, _, _, _ => rfl
  | k + 1, i, s, h, h0, ht => by
    obtain ⟨a, b⟩ := h i (by omega) (by omega)
    have : (ev (i - 1)).s ≤ (ev i).s := by omega
    unfold playP
    rw [if_neg (by simp [a]), if_neg b, if_neg (by omega), playP_late k (i + 1) s (fun j p q => h j (by omega) (by omega)) (by omega) (by rw [Nat.add_sub_cancel]; omega)]
    congr 2
    omega
theorem rel_to {ev : Nat → Ev} {to : Int} : ∀ (k i : Nat) (s t : Ga), Rel s t → s.Ok → s.b.Cnt i → i + k ≤ 300 → (playT ev 1048576 k i t).2.2 = 0 →
    Rel (playP ev to k i s).1 (playT ev to k i t).1
  | 0, i, s, t, h, _, _, _, _ => h
  | k + 1, i, s, t, h, hs, hc, hn, hz => by
    unfold playP playT
    unfold playT at hz
    split at hz
    · cases hz
    rename_i h1
    split at hz
    · cases hz
    rename_i h2
    rw [if_neg h1, if_neg h1, if_neg h2, if_neg h2]
    have he := evOk_iff.1 (by simpa using h1)
    rw [if_neg (by omega)] at hz
    split at hz
    · rename_i hd; exact absurd hz hd
    rename_i hd
    by_cases h3 : (ev i).s ≤ to
    · rw [if_pos h3, if_neg (show ¬ to < (ev i).s by omega)]
      have hr := rel_passF (to := (ev i).s) (by omega) h hs
      obtain ⟨d1, d2⟩ := rel_deed hr (ev i)
      rw [d1, if_neg hd, if_neg hd]
      have g1 := passF_ok he.2.1 hs
      have g3 : (passF s (ev i).s).b.Cnt i := passP_cnt _ _ hc
      have g4 := deed_ok g1 g3 (by omega) (ev i)
      have g5 := deed_cnt g3 (ev i)
      rw [passF_now] at g4
      exact rel_to (ev := ev) k (i + 1) _ _ d2 g4 g5 (by omega) hz
    · rw [if_neg h3, if_pos (show to < (ev i).s by omega)]
      rw [playP_late k (i + 1) s (playT_right _ _ _ hz) (by omega) (by rw [Nat.add_sub_cancel]; omega)]
      exact h
/-- Play is as the reference's. -/
theorem plR_plT (n : Nat) (l : Nat → Nat → Int) : plR n l = plT n l := by
  unfold plR plT
  by_cases h : 256 < n
  · rw [if_pos h, if_pos h]
  · rw [if_neg h, if_neg h]
    obtain ⟨r1, r2, r3⟩ := rel_play (ev := evN l) n 0 G0 G0 rel0 G0_ok G0_cnt (by omega)
    rw [r1, r2]
    split
    · rfl
    · rename_i q
      obtain ⟨a, b⟩ := r3 (by omega)
      rw [a, b.b, Nat.zero_add]
theorem plT_len {n : Nat} {l : Nat → Nat → Int} (h : (plT n l).2.2 = 0) : n ≤ 256 ∧ (playT (evN l) 1048576 n 0 G0).2.2 = 0 := by
  unfold plT at h
  split at h
  · cases h
  · split at h
    · rename_i q; exact absurd h q
    · rename_i q; exact ⟨by omega, by omega⟩
theorem rel_at {n : Nat} {l : Nat → Nat → Int} {to : Int} (h : (plT n l).2.2 = 0) (hto : to ≤ 1048576) (h0 : 0 ≤ to) : Rel (atG n l to) (passTF (playT (evN l) to n 0 G0).1 to) := by
  obtain ⟨hn, hz⟩ := plT_len h
  exact rel_passF hto (rel_to n 0 G0 G0 rel0 G0_ok G0_cnt (by omega) hz) (playP_ok ⟨h0, hto⟩ n 0 G0 G0_ok G0_cnt (by omega)).1
theorem atR_agT (n : Nat) (l : Nat → Nat → Int) (to : Int) : atR n l to = ((agT n l to).1.b, (agT n l to).2) := by
  unfold atR agT
  rw [plR_plT]
  split
  · rfl
  · rename_i h
    split
    · rfl
    · rename_i h2
      have hto := in3_iff.1 (show in3 to 0 1048576 = true by simpa using h2)
      rw [(rel_at (by simpa using h) hto.2 hto.1).b]
theorem stR_stT (n : Nat) (l : Nat → Nat → Int) (to : Int) : stR n l to = stT n l to := by
  unfold stR stT agT
  rw [plR_plT]
  by_cases h : (plT n l).2.2 ≠ 0
  · simp only [if_pos h]
  · simp only [if_neg h]
    by_cases h2 : in3 to 0 1048576 = false
    · simp only [if_pos h2]; rfl
    · have hto := in3_iff.1 (show in3 to 0 1048576 = true by simpa using h2)
      simp only [if_neg h2]
      rw [if_neg (by simp), (rel_at (by simpa using h) hto.2 hto.1).out]
end Go.Eng
end

/- clock: Without and Whole are as the reference's (plain). -/
section
namespace Go.Eng
open Go Go.RowKit Go.Proofs
set_option maxRecDepth 100000
set_option maxHeartbeats 4000000
attribute [local irreducible] OwnT DefS
/-- Two games whose clocks are the same. -/
structure Tm (s t : Ga) : Prop where
  per : s.b.per = t.b.per
  pl : s.b.pl = t.b.pl
  run : s.b.run = t.b.run
  now : s.now = t.now
theorem tm_pass {to : Int} : ∀ (k : Nat) (s t : Ga), Tm s t → Tm (passT k s to) (passT k t to)
  | 0, s, t, h => ⟨h.per, h.pl, h.run, rfl⟩
  | k + 1, s, t, h => by
    simp only [passT]
    rw [h.run, h.now]
    split
    · exact tm_pass k _ _ ⟨h.per, by simp only [Ga.tick, Bo.pass, h.pl], by simp only [Ga.tick, Bo.pass, h.pl], by simp only [Ga.tick, h.now]⟩
    · exact ⟨h.per, h.pl, h.run, rfl⟩
theorem tm_passF {s t : Ga} {to : Int} (h : Tm s t) : Tm (passTF s to) (passTF t to) := by
  unfold passTF
  rw [h.now]
  exact tm_pass _ _ _ h
theorem tm_deed {b c : Bo} (h1 : b.per = c.per) (h2 : b.pl = c.pl) (h3 : b.run = c.run) {x y : Ev} (h : x = y ∨ (x.k = 2 ∧ y.k = 1)) :
    (b.deed x).2 = (c.deed y).2 ∧ (b.deed x).1.per = (c.deed y).1.per ∧ (b.deed x).1.pl = (c.deed y).1.pl ∧ (b.deed x).1.run = (c.deed y).1.run := by
  obtain ⟨per, pl, run, b1, b2, b3, b4, b5, b6⟩ := b
  obtain ⟨per', pl', run', c1, c2, c3, c4, c5, c6⟩ := c
  simp only at h1 h2 h3
  subst h1 h2 h3
  rcases h with rfl | ⟨hx, hy⟩
  · obtain ⟨k, _, t, _⟩ := x
    cases run <;> by_cases q0 : k = 0 <;> by_cases q1 : k = 1 <;> by_cases q2 : k = 2 <;> by_cases q3 : t = 0 <;> by_cases q4 : pl = 1200 <;> by_cases q5 : per < 2 <;> simp [Bo.deed, Bo.start, Bo.stop, Bo.goal, Bo.give, q0, q1, q2, q3, q4, q5] <;> omega
  · by_cases q3 : x.t = 0 <;> cases run <;> simp [Bo.deed, Bo.start, Bo.stop, Bo.goal, Bo.give, hx, hy, q3]
/-- A stop in the place of a goal is right where the goal was. -/
theorem tm_play {ev ev' : Nat → Ev} (he : ∀ j, (ev' j).s = (ev j).s ∧ (ev j = ev' j ∨ ((ev j).k = 2 ∧ (ev' j).k = 1))) : ∀ (k i : Nat) (s t : Ga), Tm s t → (playT ev 1048576 k i s).2.2 = 0 → (playT ev' 1048576 k i t).2.2 = 0
  | 0, i, s, t, _, _ => rfl
  | k + 1, i, s, t, h, hz => by
    unfold playT at hz ⊢
    obtain ⟨e1, e2⟩ := he i
    obtain ⟨e3, _⟩ := he (i - 1)
    split at hz
    · cases hz
    rename_i h1
    split at hz
    · cases hz
    rename_i h2
    have ho := evOk_iff.1 (by simpa using h1)
    have ho' : evOk (ev' i) = true := by
      rcases e2 with e2 | ⟨e2, e4⟩
      · rw [← e2]; simpa using h1
      · exact evOk_iff.2 ⟨by omega, by omega, by omega, by omega⟩
    rw [if_neg (show ¬ (1048576 : Int) < (ev i).s by omega)] at hz
    rw [if_neg (by simp [ho']), if_neg (by rw [e1, e3]; exact h2), e1, if_neg (show ¬ (1048576 : Int) < (ev i).s by omega)]
    have hp := tm_passF (to := (ev i).s) h
    obtain ⟨d1, d2, d3, d4⟩ := tm_deed hp.per hp.pl hp.run e2
    rw [← d1]
    split at hz
    · rename_i q; exact absurd hz q
    · rename_i q
      rw [if_neg q]
      exact tm_play he k (i + 1) ⟨((passTF s (ev i).s).b.deed (ev i)).1, (ev i).s, (passTF s (ev i).s).out⟩ _ ⟨d2, d3, d4, rfl⟩ hz
theorem wiR_wiT (n : Nat) (l : Nat → Nat → Int) (q : Int) : wiR n l q = wiT n l q := by
  unfold wiR wiT
  rw [plR_plT, plR_plT]
  split
  · rfl
  rename_i h
  split
  · rfl
  split
  · rfl
  rename_i h2
  have h2 : l q.toNat 0 = 2 := by simpa using h2
  obtain ⟨hn, hz⟩ := plT_len (by simpa using h)
  have := tm_play (ev := evN l) (ev' := evN (setK l q.toNat)) (fun j => ⟨by simp [evN, setK], by
    by_cases e : j = q.toNat
    · right; subst e; simp [evN, setK, h2]
    · left; simp [evN, setK, e]⟩) n 0 G0 G0 ⟨rfl, rfl, rfl, rfl⟩ hz
  congr 1
  unfold plT
  rw [if_neg (by omega), if_neg (by simp [this])]
theorem goneS_0 {l : List Pen} (h : ∀ p ∈ l, 1 ≤ p.l) : goneS 0 l = l := goneW_0 h (fun k hk => wS_lt hk)
theorem whole_many {l : List Pen} (h : ∀ p ∈ l, 1 ≤ p.l) (h0 : l ≠ []) (k : Nat) : ∀ (n : Nat), (∀ j, j < nS l → (n : Int) ≤ pf l (wS l j).toNat 2) → wholeT (n + k) l = n + wholeT k (goneS n l)
  | 0, _ => by simp [goneS_0 h]
  | n + 1, hn => by
    have hn1 : ∀ j, j < nS l → (n : Int) + 1 ≤ pf l (wS l j).toNat 2 := fun j hj => by have := hn j hj; omega
    rw [show n + 1 + k = n + (k + 1) by omega, whole_many h h0 (k + 1) n (fun j hj => by have := hn1 j hj; omega)]
    obtain ⟨_, _, e⟩ := goneS_same h hn1
    have ne : goneS n l ≠ [] := by
      rw [e]
      intro q
      have := congrArg List.length q
      rw [decW_len] at this
      exact h0 (List.length_eq_zero_iff.1 (by simpa using this))
    rw [show wholeT (k + 1) (goneS n l) = if goneS n l = [] then 0 else 1 + wholeT k (goneS 1 (goneS n l)) from rfl, if_neg ne, goneS_add h hn1]
    push_cast
    omega
theorem wholeT_nil : ∀ f, wholeT f [] = 0
  | 0 => rfl
  | f + 1 => rfl
theorem whole_wholeT : ∀ (k f : Nat) (l : List Pen), lOk l → (∀ p ∈ l, p.l ≤ 300) → l.length ≤ k → 300 * l.length ≤ f → wholeN k l = wholeT f l
  | 0, f, l, _, _, hk, _ => by
    rw [List.length_eq_zero_iff.1 (show l.length = 0 by omega), wholeT_nil]; rfl
  | k + 1, f, l, h, h3, hk, hf => by
    have h1 : ∀ p ∈ l, 1 ≤ p.l := fun p hp => (h.2 p hp).1
    rw [wholeN]
    split
    · rename_i e; rw [e, wholeT_nil]
    rename_i h0
    have g1 := minS_ge h (n := 300) (by omega)
    obtain ⟨g2, g3⟩ := minS_le l 300
    have g4 := whole_lt h0 h3
    obtain ⟨m, hm⟩ : ∃ m : Nat, minS l 300 = m := ⟨(minS l 300).toNat, by omega⟩
    rw [hm] at g1 g2 g3 g4 ⊢
    obtain ⟨d, hd⟩ : ∃ d, f = m + d := ⟨f - m, by omega⟩
    rw [hd, whole_many h1 h0 d m g3]
    congr 1
    exact whole_wholeT k d _ (goneW_ok h (by omega) g3) (goneW_max (by omega) h3) (by omega) (by omega)
theorem wholeR_wholeRT (p0 p1 : List Pen) (team : Int) : wholeR p0 p1 team = wholeRT p0 p1 team := by
  unfold wholeR wholeRT
  split
  · rfl
  rename_i h
  have h : okL p0 = true ∧ okL p1 = true := by simpa using h
  have key : ∀ l, okL l = true → wholeN l.length l = wholeT 76800 l := fun l hl => by
    obtain ⟨a, b⟩ := okL_lOk hl
    have : l.length ≤ 256 := by unfold okL at hl; simp at hl; exact hl.1
    generalize hf : 76800 = f
    exact whole_wholeT _ _ l a b (Nat.le_refl _) (by omega)
  rw [key p0 h.1, key p1 h.2]
end Go.Eng
end

/- clock: alive. -/
section
namespace Go.Eng
open Go Go.RowKit Go.Proofs
set_option maxRecDepth 100000
set_option maxHeartbeats 4000000
attribute [local irreducible] OwnT DefS
theorem frzF_nth (k : Nat) (h : HS) : ∀ (l : List SV) (j : Nat), frzF (k + 1) h (nth l j) = nth (mapF (frzF (k + 1) h) l) j
  | [], j => by cases j <;> rfl
  | x :: l, 0 => rfl
  | x :: l, j + 1 => frzF_nth k h l j
theorem intR_chk {n sz : Nat} {f : Nat → Nat → SV} (h : ((List.range n).all fun i => (List.range sz).all fun j => match f i j with | .int .i64 _ => true | _ => false) = true) : IntR n sz f := by
  intro i j hi hj
  have := List.all_eq_true.1 (List.all_eq_true.1 h i (List.mem_range.2 hi)) j (List.mem_range.2 hj)
  revert this
  generalize f i j = x
  intro this
  split at this
  · rfl
  · cases this
theorem intR_0 {sz : Nat} {f : Nat → Nat → SV} : IntR 0 sz f := fun i j h => by omega
theorem spl_yes {q : Bool} {A B : Prop} (h : q = true) (ha : A) : spl q A B := ⟨fun _ => ha, fun h' => (by rw [h] at h'; cases h')⟩
theorem smp_pl : plR 9 (ivf fun i j => nth [.int .i64 0, .int .i64 100, .int .i64 0, .int .i64 0, .int .i64 1, .int .i64 130, .int .i64 0, .int .i64 0, .int .i64 3, .int .i64 140, .int .i64 0, .int .i64 7, .int .i64 3, .int .i64 140, .int .i64 0, .int .i64 9, .int .i64 3, .int .i64 140, .int .i64 0, .int .i64 8, .int .i64 0, .int .i64 150, .int .i64 0, .int .i64 0, .int .i64 2, .int .i64 200, .int .i64 1, .int .i64 0, .int .i64 0, .int .i64 210, .int .i64 0, .int .i64 0, .int .i64 1, .int .i64 260, .int .i64 0, .int .i64 0] (i * 4 + j)) =
    (⟨0, 130, false, 0, 1, [⟨9, 3, 20⟩, ⟨8, 3, 70⟩], [], [], []⟩, 9, 0) := by decide +kernel
def aliveBase : BaseF := fun args => match args with
  | [] => some (True, .bool true)
  | _ => none
theorem alive_eq  : aliveBase [] = some (True, .bool true) := rfl
theorem alive_base : Base Try.prog 11 aliveBase := by
  intro args p v hq hp
  unfold aliveBase at hq
  split at hq
  rotate_left
  · cases hq
  cases hq
  refine base_of (C := cx [] [] [(12, playBase), (13, wholeBase), (20, sameBase)] [] none) (cx_ok trivial ⟨play_base, whole_base, same_base, trivial⟩) rfl (g := 11) (fn := Try.f11)
    (args' := []) (fn_11) rfl 1000 (by simp only [BdL, Bd, and_self, and_true, true_and]) trivial ?_
  simp only [play_eq, whole_eq, same_eq, Try.f28, Try.f29, boS, rowP, frzF_nth, cellAt, smp_pl, Try.f11, go_sem, ↓reduceIte, Nat.reduceAdd, Nat.reduceSub, Nat.reduceMul, Nat.reduceEqDiff, Nat.reduceLT, Nat.reduceLeDiff, Int.reduceToNat, Int.reduceLE, Int.reduceLT, Int.reduceEq, Int.reduceNeg, reduceCtorEq]
  exact ⟨intR_chk (by decide +kernel), ⟨intR_chk (by decide +kernel), intR_0, intR_0, intR_0, by decide +kernel, by decide +kernel⟩, spl_yes (by decide +kernel) (spl_yes (by decide +kernel) (congrArg SV.bool (by decide +kernel)))⟩
end Go.Eng
end
