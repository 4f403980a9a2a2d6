/-
  A part of the symbolic machine, of its soundness, and of what functions compute. No condition.
-/
import Derived.Test.YtjkbmnhpbncdcaaK2
set_option linter.unusedSimpArgs false
set_option linter.unusedVariables false
/- clock: Play. -/
section
namespace Go.Eng
open Go Go.RowKit Go.Proofs
set_option maxRecDepth 100000
set_option maxHeartbeats 4000000
attribute [local irreducible] OwnT DefS
def rowP (l : List Pen) : SV := .row l.length 3 (fun i j => .int .i64 (pf l i j))
def boS (b : Bo) : SV := .agg [.int .i64 b.per, .int .i64 b.pl, .bool b.run, .int .i64 b.g0, .int .i64 b.g1, rowP b.p0, rowP b.p1, rowP b.m0, rowP b.m1]
def G0 : Ga := ⟨Bo.z, 0, []⟩
theorem lOk_nil : lOk [] := ⟨by simp, by simp⟩
theorem G0_ok : G0.Ok := ⟨⟨by simp [G0, Bo.z], by simp [G0, Bo.z], by simp [G0, Bo.z], by simp [G0, Bo.z], by simp [G0, Bo.z], lOk_nil, lOk_nil, lOk_nil, lOk_nil⟩, by simp [G0], by simp [G0, Bo.z]⟩
theorem G0_cnt : G0.b.Cnt 0 := ⟨by simp [G0, Bo.z], by simp [G0, Bo.z], by simp [G0, Bo.z], by simp [G0, Bo.z], by simp [G0, Bo.z], by simp [G0, Bo.z]⟩
/-- Play: the board, the index, and the error. -/
def plR (n : Nat) (l : Nat → Nat → Int) : Bo × Int × Int :=
  if 256 < n then (Bo.z, 0, 3) else
    if (playP (evN l) 1048576 n 0 G0).2.2 ≠ 0 then (Bo.z, ((playP (evN l) 1048576 n 0 G0).2.1 : Int), (playP (evN l) 1048576 n 0 G0).2.2) else ((playP (evN l) 1048576 n 0 G0).1.b, (n : Int), 0)
theorem subL_rfl : ∀ l : List SV, subL l l
  | [] => trivial
  | x :: l => ⟨by cases x <;> simp [subX], subL_rfl l⟩
theorem bdV_cons {L M : Nat} (x : Vc) (l : List Vc) : bdV L M (x :: l) = (bdV L M [x] ∧ bdV L M l) := by cases x <;> simp [bdV]
theorem bdB_cons {L M : Nat} (x : Blk) (l : List Blk) : bdB L M (x :: l) = (bdB L M [x] ∧ bdB L M l) := by cases x <;> simp [bdB]
theorem rowP_0 {F : Nat → Nat → SV} : SameD (.row 0 3 F) (rowP []) := SameD.row0
theorem boS_z {F0 F1 F2 F3 : Nat → Nat → SV} : SameD (.agg [.int .i64 0, .int .i64 0, .bool false, .int .i64 0, .int .i64 0, .row 0 3 F0, .row 0 3 F1, .row 0 3 F2, .row 0 3 F3]) (boS Bo.z) :=
  SameD.agg ⟨SameD.rfl' _, SameD.rfl' _, SameD.rfl' _, SameD.rfl' _, SameD.rfl' _, rowP_0, rowP_0, rowP_0, rowP_0, trivial⟩
theorem play_top {n : Nat} (hn : n ≤ 300) (l : Nat → Nat → Int) {to : Int} (hto : 0 ≤ to ∧ to ≤ 1048576) (X : Blk) (V0 V1 V2 V3 : Vc) (hX : bdB 2 8 [X]) (hV : bdV 2 8 [V0, V1, V2, V3]) (F4 F5 F6 F7 : Nat → Nat → SV) :
    CallsS Try.prog 30 [.ptr 1 0, .row n 4 (fun i j => .int .i64 (l i j)), .int .i64 to] ⟨[X, .live 61 [.int .i64 0, .int .i64 0, .bool false, .int .i64 0, .int .i64 0, .vec 4 0, .vec 5 0, .vec 6 0, .vec 7 0, .int .i64 0, .nilf]], [V0, V1, V2, V3, .live 0 55 3 0 F4, .live 0 55 3 0 F5, .live 0 55 3 0 F6, .live 0 55 3 0 F7]⟩
      (fun o h' => ∃ v' : Vers, o = .ret (.tup [.int .i64 ((playP (evN l) to n 0 G0).2.1 : Int), .int .i64 (playP (evN l) to n 0 G0).2.2]) ∧ h' = ⟨[X, .live 61 [.int .i64 (playP (evN l) to n 0 G0).1.b.per, .int .i64 (playP (evN l) to n 0 G0).1.b.pl, .bool (playP (evN l) to n 0 G0).1.b.run, .int .i64 (playP (evN l) to n 0 G0).1.b.g0, .int .i64 (playP (evN l) to n 0 G0).1.b.g1, .vec 4 v'.a, .vec 5 v'.b, .vec 6 v'.c, .vec 7 v'.d, .int .i64 (playP (evN l) to n 0 G0).1.now, .nilf]],
        [V0, V1, V2, V3, vecL v'.a (playP (evN l) to n 0 G0).1.b.p0, vecL v'.b (playP (evN l) to n 0 G0).1.b.p1, vecL v'.c (playP (evN l) to n 0 G0).1.b.m0, vecL v'.d (playP (evN l) to n 0 G0).1.b.m1]⟩) := by
  have h0 := calls_ren (h := ⟨[X, .live 61 [.int .i64 0, .int .i64 0, .bool false, .int .i64 0, .int .i64 0, .vec 4 0, .vec 5 0, .vec 6 0, .vec 7 0, .int .i64 0, .nilf]], [V0, V1, V2, V3, vecL 0 [], vecL 0 [], vecL 0 [], vecL 0 []]⟩) [1] [4, 5, 6, 7] (play_calls G0_ok G0_cnt hn (l := l) hto ⟨0, 0, 0, 0⟩) (by decide) (by decide) (by simp [BdL, Bd]) (by simp [gaH, gaC, bdB, BdL, Bd]) (by simp [gaH, vecL, bdV, Bd])
    (by simp only [gaH, gaC, G0, Bo.z, go_sem, ↓reduceIte, Nat.reduceAdd, Nat.reduceSub, Nat.reduceMul, Nat.reduceEqDiff, Nat.reduceLT, Nat.reduceLeDiff, Int.reduceToNat, Int.reduceLE, Int.reduceLT, Int.reduceEq, Int.reduceNeg, reduceCtorEq]) (by simp only [gaH, vecL, G0, Bo.z, List.length_nil, go_sem, ↓reduceIte, Nat.reduceAdd, Nat.reduceSub, Nat.reduceMul, Nat.reduceEqDiff, Nat.reduceLT, Nat.reduceLeDiff, Int.reduceToNat, Int.reduceLE, Int.reduceLT, Int.reduceEq, Int.reduceNeg, reduceCtorEq]) (by intro k hk; simp at hk; simp [lenB]; omega) (by intro k hk; simp at hk; simp [lenV]; omega)
    (by rintro o h' ⟨v', rfl, rfl⟩; exact ⟨rfl, rfl, by simp [gaH, gaC, bdB, BdL, Bd], by simp [gaH, vecL, bdV, Bd], by simp [bdO, BdL, Bd]⟩)
  refine calls_mono ?_ (calls_pre (h' := ⟨[X, .live 61 [.int .i64 0, .int .i64 0, .bool false, .int .i64 0, .int .i64 0, .vec 4 0, .vec 5 0, .vec 6 0, .vec 7 0, .int .i64 0, .nilf]], [V0, V1, V2, V3, vecL 0 [], vecL 0 [], vecL 0 [], vecL 0 []]⟩) ?_ ?_ ?_ h0)
  · rintro o h' ⟨o0, h0', ⟨v', rfl, rfl⟩, rfl, rfl⟩
    refine ⟨v', ?_, ?_⟩
    · simp only [go_sem, ↓reduceIte, Nat.reduceAdd, Nat.reduceSub, Nat.reduceMul, Nat.reduceEqDiff, Nat.reduceLT, Nat.reduceLeDiff, Int.reduceToNat, Int.reduceLE, Int.reduceLT, Int.reduceEq, Int.reduceNeg, reduceCtorEq]
    · simp only [gaH, gaC, vecL, go_sem, ↓reduceIte, Nat.reduceAdd, Nat.reduceSub, Nat.reduceMul, Nat.reduceEqDiff, Nat.reduceLT, Nat.reduceLeDiff, Int.reduceToNat, Int.reduceLE, Int.reduceLT, Int.reduceEq, Int.reduceNeg, reduceCtorEq]
  · rw [bdV_cons, bdV_cons V1, bdV_cons V2] at hV
    obtain ⟨v0, v1, v2, v3⟩ := hV
    have sX : subBk X X := by cases X <;> simp [subBk, subL_rfl]
    have sV : ∀ V : Vc, subVk V V := fun V => by cases V <;> simp [subVk]
    refine ⟨?_, ?_, ?_, ?_, ?_, ?_⟩
    · simp only [go_sem, ↓reduceIte, Nat.reduceAdd, Nat.reduceSub, Nat.reduceMul, Nat.reduceEqDiff, Nat.reduceLT, Nat.reduceLeDiff, Int.reduceToNat, Int.reduceLE, Int.reduceLT, Int.reduceEq, Int.reduceNeg, reduceCtorEq]; simp
    · simp only [go_sem, ↓reduceIte, Nat.reduceAdd, Nat.reduceSub, Nat.reduceMul, Nat.reduceEqDiff, Nat.reduceLT, Nat.reduceLeDiff, Int.reduceToNat, Int.reduceLE, Int.reduceLT, Int.reduceEq, Int.reduceNeg, reduceCtorEq]; exact sX
    · simp only [vecL, go_sem, ↓reduceIte, Nat.reduceAdd, Nat.reduceSub, Nat.reduceMul, Nat.reduceEqDiff, Nat.reduceLT, Nat.reduceLeDiff, Int.reduceToNat, Int.reduceLE, Int.reduceLT, Int.reduceEq, Int.reduceNeg, reduceCtorEq]; simp [sV]
    · simp only [go_sem, ↓reduceIte, Nat.reduceAdd, Nat.reduceSub, Nat.reduceMul, Nat.reduceEqDiff, Nat.reduceLT, Nat.reduceLeDiff, Int.reduceToNat, Int.reduceLE, Int.reduceLT, Int.reduceEq, Int.reduceNeg, reduceCtorEq]; simp
    · rw [bdB_cons]
      refine ⟨hX, by simp [bdB, BdL, Bd, lenB, lenV]⟩
    · rw [bdV_cons, bdV_cons V1, bdV_cons V2, bdV_cons V3]
      exact ⟨v0, v1, v2, v3, by simp [vecL, bdV]⟩
  · rfl
  · rfl
def playBase : BaseF := fun args => match args with
  | [.row n sz_l f_l] => some ((sz_l = 4 ∧ IntR n 4 f_l) ∧ (n ≤ 1000000), .tup [boS (plR n (ivf f_l)).1, .int .i64 (plR n (ivf f_l)).2.1, .int .i64 (plR n (ivf f_l)).2.2])
  | _ => none
theorem play_eq (n : Nat) (sz_l : Nat) (f_l : Nat → Nat → SV) : playBase [.row n sz_l f_l] = some ((sz_l = 4 ∧ IntR n 4 f_l) ∧ (n ≤ 1000000), .tup [boS (plR n (ivf f_l)).1, .int .i64 (plR n (ivf f_l)).2.1, .int .i64 (plR n (ivf f_l)).2.2]) := rfl
theorem play_base : Base Try.prog 12 playBase := by
  intro args p v hq hp
  unfold playBase at hq
  split at hq
  rotate_left
  · cases hq
  rename_i n sz_l f_l
  cases hq
  obtain ⟨⟨rfl, i_l⟩, pre⟩ := hp
  refine baseF_of (C := cx [30] [] [] [] none) (cx_ok trivial trivial) rfl (g := 12) (fn := Try.f12)
    (args' := [.row n 4 (rowF .i64 (ivf f_l))]) (fn_12) rfl 1000 (by
    simp only [BdL, Bd, and_self, and_true, true_and]
    exact (fun i j hi hj => by rw [i_l i j hi hj]; trivial)) ⟨SameD.int i_l, trivial⟩ ?_
  generalize ivf f_l = l at *
  simp only [rowF_eq]
  simp only [boS, rowP, Try.f12, go_sem, ↓reduceIte, Nat.reduceAdd, Nat.reduceSub, Nat.reduceMul, Nat.reduceEqDiff, Nat.reduceLT, Nat.reduceLeDiff, Int.reduceToNat, Int.reduceLE, Int.reduceLT, Int.reduceEq, Int.reduceNeg, reduceCtorEq]
  refine ⟨fun e1 => ?_, fun e1 => ?_⟩
  · have hn : 256 < n := by simp only [decide_eq_true_eq] at e1; omega
    have h : plR n l = (Bo.z, 0, 3) := by unfold plR; rw [if_pos hn]
    rw [h]
    simp [Bo.z]
  · have hn : ¬ 256 < n := by simp only [decide_eq_false_iff_not] at e1; omega
    have hR : plR n l = if (playP (evN l) 1048576 n 0 G0).2.2 ≠ 0 then (Bo.z, ((playP (evN l) 1048576 n 0 G0).2.1 : Int), (playP (evN l) 1048576 n 0 G0).2.2) else ((playP (evN l) 1048576 n 0 G0).1.b, (n : Int), 0) := by unfold plR; rw [if_neg hn]
    unfold callS
    refine calls_mono ?_ (play_top (by omega) l (by omega) _ _ _ _ _ (by simp [bdB, BdL, Bd]) (by simp [bdV]) _ _ _ _)
    rintro o h' ⟨v', rfl, rfl⟩
    simp only [vecL, boS, rowP, Try.f12, go_sem, ↓reduceIte, Nat.reduceAdd, Nat.reduceSub, Nat.reduceMul, Nat.reduceEqDiff, Nat.reduceLT, Nat.reduceLeDiff, Int.reduceToNat, Int.reduceLE, Int.reduceLT, Int.reduceEq, Int.reduceNeg, reduceCtorEq]
    refine ⟨fun e2 => ?_, fun e2 => ?_⟩
    · have h : plR n l = (Bo.z, ((playP (evN l) 1048576 n 0 G0).2.1 : Int), (playP (evN l) 1048576 n 0 G0).2.2) := by rw [hR, if_pos (by simpa using e2)]
      rw [h]
      simp [Bo.z]
    · have h : plR n l = ((playP (evN l) 1048576 n 0 G0).1.b, (n : Int), 0) := by rw [hR, if_neg (by simpa using e2)]
      rw [h]
      simp
end Go.Eng
end

/- clock: calls with a game that lies anywhere. -/
section
namespace Go.Eng
open Go Go.RowKit Go.Proofs
set_option maxRecDepth 100000
set_option maxHeartbeats 4000000
attribute [local irreducible] OwnT DefS
def gaQ (s : Ga) (v : Vers) (q : Nat) : Blk := .live 61 [.int .i64 s.b.per, .int .i64 s.b.pl, .bool s.b.run, .int .i64 s.b.g0, .int .i64 s.b.g1, .vec q v.a, .vec (q + 1) v.b, .vec (q + 2) v.c, .vec (q + 3) v.d, .int .i64 s.now, .nilf]
theorem ga_gen {g : Nat} {xs : List SV} {O : Out} {s s' : Ga} {v : Vers} {h0 : HS} (hb0 : h0.blks = (gaH s v).blks) (hbv : bdV 1 4 h0.vecs) (hlv : lenV h0.vecs = 4) (hx : BdL 1 4 xs) (hx' : ∀ b u, renL b u xs = xs) (hO : bdO 1 4 O) (hO' : ∀ b u, renO b u O = O)
    (hc : CallsS Try.prog g (.ptr 0 0 :: xs) h0 (fun o h' => ∃ v', o = O ∧ h' = gaH s' v')) (h : HS) (k q : Nat) (hk : getB h.blks k = gaQ s v q) (hvs : matV (nmN [k]) (nmN [q, q + 1, q + 2, q + 3]) [q, q + 1, q + 2, q + 3] h.vecs h0.vecs) (hqv : ∀ j, j ∈ [q, q + 1, q + 2, q + 3] → j < lenV h.vecs) :
    CallsS Try.prog g (.ptr k 0 :: xs) h (fun o h' => ∃ v' : Vers, o = O ∧ h' = ⟨setB h.blks k (gaQ s' v' q), setV (setV (setV (setV h.vecs q (vecL v'.a s'.b.p0)) (q + 1) (vecL v'.b s'.b.p1)) (q + 2) (vecL v'.c s'.b.m0)) (q + 3) (vecL v'.d s'.b.m1)⟩) := by
  obtain ⟨b0, v0⟩ := h0
  simp only at hb0 hbv hlv hvs
  subst hb0
  have := calls_ren (h := h) [k] [q, q + 1, q + 2, q + 3] hc (by simp) (by simp) ⟨by simp [Bd], hx⟩ (by simp [gaH, gaC, bdB, BdL, Bd]) hbv
    (by simp only [gaH, gaC, go_sem, ↓reduceIte, Nat.reduceAdd, Nat.reduceSub, Nat.reduceMul, Nat.reduceEqDiff, Nat.reduceLT, Nat.reduceLeDiff, Int.reduceToNat, Int.reduceLE, Int.reduceLT, Int.reduceEq, Int.reduceNeg, reduceCtorEq]; exact hk) hvs (by intro k' hk'; simp at hk'; subst hk'; exact getB_lt hk) hqv
    (by rintro o h' ⟨v', rfl, rfl⟩; exact ⟨rfl, rfl, by simp [gaH, gaC, bdB, BdL, Bd], by simp [gaH, vecL, outL, bdV, Bd], hO⟩)
  simp only [renL, renS, hx'] at this
  refine calls_mono ?_ this
  rintro o h' ⟨o0, h0', ⟨v', rfl, rfl⟩, rfl, rfl⟩
  refine ⟨v', hO' _ _, ?_⟩
  simp only [gaH, gaC, gaQ, vecL, outL, go_sem, ↓reduceIte, Nat.reduceAdd, Nat.reduceSub, Nat.reduceMul, Nat.reduceEqDiff, Nat.reduceLT, Nat.reduceLeDiff, Int.reduceToNat, Int.reduceLE, Int.reduceLT, Int.reduceEq, Int.reduceNeg, reduceCtorEq]
theorem play_small {n : Nat} (hn : n ≤ 300) (l : Nat → Nat → Int) {to : Int} (hto : 0 ≤ to ∧ to ≤ 1048576) :
    CallsS Try.prog 30 [.ptr 0 0, .row n 4 (fun i j => .int .i64 (l i j)), .int .i64 to] ⟨(gaH G0 ⟨0, 0, 0, 0⟩).blks, [.live 0 55 3 0 (fun _ _ => .any), .live 0 55 3 0 (fun _ _ => .any), .live 0 55 3 0 (fun _ _ => .any), .live 0 55 3 0 (fun _ _ => .any)]⟩
      (fun o h' => ∃ v' : Vers, o = .ret (.tup [.int .i64 ((playP (evN l) to n 0 G0).2.1 : Int), .int .i64 (playP (evN l) to n 0 G0).2.2]) ∧ h' = gaH (playP (evN l) to n 0 G0).1 v') := by
  refine calls_pre (h' := gaH G0 ⟨0, 0, 0, 0⟩) ?_ ?_ ?_ (play_calls G0_ok G0_cnt hn (l := l) hto ⟨0, 0, 0, 0⟩)
  · refine ⟨?_, ?_, ?_, ?_, ?_, ?_⟩ <;> (try simp only [gaH, gaC, vecL, outL, G0, Bo.z, go_sem, ↓reduceIte, Nat.reduceAdd, Nat.reduceSub, Nat.reduceMul, Nat.reduceEqDiff, Nat.reduceLT, Nat.reduceLeDiff, Int.reduceToNat, Int.reduceLE, Int.reduceLT, Int.reduceEq, Int.reduceNeg, reduceCtorEq]) <;> (try simp [subVk])
  · rfl
  · rfl

def gaQO (s : Ga) (v : VersO) (q : Nat) (m : Nat) : Blk := .live 61 [.int .i64 s.b.per, .int .i64 s.b.pl, .bool s.b.run, .int .i64 s.b.g0, .int .i64 s.b.g1, .vec q v.a, .vec (q + 1) v.b, .vec (q + 2) v.c, .vec (q + 3) v.d, .int .i64 s.now, .func 39 [.ptr m 0]]
theorem ga_genO {g : Nat} {xs : List SV} {O : Out} {s s' : Ga} {v : VersO} {h0 : HS} (hb0 : h0.blks = (goH s v).blks) (hbv : bdV 2 5 h0.vecs) (hlv : lenV h0.vecs = 5) (hx : BdL 2 5 xs) (hx' : ∀ b u, renL b u xs = xs) (hO : bdO 2 5 O) (hO' : ∀ b u, renO b u O = O)
    (hc : CallsS Try.prog g (.ptr 0 0 :: xs) h0 (fun o h' => ∃ v', o = O ∧ h' = goH s' v')) (h : HS) (k q m r : Nat) (hk : getB h.blks k = gaQO s v q m) (hvs : matV (nmN [k, m]) (nmN [q, q + 1, q + 2, q + 3, r]) [q, q + 1, q + 2, q + 3, r] h.vecs h0.vecs) (hqv : ∀ j, j ∈ [q, q + 1, q + 2, q + 3, r] → j < lenV h.vecs) (hm : getB h.blks m = .live 40 [.vec r v.e]) (hne : ¬ k = m) (hr : r < q ∨ q + 3 < r) :
    CallsS Try.prog g (.ptr k 0 :: xs) h (fun o h' => ∃ v' : VersO, o = O ∧ h' = ⟨setB (setB h.blks k (gaQO s' v' q m)) m (.live 40 [.vec r v'.e]), setV (setV (setV (setV (setV h.vecs q (vecL v'.a s'.b.p0)) (q + 1) (vecL v'.b s'.b.p1)) (q + 2) (vecL v'.c s'.b.m0)) (q + 3) (vecL v'.d s'.b.m1)) r (outL v'.e s'.out)⟩) := by
  obtain ⟨b0, v0⟩ := h0
  simp only at hb0 hbv hlv hvs
  subst hb0
  have := calls_ren (h := h) [k, m] [q, q + 1, q + 2, q + 3, r] hc (by simp; exact hne) (by simp; omega) ⟨by simp [Bd], hx⟩ (by simp [goH, gaC, bdB, BdL, Bd]) hbv
    (by simp only [goH, gaC, go_sem, ↓reduceIte, Nat.reduceAdd, Nat.reduceSub, Nat.reduceMul, Nat.reduceEqDiff, Nat.reduceLT, Nat.reduceLeDiff, Int.reduceToNat, Int.reduceLE, Int.reduceLT, Int.reduceEq, Int.reduceNeg, reduceCtorEq]; exact ⟨hk, hm⟩) hvs (by intro k' hk'; simp at hk'; rcases hk' with rfl | rfl; exact getB_lt hk; exact getB_lt hm) hqv
    (by rintro o h' ⟨v', rfl, rfl⟩; exact ⟨rfl, rfl, by simp [goH, gaC, bdB, BdL, Bd], by simp [goH, vecL, outL, bdV, Bd], hO⟩)
  simp only [renL, renS, hx'] at this
  refine calls_mono ?_ this
  rintro o h' ⟨o0, h0', ⟨v', rfl, rfl⟩, rfl, rfl⟩
  refine ⟨v', hO' _ _, ?_⟩
  simp only [goH, gaC, gaQO, vecL, outL, go_sem, ↓reduceIte, Nat.reduceAdd, Nat.reduceSub, Nat.reduceMul, Nat.reduceEqDiff, Nat.reduceLT, Nat.reduceLeDiff, Int.reduceToNat, Int.reduceLE, Int.reduceLT, Int.reduceEq, Int.reduceNeg, reduceCtorEq]
theorem play_smallO {n : Nat} (hn : n ≤ 300) (l : Nat → Nat → Int) {to : Int} (hto : 0 ≤ to ∧ to ≤ 1048576) :
    CallsS Try.prog 30 [.ptr 0 0, .row n 4 (fun i j => .int .i64 (l i j)), .int .i64 to] ⟨(goH G0 ⟨0, 0, 0, 0, 0⟩).blks, [.live 0 55 3 0 (fun _ _ => .any), .live 0 55 3 0 (fun _ _ => .any), .live 0 55 3 0 (fun _ _ => .any), .live 0 55 3 0 (fun _ _ => .any), .live 0 51 3 0 (fun _ _ => .any)]⟩
      (fun o h' => ∃ v' : VersO, o = .ret (.tup [.int .i64 ((playP (evN l) to n 0 G0).2.1 : Int), .int .i64 (playP (evN l) to n 0 G0).2.2]) ∧ h' = goH (playP (evN l) to n 0 G0).1 v') := by
  refine calls_pre (h' := goH G0 ⟨0, 0, 0, 0, 0⟩) ?_ ?_ ?_ (play_callsO G0_ok G0_cnt hn (l := l) hto ⟨0, 0, 0, 0, 0⟩)
  · refine ⟨?_, ?_, ?_, ?_, ?_, ?_⟩ <;> (try simp only [goH, gaC, vecL, outL, G0, Bo.z, go_sem, ↓reduceIte, Nat.reduceAdd, Nat.reduceSub, Nat.reduceMul, Nat.reduceEqDiff, Nat.reduceLT, Nat.reduceLeDiff, Int.reduceToNat, Int.reduceLE, Int.reduceLT, Int.reduceEq, Int.reduceNeg, reduceCtorEq]) <;> (try simp [subVk])
  · rfl
  · rfl
end Go.Eng
end

/- clock: At, Strengths. -/
section
namespace Go.Eng
open Go Go.RowKit Go.Proofs
set_option maxRecDepth 100000
set_option maxHeartbeats 4000000
attribute [local irreducible] OwnT DefS
/-- At: the board, and the error. -/
def atG (n : Nat) (l : Nat → Nat → Int) (to : Int) : Ga := passF (playP (evN l) to n 0 G0).1 to
def atR (n : Nat) (l : Nat → Nat → Int) (to : Int) : Bo × Int :=
  if (plR n l).2.2 ≠ 0 then (Bo.z, (plR n l).2.2) else if in3 to 0 1048576 = false then (Bo.z, 2) else ((atG n l to).b, 0)
/-- Behind events all is well. -/
theorem playP_ok {ev : Nat → Ev} {to : Int} (hto : 0 ≤ to ∧ to ≤ 1048576) : ∀ (k i : Nat) (s : Ga), s.Ok → s.b.Cnt i → i + k ≤ 300 → (playP ev to k i s).1.Ok ∧ (playP ev to k i s).1.b.Cnt (i + k)
  | 0, i, s, h, hc, _ => ⟨h, hc⟩
  | k + 1, i, s, h, hc, hn => by
    have up : ∀ {b : Bo}, b.Cnt i → b.Cnt (i + (k + 1)) := fun h => ⟨by have := h.p0; omega, by have := h.p1; omega, by have := h.m0; omega, by have := h.m1; omega, by have := h.g0; omega, by have := h.g1; omega⟩
    have up1 : ∀ {b : Bo}, b.Cnt (i + 1) → b.Cnt (i + (k + 1)) := fun h => ⟨by have := h.p0; omega, by have := h.p1; omega, by have := h.m0; omega, by have := h.m1; omega, by have := h.g0; omega, by have := h.g1; omega⟩
    unfold playP
    split
    · exact ⟨h, up hc⟩
    · rename_i he
      have he := evOk_iff.1 (by simpa using he)
      split
      · exact ⟨h, up hc⟩
      · split
        · have h1 := passF_ok he.2.1 h
          have h3 : (passF s (ev i).s).b.Cnt i := passP_cnt _ _ hc
          have h4 := deed_ok h1 h3 (by omega) (ev i)
          have h5 := deed_cnt h3 (ev i)
          rw [passF_now] at h4
          split
          · exact ⟨h4, up1 h5⟩
          · have := playP_ok (ev := ev) hto k (i + 1) _ h4 h5 (by omega)
            rw [show i + (k + 1) = i + 1 + k by omega]
            exact this
        · have := playP_ok (ev := ev) hto k (i + 1) s h ⟨by have := hc.p0; omega, by have := hc.p1; omega, by have := hc.m0; omega, by have := hc.m1; omega, by have := hc.g0; omega, by have := hc.g1; omega⟩ (by omega)
          rw [show i + (k + 1) = i + 1 + k by omega]
          exact this
def atBase : BaseF := fun args => match args with
  | [.row n sz_l f_l, .int .i64 to] => some ((sz_l = 4 ∧ IntR n 4 f_l) ∧ (n ≤ 1000000), .tup [boS (atR n (ivf f_l) to).1, .int .i64 (atR n (ivf f_l) to).2])
  | _ => none
theorem at_eq (n : Nat) (sz_l : Nat) (f_l : Nat → Nat → SV) (to : Int) : atBase [.row n sz_l f_l, .int .i64 to] = some ((sz_l = 4 ∧ IntR n 4 f_l) ∧ (n ≤ 1000000), .tup [boS (atR n (ivf f_l) to).1, .int .i64 (atR n (ivf f_l) to).2]) := rfl
theorem at_base : Base Try.prog 14 atBase := by
  intro args p v hq hp
  unfold atBase at hq
  split at hq
  rotate_left
  · cases hq
  rename_i n sz_l f_l to
  cases hq
  obtain ⟨⟨rfl, i_l⟩, pre⟩ := hp
  refine baseF_of (C := cx [30, 50] [] [(12, playBase), (32, withinBase)] [] none) (cx_ok trivial ⟨play_base, within_base, trivial⟩) rfl (g := 14) (fn := Try.f14)
    (args' := [.row n 4 (rowF .i64 (ivf f_l)), .int .i64 to]) (fn_14) rfl 1000 (by
    simp only [BdL, Bd, and_self, and_true, true_and]
    exact (fun i j hi hj => by rw [i_l i j hi hj]; trivial)) ⟨SameD.int i_l, SameD.rfl' _, trivial⟩ ?_
  generalize ivf f_l = l at *
  simp only [rowF_eq]
  simp only [play_eq, within_eq, Try.f38, boS, rowP, Try.f14, go_sem, ↓reduceIte, Nat.reduceAdd, Nat.reduceSub, Nat.reduceMul, Nat.reduceEqDiff, Nat.reduceLT, Nat.reduceLeDiff, Int.reduceToNat, Int.reduceLE, Int.reduceLT, Int.reduceEq, Int.reduceNeg, reduceCtorEq]
  refine ⟨pre, fun e1 => ?_, fun e1 => ⟨fun e2 => ?_, fun e2 => ?_⟩⟩
  · have h : atR n l to = (Bo.z, (plR n l).2.2) := by unfold atR; rw [if_pos (by simpa using e1)]
    rw [h]
    simp [Bo.z]
  · have h : atR n l to = (Bo.z, 2) := by unfold atR; rw [if_neg (by simpa using e1), if_pos (by simpa using e2)]
    rw [h]
    simp [Bo.z]
  have hto : 0 ≤ to ∧ to ≤ 1048576 := in3_iff.1 (by simpa using e2)
  have h : atR n l to = ((atG n l to).b, 0) := by unfold atR; rw [if_neg (by simpa using e1), if_neg (by simpa using e2)]
  have hn : n ≤ 256 := by
    have : (plR n l).2.2 = 0 := by simpa using e1
    unfold plR at this
    split at this
    · cases this
    · omega
  rw [h]
  unfold callS
  have hok : (playP (evN l) to n 0 G0).1.Ok := (playP_ok hto _ _ _ G0_ok G0_cnt (by omega)).1
  refine calls_mono ?_ (ga_gen (k := 3) (q := 16) (s := G0) (v := ⟨0, 0, 0, 0⟩) (xs := [.row n 4 (fun i j => .int .i64 (l i j)), .int .i64 to]) (O := .ret (.tup [.int .i64 ((playP (evN l) to n 0 G0).2.1 : Int), .int .i64 (playP (evN l) to n 0 G0).2.2])) (h0 := ⟨(gaH G0 ⟨0, 0, 0, 0⟩).blks, [.live 0 55 3 0 (fun _ _ => .any), .live 0 55 3 0 (fun _ _ => .any), .live 0 55 3 0 (fun _ _ => .any), .live 0 55 3 0 (fun _ _ => .any)]⟩) rfl (by simp [bdV]) rfl (by simp [BdL, Bd]) (fun _ _ => rfl) (by simp [bdO, BdL, Bd]) (fun _ _ => rfl) (play_small (n := n) (by omega) l hto) _ rfl (by simp only [matV, go_sem, ↓reduceIte, Nat.reduceAdd, Nat.reduceSub, Nat.reduceMul, Nat.reduceEqDiff, Nat.reduceLT, Nat.reduceLeDiff, Int.reduceToNat, Int.reduceLE, Int.reduceLT, Int.reduceEq, Int.reduceNeg, reduceCtorEq]) (by intro j hj; simp at hj; simp [lenV]; omega))
  rintro o h' ⟨v', rfl, rfl⟩
  simp only [gaQ, vecL, play_eq, within_eq, Try.f38, boS, rowP, Try.f14, go_sem, ↓reduceIte, Nat.reduceAdd, Nat.reduceSub, Nat.reduceMul, Nat.reduceEqDiff, Nat.reduceLT, Nat.reduceLeDiff, Int.reduceToNat, Int.reduceLE, Int.reduceLT, Int.reduceEq, Int.reduceNeg, reduceCtorEq]
  refine calls_mono ?_ (ga_gen (k := 3) (q := 16) (s := (playP (evN l) to n 0 G0).1) (v := v') (xs := [.int .i64 to]) (O := .ret (.tup [])) (h0 := gaH _ v') rfl (by simp [gaH, vecL, bdV, Bd]) rfl (by simp [BdL, Bd]) (fun _ _ => rfl) (by simp [bdO, BdL, Bd]) (fun _ _ => rfl) (pass_calls hok hto v' (to - (playP (evN l) to n 0 G0).1.now).toNat (by omega)) _ rfl (by simp only [gaH, vecL, matV, go_sem, ↓reduceIte, Nat.reduceAdd, Nat.reduceSub, Nat.reduceMul, Nat.reduceEqDiff, Nat.reduceLT, Nat.reduceLeDiff, Int.reduceToNat, Int.reduceLE, Int.reduceLT, Int.reduceEq, Int.reduceNeg, reduceCtorEq]) (by intro j hj; simp at hj; simp [lenV]; omega))
  rintro o h' ⟨v', rfl, rfl⟩
  simp only [gaQ, vecL, play_eq, within_eq, Try.f38, boS, rowP, Try.f14, go_sem, ↓reduceIte, Nat.reduceAdd, Nat.reduceSub, Nat.reduceMul, Nat.reduceEqDiff, Nat.reduceLT, Nat.reduceLeDiff, Int.reduceToNat, Int.reduceLE, Int.reduceLT, Int.reduceEq, Int.reduceNeg, reduceCtorEq]
  simp [atG, passF]
def stR (n : Nat) (l : Nat → Nat → Int) (to : Int) : List Pen × Int :=
  if (plR n l).2.2 ≠ 0 then ([], (plR n l).2.2) else if in3 to 0 1048576 = false then ([], 2) else ((atG n l to).out, 0)
def strengthsBase : BaseF := fun args => match args with
  | [.row n sz_l f_l, .int .i64 to] => some ((sz_l = 4 ∧ IntR n 4 f_l) ∧ (n ≤ 1000000), .tup [rowP (stR n (ivf f_l) to).1, .int .i64 (stR n (ivf f_l) to).2])
  | _ => none
theorem strengths_eq (n : Nat) (sz_l : Nat) (f_l : Nat → Nat → SV) (to : Int) : strengthsBase [.row n sz_l f_l, .int .i64 to] = some ((sz_l = 4 ∧ IntR n 4 f_l) ∧ (n ≤ 1000000), .tup [rowP (stR n (ivf f_l) to).1, .int .i64 (stR n (ivf f_l) to).2]) := rfl
theorem strengths_base : Base Try.prog 16 strengthsBase := by
  intro args p v hq hp
  unfold strengthsBase at hq
  split at hq
  rotate_left
  · cases hq
  rename_i n sz_l f_l to
  cases hq
  obtain ⟨⟨rfl, i_l⟩, pre⟩ := hp
  refine baseF_of (C := cx [30, 50] [] [(12, playBase), (32, withinBase)] [] none) (cx_ok trivial ⟨play_base, within_base, trivial⟩) rfl (g := 16) (fn := Try.f16)
    (args' := [.row n 4 (rowF .i64 (ivf f_l)), .int .i64 to]) (fn_16) rfl 1000 (by
    simp only [BdL, Bd, and_self, and_true, true_and]
    exact (fun i j hi hj => by rw [i_l i j hi hj]; trivial)) ⟨SameD.int i_l, SameD.rfl' _, trivial⟩ ?_
  generalize ivf f_l = l at *
  simp only [rowF_eq]
  simp only [play_eq, within_eq, Try.f38, boS, rowP, Try.f16, go_sem, ↓reduceIte, Nat.reduceAdd, Nat.reduceSub, Nat.reduceMul, Nat.reduceEqDiff, Nat.reduceLT, Nat.reduceLeDiff, Int.reduceToNat, Int.reduceLE, Int.reduceLT, Int.reduceEq, Int.reduceNeg, reduceCtorEq]
  refine ⟨pre, fun e1 => ?_, fun e1 => ⟨fun e2 => ?_, fun e2 => ?_⟩⟩
  · have h : stR n l to = ([], (plR n l).2.2) := by unfold stR; rw [if_pos (by simpa using e1)]
    rw [h]
    simp
  · have h : stR n l to = ([], 2) := by unfold stR; rw [if_neg (by simpa using e1), if_pos (by simpa using e2)]
    rw [h]
    simp
  have hto : 0 ≤ to ∧ to ≤ 1048576 := in3_iff.1 (by simpa using e2)
  have h : stR n l to = ((atG n l to).out, 0) := by unfold stR; rw [if_neg (by simpa using e1), if_neg (by simpa using e2)]
  have hn : n ≤ 256 := by
    have : (plR n l).2.2 = 0 := by simpa using e1
    unfold plR at this
    split at this
    · cases this
    · omega
  rw [h]
  unfold callS
  have hok : (playP (evN l) to n 0 G0).1.Ok := (playP_ok hto _ _ _ G0_ok G0_cnt (by omega)).1
  refine calls_mono ?_ (ga_genO (k := 3) (q := 14) (m := 0) (r := 1) (s := G0) (v := ⟨0, 0, 0, 0, 0⟩) (xs := [.row n 4 (fun i j => .int .i64 (l i j)), .int .i64 to]) (O := .ret (.tup [.int .i64 ((playP (evN l) to n 0 G0).2.1 : Int), .int .i64 (playP (evN l) to n 0 G0).2.2])) (h0 := ⟨(goH G0 ⟨0, 0, 0, 0, 0⟩).blks, [.live 0 55 3 0 (fun _ _ => .any), .live 0 55 3 0 (fun _ _ => .any), .live 0 55 3 0 (fun _ _ => .any), .live 0 55 3 0 (fun _ _ => .any), .live 0 51 3 0 (fun _ _ => .any)]⟩) rfl (by simp [bdV]) rfl (by simp [BdL, Bd]) (fun _ _ => rfl) (by simp [bdO, BdL, Bd]) (fun _ _ => rfl) (play_smallO (n := n) (by omega) l hto) _ rfl (by simp only [matV, go_sem, ↓reduceIte, Nat.reduceAdd, Nat.reduceSub, Nat.reduceMul, Nat.reduceEqDiff, Nat.reduceLT, Nat.reduceLeDiff, Int.reduceToNat, Int.reduceLE, Int.reduceLT, Int.reduceEq, Int.reduceNeg, reduceCtorEq]) (by intro j hj; simp at hj; simp [lenV]; omega) rfl (by omega) (by omega))
  rintro o h' ⟨v', rfl, rfl⟩
  simp only [gaQO, vecL, outL, play_eq, within_eq, Try.f38, boS, rowP, Try.f16, go_sem, ↓reduceIte, Nat.reduceAdd, Nat.reduceSub, Nat.reduceMul, Nat.reduceEqDiff, Nat.reduceLT, Nat.reduceLeDiff, Int.reduceToNat, Int.reduceLE, Int.reduceLT, Int.reduceEq, Int.reduceNeg, reduceCtorEq]
  refine calls_mono ?_ (ga_genO (k := 3) (q := 14) (m := 0) (r := 1) (s := (playP (evN l) to n 0 G0).1) (v := v') (xs := [.int .i64 to]) (O := .ret (.tup [])) (h0 := goH _ v') rfl (by simp [goH, vecL, outL, bdV, Bd]) rfl (by simp [BdL, Bd]) (fun _ _ => rfl) (by simp [bdO, BdL, Bd]) (fun _ _ => rfl) (passO_calls hok hto v' (to - (playP (evN l) to n 0 G0).1.now).toNat (by omega)) _ rfl (by simp only [goH, vecL, outL, matV, go_sem, ↓reduceIte, Nat.reduceAdd, Nat.reduceSub, Nat.reduceMul, Nat.reduceEqDiff, Nat.reduceLT, Nat.reduceLeDiff, Int.reduceToNat, Int.reduceLE, Int.reduceLT, Int.reduceEq, Int.reduceNeg, reduceCtorEq]) (by intro j hj; simp at hj; simp [lenV]; omega) rfl (by omega) (by omega))
  rintro o h' ⟨v', rfl, rfl⟩
  simp only [gaQO, vecL, outL, play_eq, within_eq, Try.f38, boS, rowP, Try.f16, go_sem, ↓reduceIte, Nat.reduceAdd, Nat.reduceSub, Nat.reduceMul, Nat.reduceEqDiff, Nat.reduceLT, Nat.reduceLeDiff, Int.reduceToNat, Int.reduceLE, Int.reduceLT, Int.reduceEq, Int.reduceNeg, reduceCtorEq]
  simp [atG, passF]
end Go.Eng
end

/- clock: Whole. -/
section
namespace Go.Eng
open Go Go.RowKit Go.Proofs
set_option maxRecDepth 100000
set_option maxHeartbeats 4000000
attribute [local irreducible] OwnT DefS
def badF (f : Nat → Nat → Int) (i : Nat) : Bool := !(in3 (f i 0) 0 4095 && in3 (f i 2) 1 300)
/-- Is one of the first n bad? -/
def anyB (f : Nat → Nat → Int) : Nat → Bool
  | 0 => false
  | n + 1 => anyB f n || badF f n
theorem anyB_iff {f : Nat → Nat → Int} : ∀ {n : Nat}, anyB f n = true ↔ ∃ i, i < n ∧ badF f i = true
  | 0 => by simp [anyB]
  | n + 1 => by
    simp only [anyB, Bool.or_eq_true, anyB_iff (n := n)]
    constructor
    · rintro (⟨i, h1, h2⟩ | h)
      · exact ⟨i, by omega, h2⟩
      · exact ⟨n, by omega, h⟩
    · rintro ⟨i, h1, h2⟩
      rcases Nat.lt_or_ge i n with h | h
      · exact .inl ⟨i, h, h2⟩
      · obtain rfl : i = n := by omega
        exact .inr h2
theorem anyB_false {f : Nat → Nat → Int} {n : Nat} : anyB f n = false ↔ ∀ i, i < n → badF f i = false := by
  constructor
  · intro h i hi
    cases hb : badF f i
    · rfl
    · rw [anyB_iff.2 ⟨i, hi, hb⟩] at h; cases h
  · intro h
    cases hb : anyB f n
    · rfl
    · obtain ⟨i, hi, h2⟩ := anyB_iff.1 hb
      rw [h i hi] at h2; cases h2
def isBadBase : BaseF := fun args => match args with
  | [.agg [.int .i64 a, .int .i64 k, .int .i64 l]] => some (True, .bool (!(in3 a 0 4095 && in3 l 1 300)))
  | _ => none
theorem isBad_eq (a : Int) (k : Int) (l : Int) : isBadBase [.agg [.int .i64 a, .int .i64 k, .int .i64 l]] = some (True, .bool (!(in3 a 0 4095 && in3 l 1 300))) := rfl
theorem isBad_base : Base Try.prog 31 isBadBase := by
  intro args p v hq hp
  unfold isBadBase at hq
  split at hq
  rotate_left
  · cases hq
  rename_i a k l
  cases hq
  refine base_of (C := cx [] [] [(32, withinBase)] [] none) (cx_ok trivial ⟨within_base, trivial⟩) rfl (g := 31) (fn := Try.f31)
    (args' := [.agg [.int .i64 a, .int .i64 k, .int .i64 l]]) (fn_31) rfl 1000 (by simp only [BdL, Bd, and_self, and_true, true_and]) ⟨SameD.rfl' _, trivial⟩ ?_
  simp only [within_eq, Try.f31, go_sem, ↓reduceIte, Nat.reduceAdd, Nat.reduceSub, Nat.reduceMul, Nat.reduceEqDiff, Nat.reduceLT, Nat.reduceLeDiff, Int.reduceToNat, Int.reduceLE, Int.reduceLT, Int.reduceEq, Int.reduceNeg, reduceCtorEq]
  refine ⟨fun e1 => ?_, fun e1 => ?_⟩
  · have : in3 a 0 4095 = false := by simpa using e1
    rw [this]; rfl
  · have : in3 a 0 4095 = true := by simpa using e1
    rw [this]; rfl
def someBadBase : BaseF := fun args => match args with
  | [.row n sz_f f_f, .func g []] => some ((sz_f = 3 ∧ IntR n 3 f_f) ∧ (g = 31 ∧ n ≤ 1000000), .bool (anyB (ivf f_f) n))
  | _ => none
theorem someBad_eq (n : Nat) (sz_f : Nat) (f_f : Nat → Nat → SV) (g : Nat) : someBadBase [.row n sz_f f_f, .func g []] = some ((sz_f = 3 ∧ IntR n 3 f_f) ∧ (g = 31 ∧ n ≤ 1000000), .bool (anyB (ivf f_f) n)) := rfl
theorem someBad_base : Base Try.prog 33 someBadBase := by
  intro args p v hq hp
  unfold someBadBase at hq
  split at hq
  rotate_left
  · cases hq
  rename_i n sz_f f_f g
  cases hq
  obtain ⟨⟨rfl, i_f⟩, pre⟩ := hp
  refine base_of (C := cx [] [] [(31, isBadBase)] [] none) (cx_ok trivial ⟨isBad_base, trivial⟩) rfl (g := 33) (fn := Try.f33)
    (args' := [.row n 3 (rowF .i64 (ivf f_f)), .func g []]) (fn_33) rfl 1000 (by
    simp only [BdL, Bd, and_self, and_true, true_and]
    exact (fun i j hi hj => by rw [i_f i j hi hj]; trivial)) ⟨SameD.int i_f, SameD.rfl' _, trivial⟩ ?_
  generalize ivf f_f = f at *
  simp only [rowF_eq]
  simp only [isBad_eq, Try.f51, Try.f33, go_sem, ↓reduceIte, Nat.reduceAdd, Nat.reduceSub, Nat.reduceMul, Nat.reduceEqDiff, Nat.reduceLT, Nat.reduceLeDiff, Int.reduceToNat, Int.reduceLE, Int.reduceLT, Int.reduceEq, Int.reduceNeg, reduceCtorEq]
  obtain ⟨rfl, hn⟩ := pre
  refine loop_of { i : Nat // i ≤ n ∧ ∀ j, j < i → badF f j = false } (fun i => [(8, .int .i64 (i.1 : Int)), (7, .int .i64 (n : Int)), (1, .func 31 []), (0, .row n 3 fun i j => .int .i64 (f i j))]) (fun _ => ⟨[], []⟩) (fun i => n - i.1) (fun _ => ⟨rfl, rfl⟩) ⟨0, by omega, fun j hj => by omega⟩ (by (apply sub_of <;> simp only [go_sem, ↓reduceIte, Nat.reduceAdd, Nat.reduceSub, Nat.reduceMul, Nat.reduceEqDiff, Nat.reduceLT, Nat.reduceLeDiff, Int.reduceToNat, Int.reduceLE, Int.reduceLT, Int.reduceEq, Int.reduceNeg, reduceCtorEq] <;> (try simp [catF]) <;> (try exact fun j _ => Bd_nth (by simp [BdL, Bd]) j) <;> (try exact bd_setL (by simp [bdAs, BdL, Bd])) <;> (try exact nestF_bd _ _ _ _ _ _ _ _ _))) ?_
  rintro ⟨i, hi, h3⟩
  simp only [isBad_eq, Try.f51, Try.f33, go_sem, ↓reduceIte, Nat.reduceAdd, Nat.reduceSub, Nat.reduceMul, Nat.reduceEqDiff, Nat.reduceLT, Nat.reduceLeDiff, Int.reduceToNat, Int.reduceLE, Int.reduceLT, Int.reduceEq, Int.reduceNeg, reduceCtorEq]
  have hw3 : IntKind.i64.wrap ((i : Int) + 1) = ((i + 1 : Nat) : Int) := by rw [wrap_id (by omega) (by omega)]; omega
  refine ⟨fun e1 => ⟨by simp only [decide_eq_true_eq] at e1; omega, fun e2 => ?_, fun e2 => ?_⟩, fun e1 => ?_⟩
  · simp only [decide_eq_true_eq] at e1
    rw [anyB_iff.2 ⟨i, by omega, e2⟩]
    simp
  · simp only [decide_eq_true_eq] at e1
    refine ⟨⟨i + 1, by omega, fun j hj => ?_⟩, by simp only []; omega, ?_⟩
    · rcases Nat.lt_or_ge j i with h | h
      · exact h3 j h
      · obtain rfl : j = i := by omega
        exact e2
    · apply sub_of <;> simp only [hw3, go_sem, ↓reduceIte, Nat.reduceAdd, Nat.reduceSub, Nat.reduceMul, Nat.reduceEqDiff, Nat.reduceLT, Nat.reduceLeDiff, Int.reduceToNat, Int.reduceLE, Int.reduceLT, Int.reduceEq, Int.reduceNeg, reduceCtorEq] <;> (try simp) <;> (try exact fun j _ => Bd_nth (by simp [BdL, Bd]) j) <;> (try exact bd_setL (by simp [bdAs, BdL, Bd])) <;> (try exact nestF_bd _ _ _ _ _ _ _ _ _)
  · simp only [decide_eq_false_iff_not] at e1
    obtain rfl : i = n := by omega
    rw [anyB_false.2 h3]
    try rfl
def cloneBase : BaseF := fun args => match args with
  | [.row n sz_f f_f] => some ((sz_f = 3 ∧ IntR n 3 f_f) ∧ (n ≤ 1000000), .row n 3 (fun i j => .int .i64 ((ivf f_f) i j)))
  | _ => none
theorem clone_eq (n : Nat) (sz_f : Nat) (f_f : Nat → Nat → SV) : cloneBase [.row n sz_f f_f] = some ((sz_f = 3 ∧ IntR n 3 f_f) ∧ (n ≤ 1000000), .row n 3 (fun i j => .int .i64 ((ivf f_f) i j))) := rfl
theorem clone_base : BaseO Try.prog 34 55 cloneBase := by
  intro args p v hq hp
  unfold cloneBase at hq
  split at hq
  rotate_left
  · cases hq
  rename_i n sz_f f_f
  cases hq
  obtain ⟨⟨rfl, i_f⟩, pre⟩ := hp
  refine baseO_of (C := cx [] [] [] [] none) (cx_ok trivial trivial) rfl (g := 34) (fn := Try.f34)
    (args' := [.row n 3 (rowF .i64 (ivf f_f))]) (fn_34) rfl 1000 (by
    simp only [BdL, Bd, and_self, and_true, true_and]
    exact (fun i j hi hj => by rw [i_f i j hi hj]; trivial)) ⟨SameD.int i_f, trivial⟩ ?_
  generalize ivf f_f = f at *
  simp only [rowF_eq]
  simp only [Try.f34, go_sem, ↓reduceIte, Nat.reduceAdd, Nat.reduceSub, Nat.reduceMul, Nat.reduceEqDiff, Nat.reduceLT, Nat.reduceLeDiff, Int.reduceToNat, Int.reduceLE, Int.reduceLT, Int.reduceEq, Int.reduceNeg, reduceCtorEq]
  exact ⟨fun h => ⟨h.symm, fun i j hi _ => by omega⟩, ⟨by omega, by omega⟩, fun i j _ _ => by simp [catF]⟩
def cloneEBase : BaseF := fun args => match args with
  | [.row n sz_f f_f] => some ((sz_f = 4 ∧ IntR n 4 f_f) ∧ (n ≤ 1000000), .row n 4 (fun i j => .int .i64 ((ivf f_f) i j)))
  | _ => none
theorem cloneE_eq (n : Nat) (sz_f : Nat) (f_f : Nat → Nat → SV) : cloneEBase [.row n sz_f f_f] = some ((sz_f = 4 ∧ IntR n 4 f_f) ∧ (n ≤ 1000000), .row n 4 (fun i j => .int .i64 ((ivf f_f) i j))) := rfl
theorem cloneE_base : BaseO Try.prog 45 35 cloneEBase := by
  intro args p v hq hp
  unfold cloneEBase at hq
  split at hq
  rotate_left
  · cases hq
  rename_i n sz_f f_f
  cases hq
  obtain ⟨⟨rfl, i_f⟩, pre⟩ := hp
  refine baseO_of (C := cx [] [] [] [] none) (cx_ok trivial trivial) rfl (g := 45) (fn := Try.f45)
    (args' := [.row n 4 (rowF .i64 (ivf f_f))]) (fn_45) rfl 1000 (by
    simp only [BdL, Bd, and_self, and_true, true_and]
    exact (fun i j hi hj => by rw [i_f i j hi hj]; trivial)) ⟨SameD.int i_f, trivial⟩ ?_
  generalize ivf f_f = f at *
  simp only [rowF_eq]
  simp only [Try.f45, go_sem, ↓reduceIte, Nat.reduceAdd, Nat.reduceSub, Nat.reduceMul, Nat.reduceEqDiff, Nat.reduceLT, Nat.reduceLeDiff, Int.reduceToNat, Int.reduceLE, Int.reduceLT, Int.reduceEq, Int.reduceNeg, reduceCtorEq]
  exact ⟨fun h => ⟨h.symm, fun i j hi _ => by omega⟩, ⟨by omega, by omega⟩, fun i j _ _ => by simp [catF]⟩
def okL (l : List Pen) : Bool := decide (l.length ≤ 256) && !anyB (pf l) l.length
theorem okL_pl (n : Nat) (f : Nat → Nat → Int) : okL (Eng.pl n f) = (decide (n ≤ 256) && !anyB f n) := by
  unfold okL
  rw [pl_len]
  congr 2
  rw [Bool.eq_iff_iff, anyB_iff, anyB_iff]
  constructor
  · rintro ⟨i, h1, h2⟩
    exact ⟨i, h1, by rw [badF, pf_pl h1 (by omega), pf_pl h1 (by omega)] at h2; exact h2⟩
  · rintro ⟨i, h1, h2⟩
    exact ⟨i, h1, by rw [badF, pf_pl h1 (by omega), pf_pl h1 (by omega)]; exact h2⟩
theorem okL_lOk {l : List Pen} (h : okL l = true) : lOk l ∧ ∀ p ∈ l, p.l ≤ 300 := by
  simp only [okL, Bool.and_eq_true, decide_eq_true_eq, Bool.not_eq_true', anyB_false] at h
  have key : ∀ p ∈ l, 1 ≤ p.l ∧ p.l ≤ 300 := fun p hp => by
    obtain ⟨i, hi, rfl⟩ := List.getElem_of_mem hp
    have h2 := h.2 i hi
    simp only [badF, Bool.not_eq_false', Bool.and_eq_true, in3_iff] at h2
    have e : pf l i 2 = l[i].l := by simp [pf, pe, hi]
    omega
  exact ⟨⟨by omega, fun p hp => by have := key p hp; omega⟩, fun p hp => (key p hp).2⟩
/-- After how many seconds all is over. -/
def wholeN : Nat → List Pen → Int
  | 0, _ => 0
  | k + 1, l => if l = [] then 0 else minS l 300 + wholeN k (goneS (minS l 300) l)
def wholeR (p0 p1 : List Pen) (team : Int) : Int × Int :=
  if (okL p0 && okL p1) = false then (0, 1) else if in3 team 0 1 = false then (0, 2) else if team = 0 then (wholeN p0.length p0, 0) else (wholeN p1.length p1, 0)
theorem minW_att (w : Nat → Int) (f : Nat → Nat → Int) (most : Int) : ∀ (m : Nat), minW w f most m = most ∨ ∃ k, k < m ∧ minW w f most m = f (w k).toNat 2
  | 0 => .inl rfl
  | m + 1 => by
    simp only [minW]
    rcases minW_att w f most m with h | ⟨k, h1, h2⟩
    · rcases Int.le_total (minW w f most m) (f (w m).toNat 2) with h3 | h3
      · left; omega
      · right; exact ⟨m, by omega, by omega⟩
    · rcases Int.le_total (minW w f most m) (f (w m).toNat 2) with h3 | h3
      · right; exact ⟨k, by omega, by omega⟩
      · right; exact ⟨m, by omega, by omega⟩
theorem goneW_lt {m : Nat} {w : Nat → Int} {n : Int} {l : List Pen} {k : Nat} (hk : k < m) (hw : 0 ≤ w k ∧ w k < l.length) (h : pf l (w k).toNat 2 = n) : (goneW m w n l).length < l.length := by
  have h1 : (decW m w n l).length = l.length := by unfold decW; rw [pl_len]
  rw [← h1]
  unfold goneW
  refine List.length_filter_lt_length_iff_exists.2 ?_
  have hlt : (w k).toNat < l.length := by omega
  refine ⟨pn (fun i j => if j = 2 ∧ ∃ k, k < m ∧ w k = i then pf l i j - n else pf l i j) (w k).toNat, ?_, ?_⟩
  · unfold decW pl
    exact List.mem_map.2 ⟨(w k).toNat, List.mem_range.2 hlt, rfl⟩
  · simp only [pn]
    rw [if_pos ⟨trivial, k, hk, by omega⟩, h]
    simp
theorem goneW_max {m : Nat} {w : Nat → Int} {n M : Int} {l : List Pen} (hn : 0 ≤ n) (h : ∀ p ∈ l, p.l ≤ M) : ∀ p ∈ goneW m w n l, p.l ≤ M := by
  intro p hp
  simp only [goneW, List.mem_filter] at hp
  obtain ⟨i, hi, rfl⟩ := mem_pl hp.1
  have := h _ (pf_mem hi)
  simp only [pn]
  simp only at this
  split <;> omega
theorem nS_pos {l : List Pen} (h : l ≠ []) : 0 < nS l := by
  have : l.length ≠ 0 := fun q => h (List.length_eq_zero_iff.1 q)
  unfold nS
  rw [if_neg this]
  split <;> omega
theorem whole_lt {l : List Pen} (h0 : l ≠ []) (h : ∀ p ∈ l, p.l ≤ 300) : (goneS (minS l 300) l).length < l.length := by
  have hp := nS_pos h0
  rcases minW_att (wS l) (pf l) 300 (nS l) with h1 | ⟨k, h1, h2⟩
  · have h3 := (minW_le (wS l) (pf l) 300 (nS l)).2 0 hp
    have h4 := wS_lt hp
    have h5 := h _ (pf_mem (l := l) (i := (wS l 0).toNat) (by omega))
    simp only at h5
    have : minS l 300 = 300 := h1
    exact goneW_lt hp h4 (by rw [this]; omega)
  · exact goneW_lt h1 (wS_lt h1) h2.symm
def wholeBase : BaseF := fun args => match args with
  | [.agg [.int .i64 per, .int .i64 pl, .bool run, .int .i64 g0, .int .i64 g1, .row n0 sz_a0 f_a0, .row n1 sz_a1 f_a1, .row m0 sz_b0 f_b0, .row m1 sz_b1 f_b1], .int .i64 team] => some ((sz_a0 = 3 ∧ IntR n0 3 f_a0) ∧ (sz_a1 = 3 ∧ IntR n1 3 f_a1) ∧ (sz_b0 = 3 ∧ IntR m0 3 f_b0) ∧ (sz_b1 = 3 ∧ IntR m1 3 f_b1) ∧ (n0 ≤ 1000000 ∧ n1 ≤ 1000000), .tup [.int .i64 (wholeR (Eng.pl n0 (ivf f_a0)) (Eng.pl n1 (ivf f_a1)) team).1, .int .i64 (wholeR (Eng.pl n0 (ivf f_a0)) (Eng.pl n1 (ivf f_a1)) team).2])
  | _ => none
theorem whole_eq (per : Int) (pl : Int) (run : Bool) (g0 : Int) (g1 : Int) (n0 : Nat) (sz_a0 : Nat) (f_a0 : Nat → Nat → SV) (n1 : Nat) (sz_a1 : Nat) (f_a1 : Nat → Nat → SV) (m0 : Nat) (sz_b0 : Nat) (f_b0 : Nat → Nat → SV) (m1 : Nat) (sz_b1 : Nat) (f_b1 : Nat → Nat → SV) (team : Int) : wholeBase [.agg [.int .i64 per, .int .i64 pl, .bool run, .int .i64 g0, .int .i64 g1, .row n0 sz_a0 f_a0, .row n1 sz_a1 f_a1, .row m0 sz_b0 f_b0, .row m1 sz_b1 f_b1], .int .i64 team] = some ((sz_a0 = 3 ∧ IntR n0 3 f_a0) ∧ (sz_a1 = 3 ∧ IntR n1 3 f_a1) ∧ (sz_b0 = 3 ∧ IntR m0 3 f_b0) ∧ (sz_b1 = 3 ∧ IntR m1 3 f_b1) ∧ (n0 ≤ 1000000 ∧ n1 ≤ 1000000), .tup [.int .i64 (wholeR (Eng.pl n0 (ivf f_a0)) (Eng.pl n1 (ivf f_a1)) team).1, .int .i64 (wholeR (Eng.pl n0 (ivf f_a0)) (Eng.pl n1 (ivf f_a1)) team).2]) := rfl
theorem whole_base : Base Try.prog 13 wholeBase := by
  intro args p v hq hp
  unfold wholeBase at hq
  split at hq
  rotate_left
  · cases hq
  rename_i per pl run g0 g1 n0 sz_a0 f_a0 n1 sz_a1 f_a1 m0 sz_b0 f_b0 m1 sz_b1 f_b1 team
  cases hq
  obtain ⟨⟨rfl, i_a0⟩, ⟨rfl, i_a1⟩, ⟨rfl, i_b0⟩, ⟨rfl, i_b1⟩, pre⟩ := hp
  refine base_of (C := cx [37] [(34, 55, cloneBase)] [(32, withinBase), (33, someBadBase), (35, servedPBase), (36, soonestBase)] [] none) (cx_ok ⟨clone_base, trivial⟩ ⟨within_base, someBad_base, servedP_base, soonest_base, trivial⟩) rfl (g := 13) (fn := Try.f13)
    (args' := [.agg [.int .i64 per, .int .i64 pl, .bool run, .int .i64 g0, .int .i64 g1, .row n0 3 (rowF .i64 (ivf f_a0)), .row n1 3 (rowF .i64 (ivf f_a1)), .row m0 3 (rowF .i64 (ivf f_b0)), .row m1 3 (rowF .i64 (ivf f_b1))], .int .i64 team]) (fn_13) rfl 1000 (by
    simp only [BdL, Bd, and_self, and_true, true_and]
    exact ⟨(fun i j hi hj => by rw [i_a0 i j hi hj]; trivial), (fun i j hi hj => by rw [i_a1 i j hi hj]; trivial), (fun i j hi hj => by rw [i_b0 i j hi hj]; trivial), (fun i j hi hj => by rw [i_b1 i j hi hj]; trivial)⟩) ⟨SameD.agg ⟨SameD.rfl' _, SameD.rfl' _, SameD.rfl' _, SameD.rfl' _, SameD.rfl' _, SameD.int i_a0, SameD.int i_a1, SameD.int i_b0, SameD.int i_b1, trivial⟩, SameD.rfl' _, trivial⟩ ?_
  generalize ivf f_a0 = a0 at *
  generalize ivf f_a1 = a1 at *
  generalize ivf f_b0 = b0 at *
  generalize ivf f_b1 = b1 at *
  simp only [rowF_eq]
  simp only [within_eq, someBad_eq, servedP_eq, soonest_eq, clone_eq, Try.f13, go_sem, ↓reduceIte, Nat.reduceAdd, Nat.reduceSub, Nat.reduceMul, Nat.reduceEqDiff, Nat.reduceLT, Nat.reduceLeDiff, Int.reduceToNat, Int.reduceLE, Int.reduceLT, Int.reduceEq, Int.reduceNeg, reduceCtorEq]
  obtain ⟨hn0, hn1⟩ := pre
  refine loop_ofH { t : Nat // t ≤ 2 ∧ (0 < t → okL (Eng.pl n0 a0) = true) ∧ (1 < t → okL (Eng.pl n1 a1) = true) } (fun t => [(15, .int .i64 (t.1 : Int)), (14, .agg [.row n0 3 fun i j => .int .i64 (a0 i j), .row n1 3 fun i j => .int .i64 (a1 i j)]), (6, .func 31 []), (5, .int .i64 0), (4, .int .i64 0), (2, .ptr 0 0), (1, .int .i64 team)]) (fun h _ => h) (fun t => 2 - t.1) (fun _ => ⟨rfl, rfl⟩) ⟨0, by omega, by omega, by omega⟩ (by (apply sub_of <;> simp only [go_sem, ↓reduceIte, Nat.reduceAdd, Nat.reduceSub, Nat.reduceMul, Nat.reduceEqDiff, Nat.reduceLT, Nat.reduceLeDiff, Int.reduceToNat, Int.reduceLE, Int.reduceLT, Int.reduceEq, Int.reduceNeg, reduceCtorEq] <;> (try simp [catF]) <;> (try exact fun j _ => Bd_nth (by simp [BdL, Bd]) j) <;> (try exact bd_setL (by simp [bdAs, BdL, Bd])) <;> (try exact nestF_bd _ _ _ _ _ _ _ _ _))) ?_
  have bad0 : okL (Eng.pl n0 a0) = false → wholeR (Eng.pl n0 a0) (Eng.pl n1 a1) team = (0, 1) := fun h => by unfold wholeR; rw [h]; rfl
  have bad1 : okL (Eng.pl n1 a1) = false → wholeR (Eng.pl n0 a0) (Eng.pl n1 a1) team = (0, 1) := fun h => by unfold wholeR; rw [h]; simp
  rintro ⟨t, ht, h0, h1⟩
  obtain rfl | rfl | rfl : t = 0 ∨ t = 1 ∨ t = 2 := by omega
  · simp only [within_eq, someBad_eq, servedP_eq, soonest_eq, clone_eq, Try.f13, go_sem, ↓reduceIte, Nat.reduceAdd, Nat.reduceSub, Nat.reduceMul, Nat.reduceEqDiff, Nat.reduceLT, Nat.reduceLeDiff, Int.reduceToNat, Int.reduceLE, Int.reduceLT, Int.reduceEq, Int.reduceNeg, reduceCtorEq]
    refine ⟨fun _ => ⟨by omega, fun e1 => ?_, fun e1 => ⟨hn0, fun e2 => ?_, fun e2 => ?_⟩⟩, fun h => absurd h (by simp)⟩
    all_goals simp only [decide_eq_true_eq, decide_eq_false_iff_not] at e1
    · rw [bad0 (by rw [okL_pl, decide_eq_false (by omega)]; rfl)]
    · rw [bad0 (by rw [okL_pl, e2]; simp)]
    · refine ⟨⟨1, by omega, fun _ => by rw [okL_pl, e2, decide_eq_true (by omega)]; rfl, fun h => by omega⟩, by simp only []; omega, ?_⟩
      apply sub_of <;> simp only [go_sem, ↓reduceIte, Nat.reduceAdd, Nat.reduceSub, Nat.reduceMul, Nat.reduceEqDiff, Nat.reduceLT, Nat.reduceLeDiff, Int.reduceToNat, Int.reduceLE, Int.reduceLT, Int.reduceEq, Int.reduceNeg, reduceCtorEq] <;> (try simp) <;> (try exact fun j _ => Bd_nth (by simp [BdL, Bd]) j) <;> (try exact bd_setL (by simp [bdAs, BdL, Bd])) <;> (try exact nestF_bd _ _ _ _ _ _ _ _ _)
      try rfl
  · simp only [within_eq, someBad_eq, servedP_eq, soonest_eq, clone_eq, Try.f13, go_sem, ↓reduceIte, Nat.reduceAdd, Nat.reduceSub, Nat.reduceMul, Nat.reduceEqDiff, Nat.reduceLT, Nat.reduceLeDiff, Int.reduceToNat, Int.reduceLE, Int.reduceLT, Int.reduceEq, Int.reduceNeg, reduceCtorEq]
    refine ⟨fun _ => ⟨by omega, fun e1 => ?_, fun e1 => ⟨hn1, fun e2 => ?_, fun e2 => ?_⟩⟩, fun h => absurd h (by simp)⟩
    all_goals simp only [decide_eq_true_eq, decide_eq_false_iff_not] at e1
    · rw [bad1 (by rw [okL_pl, decide_eq_false (by omega)]; rfl)]
    · rw [bad1 (by rw [okL_pl, e2]; simp)]
    · refine ⟨⟨2, by omega, fun _ => h0 (by omega), fun _ => by rw [okL_pl, e2, decide_eq_true (by omega)]; rfl⟩, by simp only []; omega, ?_⟩
      apply sub_of <;> simp only [go_sem, ↓reduceIte, Nat.reduceAdd, Nat.reduceSub, Nat.reduceMul, Nat.reduceEqDiff, Nat.reduceLT, Nat.reduceLeDiff, Int.reduceToNat, Int.reduceLE, Int.reduceLT, Int.reduceEq, Int.reduceNeg, reduceCtorEq] <;> (try simp) <;> (try exact fun j _ => Bd_nth (by simp [BdL, Bd]) j) <;> (try exact bd_setL (by simp [bdAs, BdL, Bd])) <;> (try exact nestF_bd _ _ _ _ _ _ _ _ _)
      try rfl
  · have hk0 := h0 (by omega)
    have hk1 := h1 (by omega)
    have hw : wholeR (Eng.pl n0 a0) (Eng.pl n1 a1) team = if in3 team 0 1 = false then (0, 2) else if team = 0 then (wholeN (Eng.pl n0 a0).length (Eng.pl n0 a0), 0) else (wholeN (Eng.pl n1 a1).length (Eng.pl n1 a1), 0) := by
      unfold wholeR; rw [hk0, hk1]; rfl
    by_cases hin : in3 team 0 1 = true
    · have hin2 := in3_iff.1 hin
      have hn0' : n0 ≤ 256 := by rw [okL_pl] at hk0; simp at hk0; exact hk0.1
      have hn1' : n1 ≤ 256 := by rw [okL_pl] at hk1; simp at hk1; exact hk1.1
      obtain rfl | rfl : team = 0 ∨ team = 1 := by omega
      · rw [hw]
        rw [if_neg (by decide), if_pos rfl]
        simp only [within_eq, someBad_eq, servedP_eq, soonest_eq, clone_eq, Try.f13, go_sem, ↓reduceIte, Nat.reduceAdd, Nat.reduceSub, Nat.reduceMul, Nat.reduceEqDiff, Nat.reduceLT, Nat.reduceLeDiff, Int.reduceToNat, Int.reduceLE, Int.reduceLT, Int.reduceEq, Int.reduceNeg, reduceCtorEq]
        refine ⟨fun h => absurd h (by simp), fun _ => ⟨fun h => absurd h (by decide), fun _ => ⟨by omega, hn0, ?_⟩⟩⟩
        have hlen : (Eng.pl n0 a0).length = n0 := pl_len _ _
        have hok : lOk (Eng.pl n0 a0) ∧ ∀ p ∈ Eng.pl n0 a0, p.l ≤ 300 := okL_lOk hk0
        refine loop_of { x : Nat × List Pen × Int × Nat // lOk x.2.1 ∧ (∀ p ∈ x.2.1, p.l ≤ 300) ∧ x.2.2.1 + wholeN x.2.2.2 x.2.1 = wholeN (Eng.pl n0 a0).length (Eng.pl n0 a0) ∧ x.2.1.length ≤ x.2.2.2 ∧ 0 ≤ x.2.2.1 ∧ x.2.2.1 + 300 * (x.2.1.length : Int) ≤ 76800 }
          (fun x => [(10, .int .i64 x.1.2.2.1), (9, .vec 0 x.1.1)]) (fun x => ⟨[.dead], [vecL x.1.1 x.1.2.1]⟩) (fun x => x.1.2.1.length) (fun _ => ⟨rfl, rfl⟩) ⟨(0, Eng.pl n0 a0, 0, (Eng.pl n0 a0).length), hok.1, hok.2, by simp, by simp, by simp, by rw [hlen]; simp only []; omega⟩ (by simp only [vecL, hlen]; (apply sub_of <;> simp only [go_sem, ↓reduceIte, Nat.reduceAdd, Nat.reduceSub, Nat.reduceMul, Nat.reduceEqDiff, Nat.reduceLT, Nat.reduceLeDiff, Int.reduceToNat, Int.reduceLE, Int.reduceLT, Int.reduceEq, Int.reduceNeg, reduceCtorEq] <;> (try simp [catF]) <;> (try exact fun j _ => Bd_nth (by simp [BdL, Bd]) j) <;> (try exact bd_setL (by simp [bdAs, BdL, Bd])) <;> (try exact nestF_bd _ _ _ _ _ _ _ _ _)); exact fun i j h1 h2 => (pf_pl h1 h2).symm) ?_
        rintro ⟨⟨ver, L, sm, k⟩, c1, c2, c3, c4, c5, c6⟩
        simp only at c1 c2 c3 c4 c5 c6
        simp only [vecL, within_eq, someBad_eq, servedP_eq, soonest_eq, clone_eq, Try.f13, go_sem, ↓reduceIte, Nat.reduceAdd, Nat.reduceSub, Nat.reduceMul, Nat.reduceEqDiff, Nat.reduceLT, Nat.reduceLeDiff, Int.reduceToNat, Int.reduceLE, Int.reduceLT, Int.reduceEq, Int.reduceNeg, reduceCtorEq]
        have hS := nS_le L
        refine ⟨fun e1 => ?_, fun e1 => ?_⟩
        all_goals simp only [decide_eq_true_eq, decide_eq_false_iff_not] at e1
        · have hne : L ≠ [] := fun h => by rw [h] at e1; simp at e1
          obtain ⟨k, rfl⟩ : ∃ k', k = k' + 1 := ⟨k - 1, by omega⟩
          have hm : minW (fun k => wS (Eng.pl L.length (pf L)) k) (pf L) 300 (nS (Eng.pl L.length (pf L))) = minS L 300 := by rw [pl_pf]; rfl
          have hm1 := minS_ge c1 (n := 300) (by omega)
          have hm2 := minS_le L 300
          have hlt := whole_lt hne c2
          rw [hm]
          refine ⟨by omega, ⟨by rw [pl_pf]; omega, fun j hj => by rw [pl_pf] at hj ⊢; exact wS_lt hj⟩, ?_⟩
          unfold callS
          refine calls_mono ?_ (goneS_at c1 ⟨by omega, by omega⟩ _ 0 rfl)
          rintro o h' ⟨v', rfl, rfl⟩
          simp only [within_eq, someBad_eq, servedP_eq, soonest_eq, clone_eq, Try.f13, go_sem, ↓reduceIte, Nat.reduceAdd, Nat.reduceSub, Nat.reduceMul, Nat.reduceEqDiff, Nat.reduceLT, Nat.reduceLeDiff, Int.reduceToNat, Int.reduceLE, Int.reduceLT, Int.reduceEq, Int.reduceNeg, reduceCtorEq]
          have w1 : IntKind.i64.wrap (sm + minS L 300) = sm + minS L 300 := wrap_id (by omega) (by omega)
          simp only [wholeN, if_neg hne] at c3
          refine ⟨⟨(v', goneS (minS L 300) L, sm + minS L 300, k), goneW_ok c1 (by omega) hm2.2, goneW_max (by omega) c2, by simp only []; omega, by simp only []; omega, by simp only []; omega, by simp only []; omega⟩, by simp only []; omega, ?_⟩
          apply sub_of <;> simp only [w1, go_sem, ↓reduceIte, Nat.reduceAdd, Nat.reduceSub, Nat.reduceMul, Nat.reduceEqDiff, Nat.reduceLT, Nat.reduceLeDiff, Int.reduceToNat, Int.reduceLE, Int.reduceLT, Int.reduceEq, Int.reduceNeg, reduceCtorEq] <;> (try simp) <;> (try exact fun j _ => Bd_nth (by simp [BdL, Bd]) j) <;> (try exact bd_setL (by simp [bdAs, BdL, Bd])) <;> (try exact nestF_bd _ _ _ _ _ _ _ _ _)
        · have hne : L = [] := List.length_eq_zero_iff.1 (by omega)
          subst hne
          have : wholeN k [] = 0 := by cases k <;> simp [wholeN]
          rw [← c3, this, Int.add_zero]
      · rw [hw]
        rw [if_neg (by decide), if_neg (by decide)]
        simp only [within_eq, someBad_eq, servedP_eq, soonest_eq, clone_eq, Try.f13, go_sem, ↓reduceIte, Nat.reduceAdd, Nat.reduceSub, Nat.reduceMul, Nat.reduceEqDiff, Nat.reduceLT, Nat.reduceLeDiff, Int.reduceToNat, Int.reduceLE, Int.reduceLT, Int.reduceEq, Int.reduceNeg, reduceCtorEq]
        refine ⟨fun h => absurd h (by simp), fun _ => ⟨fun h => absurd h (by decide), fun _ => ⟨by omega, hn1, ?_⟩⟩⟩
        have hlen : (Eng.pl n1 a1).length = n1 := pl_len _ _
        have hok : lOk (Eng.pl n1 a1) ∧ ∀ p ∈ Eng.pl n1 a1, p.l ≤ 300 := okL_lOk hk1
        refine loop_of { x : Nat × List Pen × Int × Nat // lOk x.2.1 ∧ (∀ p ∈ x.2.1, p.l ≤ 300) ∧ x.2.2.1 + wholeN x.2.2.2 x.2.1 = wholeN (Eng.pl n1 a1).length (Eng.pl n1 a1) ∧ x.2.1.length ≤ x.2.2.2 ∧ 0 ≤ x.2.2.1 ∧ x.2.2.1 + 300 * (x.2.1.length : Int) ≤ 76800 }
          (fun x => [(10, .int .i64 x.1.2.2.1), (9, .vec 0 x.1.1)]) (fun x => ⟨[.dead], [vecL x.1.1 x.1.2.1]⟩) (fun x => x.1.2.1.length) (fun _ => ⟨rfl, rfl⟩) ⟨(0, Eng.pl n1 a1, 0, (Eng.pl n1 a1).length), hok.1, hok.2, by simp, by simp, by simp, by rw [hlen]; simp only []; omega⟩ (by simp only [vecL, hlen]; (apply sub_of <;> simp only [go_sem, ↓reduceIte, Nat.reduceAdd, Nat.reduceSub, Nat.reduceMul, Nat.reduceEqDiff, Nat.reduceLT, Nat.reduceLeDiff, Int.reduceToNat, Int.reduceLE, Int.reduceLT, Int.reduceEq, Int.reduceNeg, reduceCtorEq] <;> (try simp [catF]) <;> (try exact fun j _ => Bd_nth (by simp [BdL, Bd]) j) <;> (try exact bd_setL (by simp [bdAs, BdL, Bd])) <;> (try exact nestF_bd _ _ _ _ _ _ _ _ _)); exact fun i j h1 h2 => (pf_pl h1 h2).symm) ?_
        rintro ⟨⟨ver, L, sm, k⟩, c1, c2, c3, c4, c5, c6⟩
        simp only at c1 c2 c3 c4 c5 c6
        simp only [vecL, within_eq, someBad_eq, servedP_eq, soonest_eq, clone_eq, Try.f13, go_sem, ↓reduceIte, Nat.reduceAdd, Nat.reduceSub, Nat.reduceMul, Nat.reduceEqDiff, Nat.reduceLT, Nat.reduceLeDiff, Int.reduceToNat, Int.reduceLE, Int.reduceLT, Int.reduceEq, Int.reduceNeg, reduceCtorEq]
        have hS := nS_le L
        refine ⟨fun e1 => ?_, fun e1 => ?_⟩
        all_goals simp only [decide_eq_true_eq, decide_eq_false_iff_not] at e1
        · have hne : L ≠ [] := fun h => by rw [h] at e1; simp at e1
          obtain ⟨k, rfl⟩ : ∃ k', k = k' + 1 := ⟨k - 1, by omega⟩
          have hm : minW (fun k => wS (Eng.pl L.length (pf L)) k) (pf L) 300 (nS (Eng.pl L.length (pf L))) = minS L 300 := by rw [pl_pf]; rfl
          have hm1 := minS_ge c1 (n := 300) (by omega)
          have hm2 := minS_le L 300
          have hlt := whole_lt hne c2
          rw [hm]
          refine ⟨by omega, ⟨by rw [pl_pf]; omega, fun j hj => by rw [pl_pf] at hj ⊢; exact wS_lt hj⟩, ?_⟩
          unfold callS
          refine calls_mono ?_ (goneS_at c1 ⟨by omega, by omega⟩ _ 0 rfl)
          rintro o h' ⟨v', rfl, rfl⟩
          simp only [within_eq, someBad_eq, servedP_eq, soonest_eq, clone_eq, Try.f13, go_sem, ↓reduceIte, Nat.reduceAdd, Nat.reduceSub, Nat.reduceMul, Nat.reduceEqDiff, Nat.reduceLT, Nat.reduceLeDiff, Int.reduceToNat, Int.reduceLE, Int.reduceLT, Int.reduceEq, Int.reduceNeg, reduceCtorEq]
          have w1 : IntKind.i64.wrap (sm + minS L 300) = sm + minS L 300 := wrap_id (by omega) (by omega)
          simp only [wholeN, if_neg hne] at c3
          refine ⟨⟨(v', goneS (minS L 300) L, sm + minS L 300, k), goneW_ok c1 (by omega) hm2.2, goneW_max (by omega) c2, by simp only []; omega, by simp only []; omega, by simp only []; omega, by simp only []; omega⟩, by simp only []; omega, ?_⟩
          apply sub_of <;> simp only [w1, go_sem, ↓reduceIte, Nat.reduceAdd, Nat.reduceSub, Nat.reduceMul, Nat.reduceEqDiff, Nat.reduceLT, Nat.reduceLeDiff, Int.reduceToNat, Int.reduceLE, Int.reduceLT, Int.reduceEq, Int.reduceNeg, reduceCtorEq] <;> (try simp) <;> (try exact fun j _ => Bd_nth (by simp [BdL, Bd]) j) <;> (try exact bd_setL (by simp [bdAs, BdL, Bd])) <;> (try exact nestF_bd _ _ _ _ _ _ _ _ _)
        · have hne : L = [] := List.length_eq_zero_iff.1 (by omega)
          subst hne
          have : wholeN k [] = 0 := by cases k <;> simp [wholeN]
          rw [← c3, this, Int.add_zero]
    · rw [hw]
      have hin : in3 team 0 1 = false := by simpa using hin
      simp only [hin, within_eq, someBad_eq, servedP_eq, soonest_eq, clone_eq, Try.f13, go_sem, ↓reduceIte, Nat.reduceAdd, Nat.reduceSub, Nat.reduceMul, Nat.reduceEqDiff, Nat.reduceLT, Nat.reduceLeDiff, Int.reduceToNat, Int.reduceLE, Int.reduceLT, Int.reduceEq, Int.reduceNeg, reduceCtorEq]
      exact ⟨fun h => absurd h (by simp), fun _ => trivial⟩
end Go.Eng
end

/- clock: Without. -/
section
namespace Go.Eng
open Go Go.RowKit Go.Proofs
set_option maxRecDepth 100000
set_option maxHeartbeats 4000000
attribute [local irreducible] OwnT DefS
theorem playP_congr {ev ev' : Nat → Ev} {to : Int} : ∀ (k i : Nat) (s : Ga), (∀ j, j < i + k → ev j = ev' j) → playP ev to k i s = playP ev' to k i s
  | 0, i, s, _ => rfl
  | k + 1, i, s, h => by
    have h1 := h i (by omega)
    have h2 : i ≠ 0 → ev (i - 1) = ev' (i - 1) := fun _ => h (i - 1) (by omega)
    have h3 : (i ≠ 0 ∧ (ev i).s < (ev (i - 1)).s) ↔ (i ≠ 0 ∧ (ev' i).s < (ev' (i - 1)).s) := by
      constructor
      · rintro ⟨a, b⟩; rw [h1, h2 a] at b; exact ⟨a, b⟩
      · rintro ⟨a, b⟩; rw [h1, h2 a]; exact ⟨a, b⟩
    simp only [playP, h1, playP_congr k (i + 1) _ (fun j hj => h j (by omega))]
    congr 1
    by_cases q : i ≠ 0 ∧ (ev i).s < (ev (i - 1)).s
    · rw [if_pos (by rw [← h1]; exact q), if_pos (h3.1 q)]
    · rw [if_neg (by rw [← h1]; exact q), if_neg (fun r => q (h3.2 r))]
theorem evN_congr {l l' : Nat → Nat → Int} {n : Nat} (h : ∀ i j, i < n → j < 4 → l i j = l' i j) : ∀ j, j < n → evN l j = evN l' j := fun j hj => by
  simp only [evN, h j 0 hj (by omega), h j 1 hj (by omega), h j 2 hj (by omega), h j 3 hj (by omega)]
theorem plR_congr {l l' : Nat → Nat → Int} {n : Nat} (h : ∀ i j, i < n → j < 4 → l i j = l' i j) : plR n l = plR n l' := by
  unfold plR
  rw [playP_congr n 0 G0 (fun j hj => evN_congr h j (by omega))]
def setK (l : Nat → Nat → Int) (q : Nat) (i j : Nat) : Int := if i = q ∧ j = 0 then 1 else l i j
def wiR (n : Nat) (l : Nat → Nat → Int) (q : Int) : Bo × Int :=
  if (plR n l).2.2 ≠ 0 then (Bo.z, (plR n l).2.2) else if in3 q 0 ((n : Int) - 1) = false then (Bo.z, 2) else if l q.toNat 0 ≠ 2 then (Bo.z, 6) else ((plR n (setK l q.toNat)).1, (plR n (setK l q.toNat)).2.2)
def withoutBase : BaseF := fun args => match args with
  | [.row n sz_l f_l, .int .i64 q] => some ((sz_l = 4 ∧ IntR n 4 f_l) ∧ (n ≤ 1000000), .tup [boS (wiR n (ivf f_l) q).1, .int .i64 (wiR n (ivf f_l) q).2])
  | _ => none
theorem without_eq (n : Nat) (sz_l : Nat) (f_l : Nat → Nat → SV) (q : Int) : withoutBase [.row n sz_l f_l, .int .i64 q] = some ((sz_l = 4 ∧ IntR n 4 f_l) ∧ (n ≤ 1000000), .tup [boS (wiR n (ivf f_l) q).1, .int .i64 (wiR n (ivf f_l) q).2]) := rfl
theorem without_base : NB Try.prog 25 withoutBase := by
  intro args p v hq hp
  unfold withoutBase at hq
  split at hq
  rotate_left
  · cases hq
  rename_i n sz_l f_l q
  cases hq
  obtain ⟨⟨rfl, i_l⟩, pre⟩ := hp
  refine nb_of (C := cx [] [(45, 35, cloneEBase)] [(12, playBase), (32, withinBase)] [] none) (cx_ok ⟨cloneE_base, trivial⟩ ⟨play_base, within_base, trivial⟩) rfl (g := 25) (fn := Try.f25)
    (args' := [.row n 4 (rowF .i64 (ivf f_l)), .int .i64 q]) (fn_25) rfl 1000 (by
    simp only [BdL, Bd, and_self, and_true, true_and]
    exact (fun i j hi hj => by rw [i_l i j hi hj]; trivial)) ⟨SameD.int i_l, SameD.rfl' _, trivial⟩ (by simp only [boS, rowP, Bd, BdL, and_true, implies_true]) ?_
  generalize ivf f_l = l at *
  simp only [rowF_eq]
  simp only [play_eq, within_eq, cloneE_eq, boS, rowP, Try.f25, go_sem, ↓reduceIte, Nat.reduceAdd, Nat.reduceSub, Nat.reduceMul, Nat.reduceEqDiff, Nat.reduceLT, Nat.reduceLeDiff, Int.reduceToNat, Int.reduceLE, Int.reduceLT, Int.reduceEq, Int.reduceNeg, reduceCtorEq]
  have wn : IntKind.i64.wrap ((n : Int) - 1) = (n : Int) - 1 := wrap_id (by omega) (by omega)
  simp only [wn]
  refine ⟨pre, fun e1 => ?_, fun e1 => ⟨fun e2 => ?_, fun e2 => ⟨?_, fun e3 => ?_, fun e3 => ?_⟩⟩⟩
  · have h : wiR n l q = (Bo.z, (plR n l).2.2) := by unfold wiR; rw [if_pos (by simpa using e1)]
    rw [h]
    exact ⟨fun i j h => by omega, SameD.tup ⟨boS_z, SameD.rfl' _, trivial⟩⟩
  · have h : wiR n l q = (Bo.z, 2) := by unfold wiR; rw [if_neg (by simpa using e1), if_pos (by simpa using e2)]
    rw [h]
    exact ⟨fun i j h => by omega, SameD.tup ⟨boS_z, SameD.rfl' _, trivial⟩⟩
  · have := in3_iff.1 (show in3 q 0 ((n : Int) - 1) = true by simpa using e2)
    omega
  · have h : wiR n l q = (Bo.z, 6) := by unfold wiR; rw [if_neg (by simpa using e1), if_neg (by simpa using e2), if_pos (by simpa using e3)]
    rw [h]
    exact ⟨fun i j h => by omega, SameD.tup ⟨boS_z, SameD.rfl' _, trivial⟩⟩
  · have := in3_iff.1 (show in3 q 0 ((n : Int) - 1) = true by simpa using e2)
    have h : wiR n l q = ((plR n (setK l q.toNat)).1, (plR n (setK l q.toNat)).2.2) := by unfold wiR; rw [if_neg (by simpa using e1), if_neg (by simpa using e2), if_neg (by simpa using e3)]
    refine ⟨pre, by omega, by omega, ?_⟩
    have hf : ∀ H : HS, (fun i j => if i = q.toNat ∧ 0 ≤ j ∧ j < 1 then frzF 3 H (nth [.int .i64 1] (j - 0)) else (.int .i64 (l i j) : SV)) = (fun i j => .int .i64 (setK l q.toNat i j)) := fun H => by
      funext i j
      unfold setK
      by_cases hc : i = q.toNat ∧ j = 0
      · obtain ⟨h1, rfl⟩ := hc
        rw [if_pos (by omega), if_pos (by omega)]
        rfl
      · rw [if_neg (by omega), if_neg hc]
    simp only [hf, ivf_lit]
    rw [h]
    exact ⟨⟨fun _ _ _ _ => rfl, pre⟩, ⟨fun _ _ _ _ => trivial, fun _ _ _ _ => trivial, fun _ _ _ _ => trivial, fun _ _ _ _ => trivial⟩, SameD.rfl' _⟩
end Go.Eng
end

/- clock: the reference's small functions. -/
section
namespace Go.Eng
open Go Go.RowKit Go.Proofs
set_option maxRecDepth 100000
set_option maxHeartbeats 4000000
attribute [local irreducible] OwnT DefS
theorem keepL_0 (f : Nat → Nat → Int) : keepL f 0 = [] := rfl
/-- One penalty behind a second. -/
def dec1 (m : Nat) (w : Nat → Int) (f : Nat → Nat → Int) (i : Nat) : Int := if ∃ k, k < m ∧ w k = i then f i 2 - 1 else f i 2
theorem goneW_keep {m : Nat} {w : Nat → Int} {n : Int} {N : Nat} {f : Nat → Nat → Int} : goneW m w n (Eng.pl N f) = keepL (decF m w n f) N := by
  unfold goneW keepL; rw [decW_pl]
theorem dec1_eq {m : Nat} {w : Nat → Int} {f : Nat → Nat → Int} {i : Nat} : decF m w 1 f i 2 = dec1 m w f i := by simp [decF, dec1]
def lessBase : BaseF := fun args => match args with
  | [.row n sz_f f_f, .row m sz_w f_w] => some ((sz_f = 3 ∧ IntR n 3 f_f) ∧ (sz_w = 1 ∧ IntR m 1 f_w) ∧ (n ≤ 1000000 ∧ m ≤ 1000000 ∧ (∀ j k, j < m → k < m → (ivf f_w) j 0 = (ivf f_w) k 0 → j = k) ∧ ∀ i, i < n → 1 ≤ (ivf f_f) i 2 ∧ (ivf f_f) i 2 ≤ 1000), rowP (goneW m (fun k => (ivf f_w) k 0) 1 (Eng.pl n (ivf f_f))))
  | _ => none
theorem less_eq (n : Nat) (sz_f : Nat) (f_f : Nat → Nat → SV) (m : Nat) (sz_w : Nat) (f_w : Nat → Nat → SV) : lessBase [.row n sz_f f_f, .row m sz_w f_w] = some ((sz_f = 3 ∧ IntR n 3 f_f) ∧ (sz_w = 1 ∧ IntR m 1 f_w) ∧ (n ≤ 1000000 ∧ m ≤ 1000000 ∧ (∀ j k, j < m → k < m → (ivf f_w) j 0 = (ivf f_w) k 0 → j = k) ∧ ∀ i, i < n → 1 ≤ (ivf f_f) i 2 ∧ (ivf f_f) i 2 ≤ 1000), rowP (goneW m (fun k => (ivf f_w) k 0) 1 (Eng.pl n (ivf f_f)))) := rfl
theorem less_base : Base Try.prog 43 lessBase := by
  intro args p v hq hp
  unfold lessBase at hq
  split at hq
  rotate_left
  · cases hq
  rename_i n sz_f f_f m sz_w f_w
  cases hq
  obtain ⟨⟨rfl, i_f⟩, ⟨rfl, i_w⟩, pre⟩ := hp
  refine baseF_of (C := cx [] [] [] [] none) (cx_ok trivial trivial) rfl (g := 43) (fn := Try.f43)
    (args' := [.row n 3 (rowF .i64 (ivf f_f)), .row m 1 (rowF .i64 (ivf f_w))]) (fn_43) rfl 1000 (by
    simp only [BdL, Bd, and_self, and_true, true_and]
    exact ⟨(fun i j hi hj => by rw [i_f i j hi hj]; trivial), (fun i j hi hj => by rw [i_w i j hi hj]; trivial)⟩) ⟨SameD.int i_f, SameD.int i_w, trivial⟩ ?_
  generalize ivf f_f = f at *
  generalize ivf f_w = w at *
  simp only [rowF_eq]
  simp only [rowP, Try.f43, go_sem, ↓reduceIte, Nat.reduceAdd, Nat.reduceSub, Nat.reduceMul, Nat.reduceEqDiff, Nat.reduceLT, Nat.reduceLeDiff, Int.reduceToNat, Int.reduceLE, Int.reduceLT, Int.reduceEq, Int.reduceNeg, reduceCtorEq]
  obtain ⟨hn, hm, inj, hf⟩ := pre
  rw [goneW_keep]
  refine loop_of { x : Nat × Nat // x.1 ≤ n } (fun x => [(6, .int .i64 (x.1.1 : Int)), (5, .vec 1 x.1.2), (1, .row m 1 (fun i j => .int .i64 (w i j))), (0, .row n 3 (fun i j => .int .i64 (f i j)))]) (fun x => ⟨[], [.dead, .live x.1.2 55 3 (keepL (decF m (fun k => w k 0) 1 f) x.1.1).length (fun i j => .int .i64 (pf (keepL (decF m (fun k => w k 0) 1 f) x.1.1) i j))]⟩) (fun x => n - x.1.1) (fun _ => ⟨rfl, rfl⟩) ⟨(0, 0), by omega⟩ (by rw [keepL_0]; (apply sub_of <;> simp only [go_sem, ↓reduceIte, Nat.reduceAdd, Nat.reduceSub, Nat.reduceMul, Nat.reduceEqDiff, Nat.reduceLT, Nat.reduceLeDiff, Int.reduceToNat, Int.reduceLE, Int.reduceLT, Int.reduceEq, Int.reduceNeg, reduceCtorEq] <;> (try simp [catF]) <;> (try exact fun j _ => Bd_nth (by simp [BdL, Bd]) j) <;> (try exact bd_setL (by simp [bdAs, BdL, Bd])) <;> (try exact nestF_bd _ _ _ _ _ _ _ _ _))) ?_
  rintro ⟨⟨i, v⟩, hi⟩
  simp only at hi
  simp only [rowP, Try.f43, go_sem, ↓reduceIte, Nat.reduceAdd, Nat.reduceSub, Nat.reduceMul, Nat.reduceEqDiff, Nat.reduceLT, Nat.reduceLeDiff, Int.reduceToNat, Int.reduceLE, Int.reduceLT, Int.reduceEq, Int.reduceNeg, reduceCtorEq]
  have hw3 : ∀ i : Nat, i ≤ 1000000 → IntKind.i64.wrap ((i : Int) + 1) = ((i + 1 : Nat) : Int) := fun i h => by rw [wrap_id (by omega) (by omega)]; omega
  refine ⟨fun e1 => ?_, fun e1 => ?_⟩
  all_goals simp only [decide_eq_true_eq, decide_eq_false_iff_not] at e1
  · have hfi := hf i (by omega)
    refine ⟨⟨by omega, by omega⟩, ?_⟩
    refine loop_of { k : Nat // k ≤ m } (fun k => [(8, .int .i64 (k.1 : Int)), (7, .ptr 0 0), (6, .int .i64 (i : Int)), (5, .vec 1 v), (1, .row m 1 (fun i j => .int .i64 (w i j))), (0, .row n 3 (fun i j => .int .i64 (f i j)))]) (fun k => ⟨[.live 55 [.int .i64 (f i 0), .int .i64 (f i 1), .int .i64 (dec1 k.1 (fun k => w k 0) f i)]], [.dead, .live v 55 3 (keepL (decF m (fun k => w k 0) 1 f) i).length (fun a j => .int .i64 (pf (keepL (decF m (fun k => w k 0) 1 f) i) a j))]⟩) (fun k => m - k.1) (fun _ => ⟨rfl, rfl⟩) ⟨0, by omega⟩ (by simp only [dec1]; (apply sub_of <;> simp only [go_sem, ↓reduceIte, Nat.reduceAdd, Nat.reduceSub, Nat.reduceMul, Nat.reduceEqDiff, Nat.reduceLT, Nat.reduceLeDiff, Int.reduceToNat, Int.reduceLE, Int.reduceLT, Int.reduceEq, Int.reduceNeg, reduceCtorEq] <;> (try simp [catF]) <;> (try exact fun j _ => Bd_nth (by simp [BdL, Bd]) j) <;> (try exact bd_setL (by simp [bdAs, BdL, Bd])) <;> (try exact nestF_bd _ _ _ _ _ _ _ _ _))) ?_
    rintro ⟨k, hk⟩
    simp only [rowP, Try.f43, go_sem, ↓reduceIte, Nat.reduceAdd, Nat.reduceSub, Nat.reduceMul, Nat.reduceEqDiff, Nat.reduceLT, Nat.reduceLeDiff, Int.reduceToNat, Int.reduceLE, Int.reduceLT, Int.reduceEq, Int.reduceNeg, reduceCtorEq]
    have inj1 : k < m → ∀ j q, j < k + 1 → q < k + 1 → (fun k => w k 0) j = (fun k => w k 0) q → j = q := fun hk1 j q h1 h2 => inj j q (by omega) (by omega)
    have hb1 : f i 2 - 1 ≤ dec1 k (fun k => w k 0) f i ∧ dec1 k (fun k => w k 0) f i ≤ f i 2 := by unfold dec1; split <;> omega
    refine ⟨fun e2 => ⟨by simp only [decide_eq_true_eq] at e2; omega, fun e3 => ?_, fun e3 => ?_⟩, fun e2 => ⟨fun e3 => ⟨?_, ?_⟩, fun e3 => ?_⟩⟩
    all_goals simp only [decide_eq_true_eq, decide_eq_false_iff_not] at e2
    · simp only [decide_eq_true_eq] at e3
      have a1 : dec1 k (fun k => w k 0) f i = f i 2 := by rw [← dec1_eq]; exact decF_new (inj1 (by omega)) e3 2
      have a2 : dec1 (k + 1) (fun k => w k 0) f i = f i 2 - 1 := by rw [← dec1_eq, decF_succ (inj1 (by omega)), if_pos ⟨rfl, e3⟩]
      have w1 : IntKind.i64.wrap (dec1 k (fun k => w k 0) f i - 1) = f i 2 - 1 := by rw [a1, wrap_id (by omega) (by omega)]
      refine ⟨⟨k + 1, by omega⟩, by simp only []; omega, ?_⟩
      apply sub_of <;> simp only [hw3 k (by omega), a2, w1, go_sem, ↓reduceIte, Nat.reduceAdd, Nat.reduceSub, Nat.reduceMul, Nat.reduceEqDiff, Nat.reduceLT, Nat.reduceLeDiff, Int.reduceToNat, Int.reduceLE, Int.reduceLT, Int.reduceEq, Int.reduceNeg, reduceCtorEq] <;> (try simp) <;> (try exact fun j _ => Bd_nth (by simp [BdL, Bd]) j) <;> (try exact bd_setL (by simp [bdAs, BdL, Bd])) <;> (try exact nestF_bd _ _ _ _ _ _ _ _ _)
    · simp only [decide_eq_false_iff_not] at e3
      have a2 : dec1 (k + 1) (fun k => w k 0) f i = dec1 k (fun k => w k 0) f i := by rw [← dec1_eq, ← dec1_eq, decF_succ (inj1 (by omega)), if_neg (fun q => e3 q.2)]
      refine ⟨⟨k + 1, by omega⟩, by simp only []; omega, ?_⟩
      apply sub_of <;> simp only [hw3 k (by omega), a2, go_sem, ↓reduceIte, Nat.reduceAdd, Nat.reduceSub, Nat.reduceMul, Nat.reduceEqDiff, Nat.reduceLT, Nat.reduceLeDiff, Int.reduceToNat, Int.reduceLE, Int.reduceLT, Int.reduceEq, Int.reduceNeg, reduceCtorEq] <;> (try simp) <;> (try exact fun j _ => Bd_nth (by simp [BdL, Bd]) j) <;> (try exact bd_setL (by simp [bdAs, BdL, Bd])) <;> (try exact nestF_bd _ _ _ _ _ _ _ _ _)
    · have := keepL_len (decF m (fun k => w k 0) 1 f) i
      omega
    · simp only [decide_eq_true_eq] at e3
      obtain rfl : k = m := by omega
      have hd : decF k (fun k => w k 0) 1 f i 2 = dec1 k (fun k => w k 0) f i := dec1_eq
      have hpn : pn (decF k (fun k => w k 0) 1 f) i = ⟨f i 0, f i 1, dec1 k (fun k => w k 0) f i⟩ := by simp only [pn, hd]; simp [decF]
      have hks : keepL (decF k (fun k => w k 0) 1 f) (i + 1) = keepL (decF k (fun k => w k 0) 1 f) i ++ [⟨f i 0, f i 1, dec1 k (fun k => w k 0) f i⟩] := by rw [keepL_succ, if_neg (by omega), hpn]
      refine ⟨⟨(i + 1, v + 1), by omega⟩, by simp only []; omega, ?_⟩
      apply sub_of <;> simp only [hw3 i (by omega), hks, go_sem, ↓reduceIte, Nat.reduceAdd, Nat.reduceSub, Nat.reduceMul, Nat.reduceEqDiff, Nat.reduceLT, Nat.reduceLeDiff, Int.reduceToNat, Int.reduceLE, Int.reduceLT, Int.reduceEq, Int.reduceNeg, reduceCtorEq] <;> (try simp) <;> (try exact fun j _ => Bd_nth (by simp [BdL, Bd]) j) <;> (try exact bd_setL (by simp [bdAs, BdL, Bd])) <;> (try exact nestF_bd _ _ _ _ _ _ _ _ _)
      exact (isPen_snoc (isPen_id _)).2
    · simp only [decide_eq_false_iff_not] at e3
      obtain rfl : k = m := by omega
      have hd : decF k (fun k => w k 0) 1 f i 2 = dec1 k (fun k => w k 0) f i := dec1_eq
      have hks : keepL (decF k (fun k => w k 0) 1 f) (i + 1) = keepL (decF k (fun k => w k 0) 1 f) i := by rw [keepL_succ, if_pos (by omega)]
      refine ⟨⟨(i + 1, v), by omega⟩, by simp only []; omega, ?_⟩
      apply sub_of <;> simp only [hw3 i (by omega), hks, go_sem, ↓reduceIte, Nat.reduceAdd, Nat.reduceSub, Nat.reduceMul, Nat.reduceEqDiff, Nat.reduceLT, Nat.reduceLeDiff, Int.reduceToNat, Int.reduceLE, Int.reduceLT, Int.reduceEq, Int.reduceNeg, reduceCtorEq] <;> (try simp) <;> (try exact fun j _ => Bd_nth (by simp [BdL, Bd]) j) <;> (try exact bd_setL (by simp [bdAs, BdL, Bd])) <;> (try exact nestF_bd _ _ _ _ _ _ _ _ _)
  · obtain rfl : i = n := by omega
    exact ⟨rfl, fun _ _ _ _ => rfl⟩
def moreBase : BaseF := fun args => match args with
  | [.row n sz_f f_f, .agg [.int .i64 a, .int .i64 k, .int .i64 l]] => some ((sz_f = 3 ∧ IntR n 3 f_f) ∧ (n ≤ 1000000), rowP (Eng.pl n (ivf f_f) ++ [⟨a, k, l⟩]))
  | _ => none
theorem more_eq (n : Nat) (sz_f : Nat) (f_f : Nat → Nat → SV) (a : Int) (k : Int) (l : Int) : moreBase [.row n sz_f f_f, .agg [.int .i64 a, .int .i64 k, .int .i64 l]] = some ((sz_f = 3 ∧ IntR n 3 f_f) ∧ (n ≤ 1000000), rowP (Eng.pl n (ivf f_f) ++ [⟨a, k, l⟩])) := rfl
theorem more_base : Base Try.prog 68 moreBase := by
  intro args p v hq hp
  unfold moreBase at hq
  split at hq
  rotate_left
  · cases hq
  rename_i n sz_f f_f a k l
  cases hq
  obtain ⟨⟨rfl, i_f⟩, pre⟩ := hp
  refine baseF_of (C := cx [] [] [] [(68, 1, p68_1)] none) (cx_ok trivial trivial) rfl (g := 68) (fn := Try.f68)
    (args' := [.row n 3 (rowF .i64 (ivf f_f)), .agg [.int .i64 a, .int .i64 k, .int .i64 l]]) (fn_68) rfl 1000 (by
    simp only [BdL, Bd, and_self, and_true, true_and]
    exact (fun i j hi hj => by rw [i_f i j hi hj]; trivial)) ⟨SameD.int i_f, SameD.rfl' _, trivial⟩ ?_
  generalize ivf f_f = f at *
  simp only [rowF_eq]
  simp only [p68_1, rowP, Try.f68, go_sem, ↓reduceIte, Nat.reduceAdd, Nat.reduceSub, Nat.reduceMul, Nat.reduceEqDiff, Nat.reduceLT, Nat.reduceLeDiff, Int.reduceToNat, Int.reduceLE, Int.reduceLT, Int.reduceEq, Int.reduceNeg, reduceCtorEq]
  refine ⟨⟨by kernel_rfl, by kernel_rfl⟩, by omega, by omega, by simp [pl_len], fun i j hi hj => ?_⟩
  simp only [List.length_append, pl_len, List.length_singleton] at hi
  rw [pf_app, pl_len]
  by_cases h : i < n
  · simp only [catF, if_pos h, pf_pl h hj, Nat.not_lt_zero, if_false, Nat.sub_zero]
  · obtain rfl : i = n := by omega
    simp only [catF, if_neg h, Nat.sub_self]
    have : j = 0 ∨ j = 1 ∨ j = 2 := by omega
    rcases this with rfl | rfl | rfl <;> rfl
end Go.Eng
end

/- clock: the reference's second. -/
section
namespace Go.Eng
open Go Go.RowKit Go.Proofs
set_option maxRecDepth 100000
set_option maxHeartbeats 4000000
attribute [local irreducible] OwnT DefS
def secondBase : BaseF := fun args => match args with
  | [.agg [.int .i64 per, .int .i64 pd, .bool run, .int .i64 g0, .int .i64 g1, .row n0 sz_a0 f_a0, .row n1 sz_a1 f_a1, .row n2 sz_b0 f_b0, .row n3 sz_b1 f_b1]] => some ((sz_a0 = 3 ∧ IntR n0 3 f_a0) ∧ (sz_a1 = 3 ∧ IntR n1 3 f_a1) ∧ (sz_b0 = 3 ∧ IntR n2 3 f_b0) ∧ (sz_b1 = 3 ∧ IntR n3 3 f_b1) ∧ (Bo.Ok ⟨per, pd, run, g0, g1, Eng.pl n0 (ivf f_a0), Eng.pl n1 (ivf f_a1), Eng.pl n2 (ivf f_b0), Eng.pl n3 (ivf f_b1)⟩ ∧ run = true), boS (Bo.pass 1 ⟨per, pd, run, g0, g1, Eng.pl n0 (ivf f_a0), Eng.pl n1 (ivf f_a1), Eng.pl n2 (ivf f_b0), Eng.pl n3 (ivf f_b1)⟩))
  | _ => none
theorem second_eq (per : Int) (pd : Int) (run : Bool) (g0 : Int) (g1 : Int) (n0 : Nat) (sz_a0 : Nat) (f_a0 : Nat → Nat → SV) (n1 : Nat) (sz_a1 : Nat) (f_a1 : Nat → Nat → SV) (n2 : Nat) (sz_b0 : Nat) (f_b0 : Nat → Nat → SV) (n3 : Nat) (sz_b1 : Nat) (f_b1 : Nat → Nat → SV) : secondBase [.agg [.int .i64 per, .int .i64 pd, .bool run, .int .i64 g0, .int .i64 g1, .row n0 sz_a0 f_a0, .row n1 sz_a1 f_a1, .row n2 sz_b0 f_b0, .row n3 sz_b1 f_b1]] = some ((sz_a0 = 3 ∧ IntR n0 3 f_a0) ∧ (sz_a1 = 3 ∧ IntR n1 3 f_a1) ∧ (sz_b0 = 3 ∧ IntR n2 3 f_b0) ∧ (sz_b1 = 3 ∧ IntR n3 3 f_b1) ∧ (Bo.Ok ⟨per, pd, run, g0, g1, Eng.pl n0 (ivf f_a0), Eng.pl n1 (ivf f_a1), Eng.pl n2 (ivf f_b0), Eng.pl n3 (ivf f_b1)⟩ ∧ run = true), boS (Bo.pass 1 ⟨per, pd, run, g0, g1, Eng.pl n0 (ivf f_a0), Eng.pl n1 (ivf f_a1), Eng.pl n2 (ivf f_b0), Eng.pl n3 (ivf f_b1)⟩)) := rfl
theorem second_base : NB Try.prog 66 secondBase := by
  intro args p v hq hp
  unfold secondBase at hq
  split at hq
  rotate_left
  · cases hq
  rename_i per pd run g0 g1 n0 sz_a0 f_a0 n1 sz_a1 f_a1 n2 sz_b0 f_b0 n3 sz_b1 f_b1
  cases hq
  obtain ⟨⟨rfl, i_a0⟩, ⟨rfl, i_a1⟩, ⟨rfl, i_b0⟩, ⟨rfl, i_b1⟩, pre⟩ := hp
  refine nb_of (C := cx [] [] [(22, servedRBase), (43, lessBase), (69, allRBase)] [(66, 5, p66_5), (66, 6, p66_6)] none) (cx_ok trivial ⟨servedR_base, less_base, allR_base, trivial⟩) rfl (g := 66) (fn := Try.f66)
    (args' := [.agg [.int .i64 per, .int .i64 pd, .bool run, .int .i64 g0, .int .i64 g1, .row n0 3 (rowF .i64 (ivf f_a0)), .row n1 3 (rowF .i64 (ivf f_a1)), .row n2 3 (rowF .i64 (ivf f_b0)), .row n3 3 (rowF .i64 (ivf f_b1))]]) (fn_66) rfl 1000 (by
    simp only [BdL, Bd, and_self, and_true, true_and]
    exact ⟨(fun i j hi hj => by rw [i_a0 i j hi hj]; trivial), (fun i j hi hj => by rw [i_a1 i j hi hj]; trivial), (fun i j hi hj => by rw [i_b0 i j hi hj]; trivial), (fun i j hi hj => by rw [i_b1 i j hi hj]; trivial)⟩) ⟨SameD.agg ⟨SameD.rfl' _, SameD.rfl' _, SameD.rfl' _, SameD.rfl' _, SameD.rfl' _, SameD.int i_a0, SameD.int i_a1, SameD.int i_b0, SameD.int i_b1, trivial⟩, trivial⟩ (by simp only [boS, rowP, Bd, BdL, and_true, implies_true]) ?_
  generalize ivf f_a0 = a0 at *
  generalize ivf f_a1 = a1 at *
  generalize ivf f_b0 = b0 at *
  generalize ivf f_b1 = b1 at *
  simp only [rowF_eq]
  simp only [servedR_eq, less_eq, allR_eq, p66_5, p66_6, boS, rowP, Try.f66, go_sem, ↓reduceIte, Nat.reduceAdd, Nat.reduceSub, Nat.reduceMul, Nat.reduceEqDiff, Nat.reduceLT, Nat.reduceLeDiff, Int.reduceToNat, Int.reduceLE, Int.reduceLT, Int.reduceEq, Int.reduceNeg, reduceCtorEq]
  obtain ⟨hOk, rfl⟩ := pre
  have hpl := hOk.run rfl
  have hpl0 := hOk.pl
  simp only at hpl hpl0
  have w1 : IntKind.i64.wrap (pd + 1) = pd + 1 := wrap_id (by omega) (by omega)
  rw [w1]
  have o0 := hOk.p0
  have o1 := hOk.p1
  have o2 := hOk.m0
  have o3 := hOk.m1
  simp only at o0 o1 o2 o3
  have lq : ∀ {n : Nat} {f : Nat → Nat → Int}, lOk (Eng.pl n f) → n ≤ 100000 ∧ ∀ i, i < n → 1 ≤ f i 2 ∧ f i 2 ≤ 1000 := fun {n f} h => by
    have h1 := h.1
    rw [pl_len] at h1
    refine ⟨h1, fun i hi => ?_⟩
    have := lOk_pf h (i := i) (by rw [pl_len]; exact hi)
    rw [pf_pl hi (by omega)] at this
    exact this
  obtain ⟨n0l, f0l⟩ := lq o0
  obtain ⟨n1l, f1l⟩ := lq o1
  obtain ⟨n2l, f2l⟩ := lq o2
  obtain ⟨n3l, f3l⟩ := lq o3
  have sw : ∀ (n : Nat) (f : Nat → Nat → Int), n ≤ 100000 → nS (Eng.pl n f) ≤ 1000000 ∧ (∀ j k, j < nS (Eng.pl n f) → k < nS (Eng.pl n f) → wS (Eng.pl n f) j = wS (Eng.pl n f) k → j = k) := fun n f _ => ⟨by have := nS_le (Eng.pl n f); omega, fun j k h1 h2 h3 => wS_inj h1 h2 h3⟩
  refine loop_of { t : Nat // t ≤ 2 } (fun t => [(3, .int .i64 (t.1 : Int)), (2, .ptr 1 0), (1, .ptr 0 0)])
    (fun t => ⟨[.live 28 [.int .i64 per, .int .i64 (pd + 1), .bool true, .int .i64 g0, .int .i64 g1, rowP (gT goneS 1 0 t.1 (Eng.pl n0 a0)), rowP (gT goneS 1 1 t.1 (Eng.pl n1 a1)), rowP (gT goneM 1 0 t.1 (Eng.pl n2 b0)), rowP (gT goneM 1 1 t.1 (Eng.pl n3 b1))], .live 28 [.int .i64 0, .int .i64 0, .bool false, .int .i64 0, .int .i64 0, .vec 0 0, .vec 1 0, .vec 2 0, .vec 3 0]], [.live 0 55 3 0 (fun _ _ => .any), .live 0 55 3 0 (fun _ _ => .any), .live 0 55 3 0 (fun _ _ => .any), .live 0 55 3 0 (fun _ _ => .any)]⟩) (fun t => 2 - t.1) (fun _ => ⟨rfl, rfl⟩) ⟨0, by omega⟩ (by simp only [gT_0, rowP, pl_len]; (apply sub_of <;> simp only [go_sem, ↓reduceIte, Nat.reduceAdd, Nat.reduceSub, Nat.reduceMul, Nat.reduceEqDiff, Nat.reduceLT, Nat.reduceLeDiff, Int.reduceToNat, Int.reduceLE, Int.reduceLT, Int.reduceEq, Int.reduceNeg, reduceCtorEq] <;> (try simp [catF]) <;> (try exact fun j _ => Bd_nth (by simp [BdL, Bd]) j) <;> (try exact bd_setL (by simp [bdAs, BdL, Bd])) <;> (try exact nestF_bd _ _ _ _ _ _ _ _ _)); exact ⟨fun i j h1 h2 => (pf_pl h1 h2).symm, fun i j h1 h2 => (pf_pl h1 h2).symm, fun i j h1 h2 => (pf_pl h1 h2).symm, fun i j h1 h2 => (pf_pl h1 h2).symm⟩) ?_
  clear f0l f1l f2l f3l
  have r0 : (Eng.pl n0 a0).length ≤ 100000 := o0.1
  have r1 : (Eng.pl n1 a1).length ≤ 100000 := o1.1
  have r2 : (Eng.pl n2 b0).length ≤ 100000 := o2.1
  have r3 : (Eng.pl n3 b1).length ≤ 100000 := o3.1
  generalize Eng.pl n0 a0 = P0 at *
  generalize Eng.pl n1 a1 = P1 at *
  generalize Eng.pl n2 b0 = M0 at *
  generalize Eng.pl n3 b1 = M1 at *
  have sv : ∀ l : List Pen, lOk l → l.length ≤ 1000000 ∧ (l.length ≤ 1000000 ∧ nS (Eng.pl l.length (pf l)) ≤ 1000000 ∧ (∀ (j k : Nat), j < nS (Eng.pl l.length (pf l)) → k < nS (Eng.pl l.length (pf l)) → wS (Eng.pl l.length (pf l)) j = wS (Eng.pl l.length (pf l)) k → j = k) ∧ ∀ (i : Nat), i < l.length → 1 ≤ pf l i 2 ∧ pf l i 2 ≤ 1000) := fun l h => by
    have h1 := h.1
    have h2 := nS_le l
    rw [pl_pf]
    exact ⟨by omega, by omega, by omega, fun j k h1 h2 h3 => wS_inj h1 h2 h3, fun i hi => lOk_pf h hi⟩
  have mv : ∀ l : List Pen, lOk l → l.length ≤ 1000000 ∧ (l.length ≤ 1000000 ∧ l.length ≤ 1000000 ∧ (∀ (j k : Nat), j < l.length → k < l.length → (j : Int) = (k : Int) → j = k) ∧ ∀ (i : Nat), i < l.length → 1 ≤ pf l i 2 ∧ pf l i 2 ≤ 1000) := fun l h => by
    have h1 := h.1
    exact ⟨by omega, by omega, by omega, fun j k h1 h2 h3 => by omega, fun i hi => lOk_pf h hi⟩
  rintro ⟨t, ht⟩
  obtain rfl | rfl | rfl : t = 0 ∨ t = 1 ∨ t = 2 := by omega
  · simp only [gT_0, servedR_eq, less_eq, allR_eq, p66_5, p66_6, boS, rowP, Try.f66, go_sem, ↓reduceIte, Nat.reduceAdd, Nat.reduceSub, Nat.reduceMul, Nat.reduceEqDiff, Nat.reduceLT, Nat.reduceLeDiff, Int.reduceToNat, Int.reduceLE, Int.reduceLT, Int.reduceEq, Int.reduceNeg, reduceCtorEq]
    refine ⟨fun _ => ⟨⟨by kernel_rfl, by kernel_rfl⟩, by omega, by omega, (sv _ o0).1, (sv _ o0).2, by omega, ⟨by kernel_rfl, by kernel_rfl⟩, by omega, by omega, (mv _ o2).1, (mv _ o2).2, by omega, ⟨1, by omega⟩, by simp only []; omega, ?_⟩, fun h => absurd h (by simp)⟩
    apply sub_of <;> simp only [gT_01, gT_11, rowP, goneS, goneM, pl_pf, go_sem, ↓reduceIte, Nat.reduceAdd, Nat.reduceSub, Nat.reduceMul, Nat.reduceEqDiff, Nat.reduceLT, Nat.reduceLeDiff, Int.reduceToNat, Int.reduceLE, Int.reduceLT, Int.reduceEq, Int.reduceNeg, reduceCtorEq] <;> (try simp) <;> (try exact fun j _ => Bd_nth (by simp [BdL, Bd]) j) <;> (try exact bd_setL (by simp [bdAs, BdL, Bd])) <;> (try exact nestF_bd _ _ _ _ _ _ _ _ _)
    try rfl
  · simp only [gT_01, gT_11, servedR_eq, less_eq, allR_eq, p66_5, p66_6, boS, rowP, Try.f66, go_sem, ↓reduceIte, Nat.reduceAdd, Nat.reduceSub, Nat.reduceMul, Nat.reduceEqDiff, Nat.reduceLT, Nat.reduceLeDiff, Int.reduceToNat, Int.reduceLE, Int.reduceLT, Int.reduceEq, Int.reduceNeg, reduceCtorEq]
    refine ⟨fun _ => ⟨⟨by kernel_rfl, by kernel_rfl⟩, by omega, by omega, (sv _ o1).1, (sv _ o1).2, by omega, ⟨by kernel_rfl, by kernel_rfl⟩, by omega, by omega, (mv _ o3).1, (mv _ o3).2, by omega, ⟨2, by omega⟩, by simp only []; omega, ?_⟩, fun h => absurd h (by simp)⟩
    apply sub_of <;> simp only [gT_02, gT_12, rowP, goneS, goneM, pl_pf, go_sem, ↓reduceIte, Nat.reduceAdd, Nat.reduceSub, Nat.reduceMul, Nat.reduceEqDiff, Nat.reduceLT, Nat.reduceLeDiff, Int.reduceToNat, Int.reduceLE, Int.reduceLT, Int.reduceEq, Int.reduceNeg, reduceCtorEq] <;> (try simp) <;> (try exact fun j _ => Bd_nth (by simp [BdL, Bd]) j) <;> (try exact bd_setL (by simp [bdAs, BdL, Bd])) <;> (try exact nestF_bd _ _ _ _ _ _ _ _ _)
    try rfl
  · simp only [gT_02, gT_12, servedR_eq, less_eq, allR_eq, p66_5, p66_6, boS, rowP, Try.f66, go_sem, ↓reduceIte, Nat.reduceAdd, Nat.reduceSub, Nat.reduceMul, Nat.reduceEqDiff, Nat.reduceLT, Nat.reduceLeDiff, Int.reduceToNat, Int.reduceLE, Int.reduceLT, Int.reduceEq, Int.reduceNeg, reduceCtorEq]
    refine ⟨fun h => absurd h (by simp), fun _ => ⟨fun e1 => ?_, fun e1 => ?_⟩⟩
    all_goals simp only [decide_eq_true_eq, decide_eq_false_iff_not] at e1
    · have hq : decide (pd + 1 < 1200) = false := decide_eq_false (by omega)
      simp only [Bo.pass, hq]
      exact ⟨⟨fun _ _ _ _ => trivial, fun _ _ _ _ => trivial, fun _ _ _ _ => trivial, fun _ _ _ _ => trivial⟩, SameD.rfl' _⟩
    · have hq : decide (pd + 1 < 1200) = true := decide_eq_true (by omega)
      simp only [Bo.pass, hq]
      exact ⟨⟨fun _ _ _ _ => trivial, fun _ _ _ _ => trivial, fun _ _ _ _ => trivial, fun _ _ _ _ => trivial⟩, SameD.rfl' _⟩
end Go.Eng
end

/- clock: the reference's goal. -/
section
namespace Go.Eng
open Go Go.RowKit Go.Proofs
set_option maxRecDepth 100000
set_option maxHeartbeats 4000000
attribute [local irreducible] OwnT DefS
theorem SameD.penL {n : Nat} {f : Nat → Nat → SV} (h : IntR n 3 f) : SameD (.row n 3 f) (.row (Eng.pl n (ivf f)).length 3 (fun i j => .int .i64 (pf (Eng.pl n (ivf f)) i j))) := by
  rw [pl_len]
  refine SameD.rowD fun i j hi hj => ?_
  rw [h i j hi hj, pf_pl hi hj]
  exact SameD.rfl' _
theorem isPen_erase2 {l : List Pen} {w : Int} (hw : 0 ≤ w ∧ w < l.length) : isPen (l.eraseIdx w.toNat) (w.toNat + (l.length - (w + 1).toNat)) (catF w.toNat (catF 0 (fun _ _ => .any) (fun a c => .int .i64 (pf l a c))) (fun a c => .int .i64 (pf l ((w + 1).toNat + a) c))) := by
  have h := isPen_erase hw
  rw [Nat.sub_zero] at h
  refine ⟨h.1, fun i j hi hj => ?_⟩
  rw [← h.2 i j hi hj]
  unfold catF
  split <;> simp
def goalRfBase : BaseF := fun args => match args with
  | [.agg [.int .i64 per, .int .i64 pd, .bool run, .int .i64 g0, .int .i64 g1, .row n_P0 sz_P0 f_P0, .row n_P1 sz_P1 f_P1, .row n_M0 sz_M0 f_M0, .row n_M1 sz_M1 f_M1], .int .i64 t] => some ((sz_P0 = 3 ∧ IntR n_P0 3 f_P0) ∧ (sz_P1 = 3 ∧ IntR n_P1 3 f_P1) ∧ (sz_M0 = 3 ∧ IntR n_M0 3 f_M0) ∧ (sz_M1 = 3 ∧ IntR n_M1 3 f_M1) ∧ (Bo.Ok ⟨per, pd, run, g0, g1, (Eng.pl n_P0 (ivf f_P0)), (Eng.pl n_P1 (ivf f_P1)), (Eng.pl n_M0 (ivf f_M0)), (Eng.pl n_M1 (ivf f_M1))⟩ ∧ run = true ∧ (t = 0 ∨ t = 1)), boS (Bo.goal ⟨per, pd, run, g0, g1, (Eng.pl n_P0 (ivf f_P0)), (Eng.pl n_P1 (ivf f_P1)), (Eng.pl n_M0 (ivf f_M0)), (Eng.pl n_M1 (ivf f_M1))⟩ t).1)
  | _ => none
theorem goalRf_eq (per : Int) (pd : Int) (run : Bool) (g0 : Int) (g1 : Int) (n_P0 : Nat) (sz_P0 : Nat) (f_P0 : Nat → Nat → SV) (n_P1 : Nat) (sz_P1 : Nat) (f_P1 : Nat → Nat → SV) (n_M0 : Nat) (sz_M0 : Nat) (f_M0 : Nat → Nat → SV) (n_M1 : Nat) (sz_M1 : Nat) (f_M1 : Nat → Nat → SV) (t : Int) : goalRfBase [.agg [.int .i64 per, .int .i64 pd, .bool run, .int .i64 g0, .int .i64 g1, .row n_P0 sz_P0 f_P0, .row n_P1 sz_P1 f_P1, .row n_M0 sz_M0 f_M0, .row n_M1 sz_M1 f_M1], .int .i64 t] = some ((sz_P0 = 3 ∧ IntR n_P0 3 f_P0) ∧ (sz_P1 = 3 ∧ IntR n_P1 3 f_P1) ∧ (sz_M0 = 3 ∧ IntR n_M0 3 f_M0) ∧ (sz_M1 = 3 ∧ IntR n_M1 3 f_M1) ∧ (Bo.Ok ⟨per, pd, run, g0, g1, (Eng.pl n_P0 (ivf f_P0)), (Eng.pl n_P1 (ivf f_P1)), (Eng.pl n_M0 (ivf f_M0)), (Eng.pl n_M1 (ivf f_M1))⟩ ∧ run = true ∧ (t = 0 ∨ t = 1)), boS (Bo.goal ⟨per, pd, run, g0, g1, (Eng.pl n_P0 (ivf f_P0)), (Eng.pl n_P1 (ivf f_P1)), (Eng.pl n_M0 (ivf f_M0)), (Eng.pl n_M1 (ivf f_M1))⟩ t).1) := rfl
theorem goalRf_base : NB Try.prog 67 goalRfBase := by
  intro args p v hq hp
  unfold goalRfBase at hq
  split at hq
  rotate_left
  · cases hq
  rename_i per pd run g0 g1 n_P0 sz_P0 f_P0 n_P1 sz_P1 f_P1 n_M0 sz_M0 f_M0 n_M1 sz_M1 f_M1 t
  cases hq
  obtain ⟨⟨rfl, i_P0⟩, ⟨rfl, i_P1⟩, ⟨rfl, i_M0⟩, ⟨rfl, i_M1⟩, pre⟩ := hp
  refine nb_of (C := cx [] [] [(22, servedRBase), (65, strengthRBase)] [(67, 5, p67_5), (67, 13, p67_13)] none) (cx_ok trivial ⟨servedR_base, strengthR_base, trivial⟩) rfl (g := 67) (fn := Try.f67)
    (args' := [.agg [.int .i64 per, .int .i64 pd, .bool run, .int .i64 g0, .int .i64 g1, .row (Eng.pl n_P0 (ivf f_P0)).length 3 (fun i j => .int .i64 (pf (Eng.pl n_P0 (ivf f_P0)) i j)), .row (Eng.pl n_P1 (ivf f_P1)).length 3 (fun i j => .int .i64 (pf (Eng.pl n_P1 (ivf f_P1)) i j)), .row (Eng.pl n_M0 (ivf f_M0)).length 3 (fun i j => .int .i64 (pf (Eng.pl n_M0 (ivf f_M0)) i j)), .row (Eng.pl n_M1 (ivf f_M1)).length 3 (fun i j => .int .i64 (pf (Eng.pl n_M1 (ivf f_M1)) i j))], .int .i64 t]) (fn_67) rfl 1000 (by
    simp only [BdL, Bd, and_self, and_true, true_and]
    exact ⟨(fun i j hi hj => by rw [i_P0 i j hi hj]; trivial), (fun i j hi hj => by rw [i_P1 i j hi hj]; trivial), (fun i j hi hj => by rw [i_M0 i j hi hj]; trivial), (fun i j hi hj => by rw [i_M1 i j hi hj]; trivial)⟩) ⟨SameD.agg ⟨SameD.rfl' _, SameD.rfl' _, SameD.rfl' _, SameD.rfl' _, SameD.rfl' _, SameD.penL i_P0, SameD.penL i_P1, SameD.penL i_M0, SameD.penL i_M1, trivial⟩, SameD.rfl' _, trivial⟩ (by simp only [boS, rowP, Bd, BdL, and_true, implies_true]) ?_
  generalize Eng.pl n_P0 (ivf f_P0) = P0 at *
  generalize Eng.pl n_P1 (ivf f_P1) = P1 at *
  generalize Eng.pl n_M0 (ivf f_M0) = M0 at *
  generalize Eng.pl n_M1 (ivf f_M1) = M1 at *
  obtain ⟨hOk, rfl, ht⟩ := pre
  have hg0 := hOk.g0
  have hg1 := hOk.g1
  have l0 := hOk.p0.1
  have l1 := hOk.p1.1
  simp only at hg0 hg1 l0 l1
  have w0 : IntKind.i64.wrap (g0 + 1) = g0 + 1 := wrap_id (by omega) (by omega)
  have w1 : IntKind.i64.wrap (g1 + 1) = g1 + 1 := wrap_id (by omega) (by omega)
  have w2 : IntKind.i64.wrap (1 - 0) = 1 := rfl
  have w3 : IntKind.i64.wrap (1 - 1) = 0 := rfl
  rcases ht with rfl | rfl
  · simp only [servedR_eq, strengthR_eq, p67_5, p67_13, boS, rowP, Try.f67, w2, w3, w0, w1, pl_pf', go_sem, ↓reduceIte, Nat.reduceAdd, Nat.reduceSub, Nat.reduceMul, Nat.reduceEqDiff, Nat.reduceLT, Nat.reduceLeDiff, Int.reduceToNat, Int.reduceLE, Int.reduceLT, Int.reduceEq, Int.reduceNeg, reduceCtorEq]
    refine ⟨by omega, by omega, by omega, ⟨by kernel_rfl, by kernel_rfl⟩, by omega, by omega, by omega, fun e1 => ?_, fun e1 => ⟨by omega, ?_⟩⟩
    all_goals simp only [decide_eq_true_eq, decide_eq_false_iff_not] at e1
    · have hgo : (⟨per, pd, true, g0, g1, P0, P1, M0, M1⟩ : Bo).goal 0 = (⟨per, pd, false, g0 + 1, g1, P0, P1, M0, M1⟩, 0) := by
        simp only [Bo.goal, stren, if_pos, ge_iff_le, if_pos e1, Int.reduceEq, if_false]
      rw [hgo]
      exact ⟨⟨fun _ _ _ _ => trivial, fun _ _ _ _ => trivial, fun _ _ _ _ => trivial, fun _ _ _ _ => trivial⟩, SameD.rfl' _⟩
    · have hgo : (⟨per, pd, true, g0, g1, P0, P1, M0, M1⟩ : Bo).goal 0 = (⟨per, pd, false, g0 + 1, g1, P0, goalL P1, M0, M1⟩, 0) := by
        simp only [Bo.goal, stren, if_pos, ge_iff_le, if_neg e1, Int.reduceEq, if_false]
      rw [hgo]
      refine loop_of { i : Nat // i ≤ nS P1 ∧ ∀ j, j < i → pf P1 (wS P1 j).toNat 1 ≠ 3 } (fun i => [(8, .int .i64 (i.1 : Int)), (7, .row (nS P1) 1 (fun i _ => .int .i64 (wS P1 i))), (6, .row P1.length 3 (fun i j => .int .i64 (pf P1 i j))), (5, .int .i64 1), (4, .ptr 1 0), (2, .ptr 0 0)])
        (fun _ => ⟨[.live 28 [.int .i64 per, .int .i64 pd, .bool false, .int .i64 (g0 + 1), .int .i64 g1, rowP P0, rowP P1, rowP M0, rowP M1], .live 28 [.int .i64 0, .int .i64 0, .bool false, .int .i64 0, .int .i64 0, .vec 0 0, .vec 1 0, .vec 2 0, .vec 3 0]], [.live 0 55 3 0 (fun _ _ => .any), .live 0 55 3 0 (fun _ _ => .any), .live 0 55 3 0 (fun _ _ => .any), .live 0 55 3 0 (fun _ _ => .any)]⟩) (fun i => nS P1 - i.1) (fun _ => ⟨rfl, rfl⟩) ⟨0, by omega, fun j hj => by omega⟩ (by simp only [rowP]; (apply sub_of <;> simp only [go_sem, ↓reduceIte, Nat.reduceAdd, Nat.reduceSub, Nat.reduceMul, Nat.reduceEqDiff, Nat.reduceLT, Nat.reduceLeDiff, Int.reduceToNat, Int.reduceLE, Int.reduceLT, Int.reduceEq, Int.reduceNeg, reduceCtorEq] <;> (try simp [catF]) <;> (try exact fun j _ => Bd_nth (by simp [BdL, Bd]) j) <;> (try exact bd_setL (by simp [bdAs, BdL, Bd])) <;> (try exact nestF_bd _ _ _ _ _ _ _ _ _))) ?_
      rintro ⟨i, hi, h3⟩
      simp only [servedR_eq, strengthR_eq, p67_5, p67_13, boS, rowP, Try.f67, w2, w3, go_sem, ↓reduceIte, Nat.reduceAdd, Nat.reduceSub, Nat.reduceMul, Nat.reduceEqDiff, Nat.reduceLT, Nat.reduceLeDiff, Int.reduceToNat, Int.reduceLE, Int.reduceLT, Int.reduceEq, Int.reduceNeg, reduceCtorEq]
      have h2 := nS_le P1
      have hw3 : IntKind.i64.wrap ((i : Int) + 1) = ((i + 1 : Nat) : Int) := by rw [wrap_id (by omega) (by omega)]; omega
      refine ⟨fun e2 => ?_, fun e2 => ?_⟩
      all_goals simp only [decide_eq_true_eq, decide_eq_false_iff_not] at e2
      · have hwi := wS_lt (l := P1) (k := i) (by omega)
        have hw4 : IntKind.i64.wrap (wS P1 i + 1) = wS P1 i + 1 := wrap_id (by omega) (by omega)
        rw [hw4]
        refine ⟨⟨by omega, by omega⟩, hwi, fun e3 => ⟨⟨by kernel_rfl, by kernel_rfl⟩, by omega, by omega, by omega, by omega, ?_⟩, fun e3 => ?_⟩
        all_goals simp only [decide_eq_true_eq, decide_eq_false_iff_not] at e3
        · rw [goalL_at (l := P1) (by omega) h3 e3]
          obtain ⟨q1, q2⟩ := isPen_erase2 hwi
          refine ⟨by omega, ⟨by omega, by omega⟩, by omega, ⟨fun _ _ _ _ => trivial, fun a c ha hc => by rw [q2 a c ha hc]; trivial, fun _ _ _ _ => trivial, fun _ _ _ _ => trivial⟩, ?_⟩
          simp only [← q1]
          apply SameD.agg
          refine ⟨SameD.rfl' _, SameD.rfl' _, SameD.rfl' _, SameD.rfl' _, SameD.rfl' _, ?_, ?_, SameD.rfl' _, SameD.rfl' _, trivial⟩
          all_goals first | exact SameD.rfl' _ | (refine SameD.rowD fun a c ha hc => ?_; rw [q2 a c ha hc]; exact SameD.rfl' _)
        · refine ⟨⟨i + 1, by omega, fun j hj => ?_⟩, by simp only []; omega, ?_⟩
          · rcases Nat.lt_or_ge j i with h | h
            · exact h3 j h
            · obtain rfl : j = i := by omega
              exact e3
          · apply sub_of <;> simp only [hw3, rowP, go_sem, ↓reduceIte, Nat.reduceAdd, Nat.reduceSub, Nat.reduceMul, Nat.reduceEqDiff, Nat.reduceLT, Nat.reduceLeDiff, Int.reduceToNat, Int.reduceLE, Int.reduceLT, Int.reduceEq, Int.reduceNeg, reduceCtorEq] <;> (try simp) <;> (try exact fun j _ => Bd_nth (by simp [BdL, Bd]) j) <;> (try exact bd_setL (by simp [bdAs, BdL, Bd])) <;> (try exact nestF_bd _ _ _ _ _ _ _ _ _)
      · have hgl : goalL P1 = P1 := goalL_no (fun j hj => h3 j (by omega))
        rw [hgl]
        exact ⟨⟨fun _ _ _ _ => trivial, fun _ _ _ _ => trivial, fun _ _ _ _ => trivial, fun _ _ _ _ => trivial⟩, SameD.rfl' _⟩
  · simp only [servedR_eq, strengthR_eq, p67_5, p67_13, boS, rowP, Try.f67, w2, w3, w0, w1, pl_pf', go_sem, ↓reduceIte, Nat.reduceAdd, Nat.reduceSub, Nat.reduceMul, Nat.reduceEqDiff, Nat.reduceLT, Nat.reduceLeDiff, Int.reduceToNat, Int.reduceLE, Int.reduceLT, Int.reduceEq, Int.reduceNeg, reduceCtorEq]
    refine ⟨by omega, by omega, by omega, ⟨by kernel_rfl, by kernel_rfl⟩, by omega, by omega, by omega, fun e1 => ?_, fun e1 => ⟨by omega, ?_⟩⟩
    all_goals simp only [decide_eq_true_eq, decide_eq_false_iff_not] at e1
    · have hgo : (⟨per, pd, true, g0, g1, P0, P1, M0, M1⟩ : Bo).goal 1 = (⟨per, pd, false, g0, g1 + 1, P0, P1, M0, M1⟩, 0) := by
        simp only [Bo.goal, stren, if_pos, ge_iff_le, if_pos e1, Int.reduceEq, if_false]
      rw [hgo]
      exact ⟨⟨fun _ _ _ _ => trivial, fun _ _ _ _ => trivial, fun _ _ _ _ => trivial, fun _ _ _ _ => trivial⟩, SameD.rfl' _⟩
    · have hgo : (⟨per, pd, true, g0, g1, P0, P1, M0, M1⟩ : Bo).goal 1 = (⟨per, pd, false, g0, g1 + 1, goalL P0, P1, M0, M1⟩, 0) := by
        simp only [Bo.goal, stren, if_pos, ge_iff_le, if_neg e1, Int.reduceEq, if_false]
      rw [hgo]
      refine loop_of { i : Nat // i ≤ nS P0 ∧ ∀ j, j < i → pf P0 (wS P0 j).toNat 1 ≠ 3 } (fun i => [(8, .int .i64 (i.1 : Int)), (7, .row (nS P0) 1 (fun i _ => .int .i64 (wS P0 i))), (6, .row P0.length 3 (fun i j => .int .i64 (pf P0 i j))), (5, .int .i64 0), (4, .ptr 1 0), (2, .ptr 0 0)])
        (fun _ => ⟨[.live 28 [.int .i64 per, .int .i64 pd, .bool false, .int .i64 g0, .int .i64 (g1 + 1), rowP P0, rowP P1, rowP M0, rowP M1], .live 28 [.int .i64 0, .int .i64 0, .bool false, .int .i64 0, .int .i64 0, .vec 0 0, .vec 1 0, .vec 2 0, .vec 3 0]], [.live 0 55 3 0 (fun _ _ => .any), .live 0 55 3 0 (fun _ _ => .any), .live 0 55 3 0 (fun _ _ => .any), .live 0 55 3 0 (fun _ _ => .any)]⟩) (fun i => nS P0 - i.1) (fun _ => ⟨rfl, rfl⟩) ⟨0, by omega, fun j hj => by omega⟩ (by simp only [rowP]; (apply sub_of <;> simp only [go_sem, ↓reduceIte, Nat.reduceAdd, Nat.reduceSub, Nat.reduceMul, Nat.reduceEqDiff, Nat.reduceLT, Nat.reduceLeDiff, Int.reduceToNat, Int.reduceLE, Int.reduceLT, Int.reduceEq, Int.reduceNeg, reduceCtorEq] <;> (try simp [catF]) <;> (try exact fun j _ => Bd_nth (by simp [BdL, Bd]) j) <;> (try exact bd_setL (by simp [bdAs, BdL, Bd])) <;> (try exact nestF_bd _ _ _ _ _ _ _ _ _))) ?_
      rintro ⟨i, hi, h3⟩
      simp only [servedR_eq, strengthR_eq, p67_5, p67_13, boS, rowP, Try.f67, w2, w3, go_sem, ↓reduceIte, Nat.reduceAdd, Nat.reduceSub, Nat.reduceMul, Nat.reduceEqDiff, Nat.reduceLT, Nat.reduceLeDiff, Int.reduceToNat, Int.reduceLE, Int.reduceLT, Int.reduceEq, Int.reduceNeg, reduceCtorEq]
      have h2 := nS_le P0
      have hw3 : IntKind.i64.wrap ((i : Int) + 1) = ((i + 1 : Nat) : Int) := by rw [wrap_id (by omega) (by omega)]; omega
      refine ⟨fun e2 => ?_, fun e2 => ?_⟩
      all_goals simp only [decide_eq_true_eq, decide_eq_false_iff_not] at e2
      · have hwi := wS_lt (l := P0) (k := i) (by omega)
        have hw4 : IntKind.i64.wrap (wS P0 i + 1) = wS P0 i + 1 := wrap_id (by omega) (by omega)
        rw [hw4]
        refine ⟨⟨by omega, by omega⟩, hwi, fun e3 => ⟨⟨by kernel_rfl, by kernel_rfl⟩, by omega, by omega, by omega, by omega, ?_⟩, fun e3 => ?_⟩
        all_goals simp only [decide_eq_true_eq, decide_eq_false_iff_not] at e3
        · rw [goalL_at (l := P0) (by omega) h3 e3]
          obtain ⟨q1, q2⟩ := isPen_erase2 hwi
          refine ⟨by omega, ⟨by omega, by omega⟩, by omega, ⟨fun a c ha hc => by rw [q2 a c ha hc]; trivial, fun _ _ _ _ => trivial, fun _ _ _ _ => trivial, fun _ _ _ _ => trivial⟩, ?_⟩
          simp only [← q1]
          apply SameD.agg
          refine ⟨SameD.rfl' _, SameD.rfl' _, SameD.rfl' _, SameD.rfl' _, SameD.rfl' _, ?_, ?_, SameD.rfl' _, SameD.rfl' _, trivial⟩
          all_goals first | exact SameD.rfl' _ | (refine SameD.rowD fun a c ha hc => ?_; rw [q2 a c ha hc]; exact SameD.rfl' _)
        · refine ⟨⟨i + 1, by omega, fun j hj => ?_⟩, by simp only []; omega, ?_⟩
          · rcases Nat.lt_or_ge j i with h | h
            · exact h3 j h
            · obtain rfl : j = i := by omega
              exact e3
          · apply sub_of <;> simp only [hw3, rowP, go_sem, ↓reduceIte, Nat.reduceAdd, Nat.reduceSub, Nat.reduceMul, Nat.reduceEqDiff, Nat.reduceLT, Nat.reduceLeDiff, Int.reduceToNat, Int.reduceLE, Int.reduceLT, Int.reduceEq, Int.reduceNeg, reduceCtorEq] <;> (try simp) <;> (try exact fun j _ => Bd_nth (by simp [BdL, Bd]) j) <;> (try exact bd_setL (by simp [bdAs, BdL, Bd])) <;> (try exact nestF_bd _ _ _ _ _ _ _ _ _)
      · have hgl : goalL P0 = P0 := goalL_no (fun j hj => h3 j (by omega))
        rw [hgl]
        exact ⟨⟨fun _ _ _ _ => trivial, fun _ _ _ _ => trivial, fun _ _ _ _ => trivial, fun _ _ _ _ => trivial⟩, SameD.rfl' _⟩
end Go.Eng
end

/- clock: what an event does, by the reference. -/
section
namespace Go.Eng
open Go Go.RowKit Go.Proofs
set_option maxRecDepth 100000
set_option maxHeartbeats 4000000
attribute [local irreducible] OwnT DefS
def doRfBase : BaseF := fun args => match args with
  | [.agg [.int .i64 per, .int .i64 pd, .bool run, .int .i64 g0, .int .i64 g1, .row n_P0 sz_P0 f_P0, .row n_P1 sz_P1 f_P1, .row n_M0 sz_M0 f_M0, .row n_M1 sz_M1 f_M1], .agg [.int .i64 k, .int .i64 s, .int .i64 t, .int .i64 p]] => some ((sz_P0 = 3 ∧ IntR n_P0 3 f_P0) ∧ (sz_P1 = 3 ∧ IntR n_P1 3 f_P1) ∧ (sz_M0 = 3 ∧ IntR n_M0 3 f_M0) ∧ (sz_M1 = 3 ∧ IntR n_M1 3 f_M1) ∧ (Bo.Ok ⟨per, pd, run, g0, g1, (Eng.pl n_P0 (ivf f_P0)), (Eng.pl n_P1 (ivf f_P1)), (Eng.pl n_M0 (ivf f_M0)), (Eng.pl n_M1 (ivf f_M1))⟩ ∧ evOk ⟨k, s, t, p⟩ = true), .tup [boS (Bo.deed ⟨per, pd, run, g0, g1, (Eng.pl n_P0 (ivf f_P0)), (Eng.pl n_P1 (ivf f_P1)), (Eng.pl n_M0 (ivf f_M0)), (Eng.pl n_M1 (ivf f_M1))⟩ ⟨k, s, t, p⟩).1, .int .i64 (Bo.deed ⟨per, pd, run, g0, g1, (Eng.pl n_P0 (ivf f_P0)), (Eng.pl n_P1 (ivf f_P1)), (Eng.pl n_M0 (ivf f_M0)), (Eng.pl n_M1 (ivf f_M1))⟩ ⟨k, s, t, p⟩).2])
  | _ => none
theorem doRf_eq (per : Int) (pd : Int) (run : Bool) (g0 : Int) (g1 : Int) (n_P0 : Nat) (sz_P0 : Nat) (f_P0 : Nat → Nat → SV) (n_P1 : Nat) (sz_P1 : Nat) (f_P1 : Nat → Nat → SV) (n_M0 : Nat) (sz_M0 : Nat) (f_M0 : Nat → Nat → SV) (n_M1 : Nat) (sz_M1 : Nat) (f_M1 : Nat → Nat → SV) (k : Int) (s : Int) (t : Int) (p : Int) : doRfBase [.agg [.int .i64 per, .int .i64 pd, .bool run, .int .i64 g0, .int .i64 g1, .row n_P0 sz_P0 f_P0, .row n_P1 sz_P1 f_P1, .row n_M0 sz_M0 f_M0, .row n_M1 sz_M1 f_M1], .agg [.int .i64 k, .int .i64 s, .int .i64 t, .int .i64 p]] = some ((sz_P0 = 3 ∧ IntR n_P0 3 f_P0) ∧ (sz_P1 = 3 ∧ IntR n_P1 3 f_P1) ∧ (sz_M0 = 3 ∧ IntR n_M0 3 f_M0) ∧ (sz_M1 = 3 ∧ IntR n_M1 3 f_M1) ∧ (Bo.Ok ⟨per, pd, run, g0, g1, (Eng.pl n_P0 (ivf f_P0)), (Eng.pl n_P1 (ivf f_P1)), (Eng.pl n_M0 (ivf f_M0)), (Eng.pl n_M1 (ivf f_M1))⟩ ∧ evOk ⟨k, s, t, p⟩ = true), .tup [boS (Bo.deed ⟨per, pd, run, g0, g1, (Eng.pl n_P0 (ivf f_P0)), (Eng.pl n_P1 (ivf f_P1)), (Eng.pl n_M0 (ivf f_M0)), (Eng.pl n_M1 (ivf f_M1))⟩ ⟨k, s, t, p⟩).1, .int .i64 (Bo.deed ⟨per, pd, run, g0, g1, (Eng.pl n_P0 (ivf f_P0)), (Eng.pl n_P1 (ivf f_P1)), (Eng.pl n_M0 (ivf f_M0)), (Eng.pl n_M1 (ivf f_M1))⟩ ⟨k, s, t, p⟩).2]) := rfl
theorem doRf_base : NB Try.prog 58 doRfBase := by
  intro args p v hq hp
  unfold doRfBase at hq
  split at hq
  rotate_left
  · cases hq
  rename_i per pd run g0 g1 n_P0 sz_P0 f_P0 n_P1 sz_P1 f_P1 n_M0 sz_M0 f_M0 n_M1 sz_M1 f_M1 k s t p
  cases hq
  obtain ⟨⟨rfl, i_P0⟩, ⟨rfl, i_P1⟩, ⟨rfl, i_M0⟩, ⟨rfl, i_M1⟩, pre⟩ := hp
  refine nb_of (C := cxn [] [(67, goalRfBase)] [] [(68, moreBase)] [(58, 25, p58_25), (58, 27, p58_27), (58, 28, p58_28), (58, 30, p58_30), (58, 32, p58_32)] none) (cxn_ok ⟨goalRf_base, trivial⟩ trivial ⟨more_base, trivial⟩) rfl (g := 58) (fn := Try.f58)
    (args' := [.agg [.int .i64 per, .int .i64 pd, .bool run, .int .i64 g0, .int .i64 g1, .row (Eng.pl n_P0 (ivf f_P0)).length 3 (fun i j => .int .i64 (pf (Eng.pl n_P0 (ivf f_P0)) i j)), .row (Eng.pl n_P1 (ivf f_P1)).length 3 (fun i j => .int .i64 (pf (Eng.pl n_P1 (ivf f_P1)) i j)), .row (Eng.pl n_M0 (ivf f_M0)).length 3 (fun i j => .int .i64 (pf (Eng.pl n_M0 (ivf f_M0)) i j)), .row (Eng.pl n_M1 (ivf f_M1)).length 3 (fun i j => .int .i64 (pf (Eng.pl n_M1 (ivf f_M1)) i j))], .agg [.int .i64 k, .int .i64 s, .int .i64 t, .int .i64 p]]) (fn_58) rfl 1000 (by
    simp only [BdL, Bd, and_self, and_true, true_and]
    exact ⟨(fun i j hi hj => by rw [i_P0 i j hi hj]; trivial), (fun i j hi hj => by rw [i_P1 i j hi hj]; trivial), (fun i j hi hj => by rw [i_M0 i j hi hj]; trivial), (fun i j hi hj => by rw [i_M1 i j hi hj]; trivial)⟩) ⟨SameD.agg ⟨SameD.rfl' _, SameD.rfl' _, SameD.rfl' _, SameD.rfl' _, SameD.rfl' _, SameD.penL i_P0, SameD.penL i_P1, SameD.penL i_M0, SameD.penL i_M1, trivial⟩, SameD.rfl' _, trivial⟩ (by simp only [boS, rowP, Bd, BdL, and_true, implies_true]) ?_
  generalize Eng.pl n_P0 (ivf f_P0) = P0 at *
  generalize Eng.pl n_P1 (ivf f_P1) = P1 at *
  generalize Eng.pl n_M0 (ivf f_M0) = M0 at *
  generalize Eng.pl n_M1 (ivf f_M1) = M1 at *
  obtain ⟨hOk, hev⟩ := pre
  obtain ⟨hk, hs, ht, hp⟩ := evOk_iff.1 hev
  simp only at hk hs ht hp
  have hper := hOk.per
  have l0 := hOk.p0.1
  have l1 := hOk.p1.1
  have l2 := hOk.m0.1
  have l3 := hOk.m1.1
  simp only at hper l0 l1 l2 l3
  have hki : k = 0 ∨ k = 1 ∨ k = 2 ∨ k = 3 ∨ k = 4 ∨ k = 5 ∨ k = 6 := by omega
  rcases hki with rfl | rfl | rfl | rfl | rfl | rfl | rfl
  · have w1 : IntKind.i64.wrap (per + 1) = per + 1 := wrap_id (by omega) (by omega)
    simp only [more_eq, goalRf_eq, p58_25, p58_27, p58_28, p58_30, p58_32, boS, rowP, Try.f58, w1, go_sem, ↓reduceIte, Nat.reduceAdd, Nat.reduceSub, Nat.reduceMul, Nat.reduceEqDiff, Nat.reduceLT, Nat.reduceLeDiff, Int.reduceToNat, Int.reduceLE, Int.reduceLT, Int.reduceEq, Int.reduceNeg, reduceCtorEq]
    refine ⟨fun e1 => ⟨⟨fun _ _ _ _ => trivial, fun _ _ _ _ => trivial, fun _ _ _ _ => trivial, fun _ _ _ _ => trivial⟩, ?_⟩, fun e1 => ⟨fun e2 => ⟨fun e3 => ⟨⟨fun _ _ _ _ => trivial, fun _ _ _ _ => trivial, fun _ _ _ _ => trivial, fun _ _ _ _ => trivial⟩, ?_⟩, fun e3 => ⟨⟨fun _ _ _ _ => trivial, fun _ _ _ _ => trivial, fun _ _ _ _ => trivial, fun _ _ _ _ => trivial⟩, ?_⟩⟩, fun e2 => ⟨⟨fun _ _ _ _ => trivial, fun _ _ _ _ => trivial, fun _ _ _ _ => trivial, fun _ _ _ _ => trivial⟩, ?_⟩⟩⟩
    · have h1 : run = true := e1
      subst h1
      (simp only [Bo.deed, Bo.start, Bo.stop, Bo.give, gives, givesM, Int.reduceEq, if_true, if_false, Bool.false_eq_true, List.append_nil, snoc2]; exact SameD.rfl' _)
    · have h1 : run = false := e1
      subst h1
      have h2 : pd = 1200 := by simpa using e2
      have h3 : ¬ per < 2 := by simp only [decide_eq_true_eq] at e3; omega
      simp only [Bo.deed, Bo.start, Int.reduceEq, if_true, if_false, Bool.false_eq_true, if_pos h2, if_neg h3]
      exact SameD.rfl' _
    · have h1 : run = false := e1
      subst h1
      have h2 : pd = 1200 := by simpa using e2
      have h3 : per < 2 := by simp only [decide_eq_false_iff_not] at e3; omega
      simp only [Bo.deed, Bo.start, Int.reduceEq, if_true, if_false, Bool.false_eq_true, if_pos h2, if_pos h3]
      exact SameD.rfl' _
    · have h1 : run = false := e1
      subst h1
      have h2 : ¬ pd = 1200 := by simpa using e2
      simp only [Bo.deed, Bo.start, Int.reduceEq, if_true, if_false, Bool.false_eq_true, if_neg h2]
      exact SameD.rfl' _
  · cases run
    all_goals simp only [more_eq, goalRf_eq, p58_25, p58_27, p58_28, p58_30, p58_32, boS, rowP, Try.f58, go_sem, ↓reduceIte, Nat.reduceAdd, Nat.reduceSub, Nat.reduceMul, Nat.reduceEqDiff, Nat.reduceLT, Nat.reduceLeDiff, Int.reduceToNat, Int.reduceLE, Int.reduceLT, Int.reduceEq, Int.reduceNeg, reduceCtorEq]
    all_goals repeat' apply And.intro
    all_goals first | exact fun _ _ _ _ => trivial | (simp only [Bo.deed, Bo.start, Bo.stop, Bo.give, gives, givesM, Int.reduceEq, if_true, if_false, Bool.false_eq_true, List.append_nil, snoc2]; exact SameD.rfl' _)
  · cases run
    · simp only [more_eq, goalRf_eq, p58_25, p58_27, p58_28, p58_30, p58_32, boS, rowP, Try.f58, go_sem, ↓reduceIte, Nat.reduceAdd, Nat.reduceSub, Nat.reduceMul, Nat.reduceEqDiff, Nat.reduceLT, Nat.reduceLeDiff, Int.reduceToNat, Int.reduceLE, Int.reduceLT, Int.reduceEq, Int.reduceNeg, reduceCtorEq]
      repeat' apply And.intro
      all_goals first | exact fun _ _ _ _ => trivial | (simp only [Bo.deed, Bo.goal, Int.reduceEq, if_true, if_false, Bool.false_eq_true]; exact SameD.rfl' _)
    · simp only [more_eq, goalRf_eq, p58_25, p58_27, p58_28, p58_30, p58_32, boS, rowP, Try.f58, pl_pf, go_sem, ↓reduceIte, Nat.reduceAdd, Nat.reduceSub, Nat.reduceMul, Nat.reduceEqDiff, Nat.reduceLT, Nat.reduceLeDiff, Int.reduceToNat, Int.reduceLE, Int.reduceLT, Int.reduceEq, Int.reduceNeg, reduceCtorEq]
      have hgo : Bo.deed ⟨per, pd, true, g0, g1, P0, P1, M0, M1⟩ ⟨2, s, t, p⟩ = Bo.goal ⟨per, pd, true, g0, g1, P0, P1, M0, M1⟩ t := by simp [Bo.deed]
      have hgo2 : (Bo.goal ⟨per, pd, true, g0, g1, P0, P1, M0, M1⟩ t).2 = 0 := by simp only [Bo.goal, if_true]; split <;> rfl
      rw [hgo, hgo2]
      exact ⟨⟨hOk, by omega⟩, ⟨fun _ _ _ _ => trivial, fun _ _ _ _ => trivial, fun _ _ _ _ => trivial, fun _ _ _ _ => trivial⟩, SameD.rfl' _⟩
  all_goals obtain rfl | rfl : t = 0 ∨ t = 1 := by omega
  all_goals cases run
  all_goals simp only [more_eq, goalRf_eq, p58_25, p58_27, p58_28, p58_30, p58_32, boS, rowP, Try.f58, pl_pf, go_sem, ↓reduceIte, Nat.reduceAdd, Nat.reduceSub, Nat.reduceMul, Nat.reduceEqDiff, Nat.reduceLT, Nat.reduceLeDiff, Int.reduceToNat, Int.reduceLE, Int.reduceLT, Int.reduceEq, Int.reduceNeg, reduceCtorEq]
  all_goals repeat' apply And.intro
  all_goals first
    | exact fun _ _ _ _ => trivial
    | (show planOk _ _ = true; kernel_rfl)
    | (show keepOk _ _ = true; kernel_rfl)
    | (simp only [Bo.deed, Bo.start, Bo.stop, Bo.give, gives, givesM, Int.reduceEq, if_true, if_false, Bool.false_eq_true, List.append_nil, snoc2]; exact SameD.rfl' _)
    | (simp only [List.length_append, List.length_singleton]; omega)
    | omega
end Go.Eng
end
