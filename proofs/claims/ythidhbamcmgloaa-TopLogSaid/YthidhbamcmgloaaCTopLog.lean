/-
  TopLog: for every input the law returns true, and each argument reads afterwards as it read before. No condition.
-/
import Derived.Test.YthidhbamcmgloaaRows
import Derived.WalkKit
import Derived.Test.YthidhbamcmgloaaX5
set_option linter.unusedSimpArgs false
set_option linter.unusedVariables false
/- file: an eye anywhere; Unlog. -/
section
namespace Go.Eng
open Go Go.RowKit Go.Proofs
set_option maxRecDepth 100000
set_option maxHeartbeats 4000000
attribute [local irreducible] OwnT DefS
theorem get_at {n : Nat} (hn : n ≤ 1000000) {b : Nat → Nat → Int} (hb : ∀ i, i < n → 0 ≤ b i 0 ∧ b i 0 < 256) {p many : Nat} (hm : many ≤ 50) (hp : p + many ≤ 8 * n) (h : HS) (k : Nat) (hB : getB h.blks k = eyB n b p) :
    CallsS Try.prog 69 [.ptr k 0, .int .i64 (many : Int)] h (fun o h' => o = .ret (.int .u64 (rdB (biA (byN b)) p many : Int)) ∧ h' = ⟨setB h.blks k (eyB n b (p + many)), h.vecs⟩) := by
  have := calls_ren (h := h) [k] [] (get_run hn hb hm hp) (by simp) (by simp) (by simp [BdL, Bd]) (by simp [bdB, BdL, Bd, eyB]) (by simp [bdV])
    ⟨by simp only [eyB, go_sem, ↓reduceIte, Nat.reduceAdd, Nat.reduceSub, Nat.reduceMul, Nat.reduceEqDiff, Nat.reduceLT, Nat.reduceLeDiff, Int.reduceToNat, Int.reduceLE, Int.reduceLT, Int.reduceEq, Int.reduceNeg, reduceCtorEq]; exact hB, trivial⟩ trivial (by intro k' hk'; simp at hk'; subst hk'; exact getB_lt hB) (by intro k' hk'; simp at hk')
    (by rintro o h' ⟨rfl, rfl⟩; simp [bdO, bdB, bdV, BdL, Bd, lenB, lenV, eyB])
  simp only [go_sem, ↓reduceIte, Nat.reduceAdd, Nat.reduceSub, Nat.reduceMul, Nat.reduceEqDiff, Nat.reduceLT, Nat.reduceLeDiff, Int.reduceToNat, Int.reduceLE, Int.reduceLT, Int.reduceEq, Int.reduceNeg, reduceCtorEq] at this
  refine calls_mono ?_ this
  rintro o h' ⟨o0, h0', ⟨rfl, rfl⟩, rfl, rfl⟩
  exact ⟨by simp only [go_sem, ↓reduceIte, Nat.reduceAdd, Nat.reduceSub, Nat.reduceMul, Nat.reduceEqDiff, Nat.reduceLT, Nat.reduceLeDiff, Int.reduceToNat, Int.reduceLE, Int.reduceLT, Int.reduceEq, Int.reduceNeg, reduceCtorEq], by simp only [eyB, go_sem, ↓reduceIte, Nat.reduceAdd, Nat.reduceSub, Nat.reduceMul, Nat.reduceEqDiff, Nat.reduceLT, Nat.reduceLeDiff, Int.reduceToNat, Int.reduceLE, Int.reduceLT, Int.reduceEq, Int.reduceNeg, reduceCtorEq]⟩
theorem rd_at {n : Nat} (hn : n ≤ 1000000) {b : Nat → Nat → Int} (hb : ∀ i, i < n → 0 ≤ b i 0 ∧ b i 0 < 256) {p : Nat} (hk : cdK (biA (byN b)) p < 40) (hp : cdE (biA (byN b)) p ≤ 8 * n) (h : HS) (k : Nat) (hB : getB h.blks k = eyB n b p) :
    CallsS Try.prog 68 [.ptr k 0] h (fun o h' => o = .ret (.int .u64 (cdV (biA (byN b)) p : Int)) ∧ h' = ⟨setB h.blks k (eyB n b (cdE (biA (byN b)) p)), h.vecs⟩) := by
  have := calls_ren (h := h) [k] [] (rd_code hn hb hk hp) (by simp) (by simp) (by simp [BdL, Bd]) (by simp [bdB, BdL, Bd, eyB]) (by simp [bdV])
    ⟨by simp only [eyB, go_sem, ↓reduceIte, Nat.reduceAdd, Nat.reduceSub, Nat.reduceMul, Nat.reduceEqDiff, Nat.reduceLT, Nat.reduceLeDiff, Int.reduceToNat, Int.reduceLE, Int.reduceLT, Int.reduceEq, Int.reduceNeg, reduceCtorEq]; exact hB, trivial⟩ trivial (by intro k' hk'; simp at hk'; subst hk'; exact getB_lt hB) (by intro k' hk'; simp at hk')
    (by rintro o h' ⟨rfl, rfl⟩; simp [bdO, bdB, bdV, BdL, Bd, lenB, lenV, eyB])
  simp only [go_sem, ↓reduceIte, Nat.reduceAdd, Nat.reduceSub, Nat.reduceMul, Nat.reduceEqDiff, Nat.reduceLT, Nat.reduceLeDiff, Int.reduceToNat, Int.reduceLE, Int.reduceLT, Int.reduceEq, Int.reduceNeg, reduceCtorEq] at this
  refine calls_mono ?_ this
  rintro o h' ⟨o0, h0', ⟨rfl, rfl⟩, rfl, rfl⟩
  exact ⟨by simp only [go_sem, ↓reduceIte, Nat.reduceAdd, Nat.reduceSub, Nat.reduceMul, Nat.reduceEqDiff, Nat.reduceLT, Nat.reduceLeDiff, Int.reduceToNat, Int.reduceLE, Int.reduceLT, Int.reduceEq, Int.reduceNeg, reduceCtorEq], by simp only [eyB, go_sem, ↓reduceIte, Nat.reduceAdd, Nat.reduceSub, Nat.reduceMul, Nat.reduceEqDiff, Nat.reduceLT, Nat.reduceLeDiff, Int.reduceToNat, Int.reduceLE, Int.reduceLT, Int.reduceEq, Int.reduceNeg, reduceCtorEq]⟩
theorem def65_none (h : HS) (a b : Nat) : DefS Try.prog 65 [.ptr a 0, .ptr b 0] none h (fun p' h' => p' = none ∧ h' = h) := by
  refine defS_of_run (C := cx [] [] [] [] (some [])) (cx_ok trivial trivial) (g := 65) (fn := Try.f65) fn_65 rfl rfl rfl 1000 1000 ?_
  simp only [Try.f65, Try.f66, go_sem, ↓reduceIte, Nat.reduceAdd, Nat.reduceSub, Nat.reduceMul, Nat.reduceEqDiff, Nat.reduceLT, Nat.reduceLeDiff, Int.reduceToNat, Int.reduceLE, Int.reduceLT, Int.reduceEq, Int.reduceNeg, reduceCtorEq]
theorem uz_bd {y : Nat} {B : Int} (h1 : -B ≤ uz y) (h2 : uz y ≤ B) : (y : Int) ≤ 2 * B + 1 := by
  unfold uz at h1 h2
  split at h1 <;> split at h2 <;> omega
theorem dS_bd {β : Nat → Nat} {n m : Nat} (hs : ∀ i, i < m → DOk β n (dS β i)) : ∀ i, i ≤ m → (0 ≤ (dS β i).mi ∧ (dS β i).mi ≤ 1048576) ∧ ∀ j, -1048576 ≤ (dS β i).vs j ∧ (dS β i).vs j ≤ 2097152
  | 0, _ => by simp [dS]
  | i + 1, hi => by
    obtain ⟨h1, h2⟩ := dS_bd hs i (by omega)
    have h3 := snB_iff.1 (hs i (by omega)).sn
    refine ⟨by simp only [dS, dN]; omega, fun j => ?_⟩
    simp only [dS, dN, upF]
    split
    · exact h3.2.2
    · exact h2 j
theorem cat_dR {β : Nat → Nat} {i : Nat} : ∀ a j, a < i + 1 → j < 3 → catF i (fun i j => SV.int .i64 (dR β i j)) (oneF [.int .i64 (dX β (dS β i) 0), .int .i64 (dSe β (dS β i) : Int), .int .i64 (dX β (dS β i) 2)]) a j = .int .i64 (dR β a j) := fun a j ha hj => by
  simp only [catF]
  by_cases h : a < i
  · rw [if_pos h]
  · rw [if_neg h]
    obtain rfl : a = i := by omega
    rcases (by omega : j = 0 ∨ j = 1 ∨ j = 2) with rfl | rfl | rfl <;> rfl
def ulM (b : Nat → Nat → Int) : Nat := (b 2 0).toNat * 256 + (b 3 0).toNat
def unlogBase : BaseF := fun args => match args with
  | [.row q sz_b f_b] => some ((sz_b = 1 ∧ IntK .u8 q 1 f_b) ∧ (UOk (byN (ivf f_b)) (q - 1) (ulM (ivf f_b)) ∧ ∀ i, 0 ≤ (ivf f_b) i 0), .tup [.row (ulM (ivf f_b)) 3 (fun i j => .int .i64 (dR (biA (byN (ivf f_b))) i j)), .int .i64 0])
  | _ => none
theorem unlog_eq (q : Nat) (sz_b : Nat) (f_b : Nat → Nat → SV) : unlogBase [.row q sz_b f_b] = some ((sz_b = 1 ∧ IntK .u8 q 1 f_b) ∧ (UOk (byN (ivf f_b)) (q - 1) (ulM (ivf f_b)) ∧ ∀ i, 0 ≤ (ivf f_b) i 0), .tup [.row (ulM (ivf f_b)) 3 (fun i j => .int .i64 (dR (biA (byN (ivf f_b))) i j)), .int .i64 0]) := rfl
theorem unlog_base : Base Try.prog 21 unlogBase := by
  intro args p v hq hp
  unfold unlogBase at hq
  split at hq
  rotate_left
  · cases hq
  rename_i q sz_b f_b
  cases hq
  obtain ⟨⟨rfl, i_b⟩, pre⟩ := hp
  refine ⟨(by
    simp only [BdL, Bd, and_self, and_true, true_and]
    exact (fun i j hi hj => by rw [i_b i j hi hj]; trivial)), calls_mono (fun _ _ ⟨u, e1, e2⟩ => ⟨u, e1, .inr e2⟩) (calls_congr (args' := [.row q 1 (rowF .u8 (ivf f_b))]) ⟨SameD.intK i_b, trivial⟩ (calls_of_defer (C := cx [68, 69] [] [(60, isSniffBase), (64, lastBase), (67, needBase), (70, unfoldBase)] [(21, 4, p21_4), (21, 5, p21_5), (21, 10, p21_10), (21, 12, p21_12), (21, 14, p21_14)] (some [2, 3])) (cx_ok trivial ⟨isSniff_base, last_base, need_base, unfold_base, trivial⟩) (g := 21) (fn := Try.f21) (fn_21) rfl rfl
    (args := [.row q 1 (rowF .u8 (ivf f_b))]) (K := fun o h' => ∃ u, o = .ret u ∧ FzT h' u (.tup [.row (ulM (ivf f_b)) 3 (fun i j => .int .i64 (dR (biA (byN (ivf f_b))) i j)), .int .i64 0])) 1000 1000 ?_))⟩
  generalize ivf f_b = b at *
  simp only [rowF_eq]
  obtain ⟨hU, h0⟩ := pre
  obtain ⟨n4, n9, b0, b1, lt, sm, cn, m1, hs, e1, e2, hz⟩ := hU
  obtain ⟨n, rfl⟩ : ∃ n, q = n + 1 := ⟨q - 1, by omega⟩
  rw [Nat.add_sub_cancel] at n4 n9 lt sm hs e1 e2 hz
  have hb : ∀ i, i < n → 0 ≤ b i 0 ∧ b i 0 < 256 := fun i hi => by
    have h1 := h0 i
    have h2 := lt i (by omega)
    unfold byN at h2; omega
  have q1 : decide (5 ≤ ((n + 1 : Nat) : Int)) = true := decide_eq_true (by omega)
  have q2 : decide (b 0 0 = 73) = true := decide_eq_true (by have := h0 0; unfold byN at b0; omega)
  have q3 : decide (b 1 0 = 76) = true := decide_eq_true (by have := h0 1; unfold byN at b1; omega)
  have q4 : IntKind.i64.wrap (((n + 1 : Nat) : Int) - 1) = (n : Int) := by rw [wrap_id (by omega) (by omega)]; omega
  have q5 : decide (((smB (fun i => (b i 0).toNat) n : Nat) : Int) = b n 0) = true := decide_eq_true (by
    have h1 := h0 n
    change (b n 0).toNat = smB (fun i => (b i 0).toNat) n at sm
    omega)
  have q6 : bitI .or .i64 (IntKind.i64.wrap (IntKind.i64.wrap (b 2 0) * 2 ^ min 8 64)) (IntKind.i64.wrap (b 3 0)) = (ulM b : Int) := by
    have h2 := hb 2 (by omega)
    have h3 := hb 3 (by omega)
    obtain ⟨x, hx⟩ : ∃ x : Nat, b 2 0 = x := ⟨(b 2 0).toNat, by omega⟩
    obtain ⟨y, hy⟩ : ∃ y : Nat, b 3 0 = y := ⟨(b 3 0).toNat, by omega⟩
    have e : (2 : Int) ^ min 8 64 = 256 := rfl
    rw [ulM, hx, hy, e, wrap_id (x := (x : Int)) (by omega) (by omega), wrap_id (x := (y : Int)) (by omega) (by omega), wrap_id (by omega) (by omega), show (x : Int) * 256 = ((2 ^ 8 * x : Nat) : Int) by omega, or64 (by omega) (by omega), or_low (by omega)]
    simp only [Int.toNat_natCast]
    omega
  have q7 : decide ((ulM b : Int) ≤ 1024) = true := decide_eq_true (by omega)
  simp only [q1, q2, q3, q4, q5, q6, q7, Int.toNat_natCast, isSniff_eq, last_eq, need_eq, unfold_eq, p21_4, p21_5, p21_10, p21_12, p21_14, Try.f71, Try.f21, go_sem, ↓reduceIte, Nat.reduceAdd, Nat.reduceSub, Nat.reduceMul, Nat.reduceEqDiff, Nat.reduceLT, Nat.reduceLeDiff, Int.reduceToNat, Int.reduceLE, Int.reduceLT, Int.reduceEq, Int.reduceNeg, reduceCtorEq]
  generalize hm : ulM b = m at *
  refine ⟨by omega, by omega, ⟨by omega, by omega⟩, ⟨by kernel_rfl, by kernel_rfl⟩, ⟨by omega, by omega⟩, ⟨by omega, hb⟩, ⟨by omega, by omega⟩, ⟨by kernel_rfl, by kernel_rfl⟩, by omega, by omega, ?_⟩
  refine loop_ofH { p : Nat × Nat // p.1 ≤ m } (fun p => [(57, .int .i64 (p.1.1 : Int)), (56, .int .i64 (m : Int)), (6, .ptr 3 0), (4, .ptr 2 0), (3, .ptr 1 0), (2, .ptr 0 0)]) (fun _ p => ⟨[.live 83 [.vec 0 p.1.2], .live 27 [.int .i64 0], eyB n b (dS (biA (byN b)) p.1.1).pos, trkB (dS (biA (byN b)) p.1.1).mi (dS (biA (byN b)) p.1.1).vs], [.live p.1.2 95 3 p.1.1 fun i j => .int .i64 (dR (biA (byN b)) i j), .dead]⟩) (fun p => m - p.1.1) (fun _ => ⟨rfl, rfl⟩) ⟨(0, 0), by omega⟩ (by
    simp only [eyB, trkB, arrS, dS]
    (apply sub_of <;> simp only [go_sem, ↓reduceIte, Nat.reduceAdd, Nat.reduceSub, Nat.reduceMul, Nat.reduceEqDiff, Nat.reduceLT, Nat.reduceLeDiff, Int.reduceToNat, Int.reduceLE, Int.reduceLT, Int.reduceEq, Int.reduceNeg, reduceCtorEq] <;> (try simp [catF]) <;> (try exact fun j _ => Bd_nth (by simp [BdL, Bd]) j) <;> (try exact bd_setL (by simp [bdAs, BdL, Bd])) <;> (try exact nestF_bd _ _ _ _ _ _ _ _ _))) ?_
  rintro ⟨⟨i, v⟩, hi⟩
  simp only at hi ⊢
  by_cases him : i < m
  rotate_left
  · obtain rfl : m = i := by omega
    have d1 : decide ((m : Int) < (m : Int)) = false := decide_eq_false (by omega)
    obtain ⟨lf, hlf⟩ : ∃ lf : Nat, lf = 8 * n - (dS (biA (byN b)) m).pos := ⟨_, rfl⟩
    rw [← hlf] at hz
    have w1 : IntKind.i64.wrap (8 * (n : Int)) = ((8 * n : Nat) : Int) := by rw [wrap_id (by omega) (by omega)]; omega
    have w2 : IntKind.i64.wrap (((8 * n : Nat) : Int) - ((dS (biA (byN b)) m).pos : Int)) = (lf : Int) := by rw [wrap_id (by omega) (by omega)]; omega
    have d2 : decide ((lf : Int) < 8) = true := decide_eq_true (by omega)
    have d3 : decide (((0 : Nat) : Int) = 0) = true := rfl
    simp only [d1, w1, w2, d2, eyB, isSniff_eq, last_eq, need_eq, unfold_eq, p21_4, p21_5, p21_10, p21_12, p21_14, Try.f71, Try.f21, go_sem, ↓reduceIte, Nat.reduceAdd, Nat.reduceSub, Nat.reduceMul, Nat.reduceEqDiff, Nat.reduceLT, Nat.reduceLeDiff, Int.reduceToNat, Int.reduceLE, Int.reduceLT, Int.reduceEq, Int.reduceNeg, reduceCtorEq]
    unfold callS
    refine calls_mono ?_ (get_at n9 hb (p := (dS (biA (byN b)) m).pos) (many := lf) (by omega) (by omega) _ 2 rfl)
    rintro o h' ⟨rfl, rfl⟩
    simp only [hz, d3, eyB, isSniff_eq, last_eq, need_eq, unfold_eq, p21_4, p21_5, p21_10, p21_12, p21_14, Try.f71, Try.f21, go_sem, ↓reduceIte, Nat.reduceAdd, Nat.reduceSub, Nat.reduceMul, Nat.reduceEqDiff, Nat.reduceLT, Nat.reduceLeDiff, Int.reduceToNat, Int.reduceLE, Int.reduceLT, Int.reduceEq, Int.reduceNeg, reduceCtorEq]
    refine ⟨⟨by omega, by omega⟩, defS_mono (def65_none _ _ _) ?_⟩
    rintro p' h' ⟨rfl, rfl⟩
    simp only [isSniff_eq, last_eq, need_eq, unfold_eq, p21_4, p21_5, p21_10, p21_12, p21_14, Try.f71, Try.f21, go_sem, ↓reduceIte, Nat.reduceAdd, Nat.reduceSub, Nat.reduceMul, Nat.reduceEqDiff, Nat.reduceLT, Nat.reduceLeDiff, Int.reduceToNat, Int.reduceLE, Int.reduceLT, Int.reduceEq, Int.reduceNeg, reduceCtorEq]
    exact ⟨Nat.sub_zero _, fun _ _ _ _ => trivial⟩
  have d1 : decide ((i : Int) < (m : Int)) = true := decide_eq_true (by omega)
  obtain ⟨k1, k2, ke, kse, ksn⟩ := hs i him
  have hle := biA_le (byN b)
  have R := fun (p : Nat) hk hp h k hB => rd_at n9 hb (p := p) hk hp h k hB
  have G := fun (p many : Nat) hm hp h k hB => get_at n9 hb (p := p) (many := many) hm hp h k hB
  generalize biA (byN b) = β at *
  have hP1 : cdE β (dS β i).pos = dP1 β (dS β i) := rfl
  have hSe : rdB β (dP1 β (dS β i)) 4 = dSe β (dS β i) := rfl
  have hP2 : dP1 β (dS β i) + 4 = dP2 β (dS β i) := rfl
  have hPN : cdE β (dP2 β (dS β i)) = (dS β (i + 1)).pos := rfl
  have l1 : dP1 β (dS β i) + 4 ≤ 8 * n := by unfold cdE at ke; omega
  have hV1 : 1 ≤ cdV β (dS β i).pos ∧ cdV β (dS β i).pos < 2 ^ 41 := by
    have h1 := rdB_lt hle ((dS β i).pos + cdK β (dS β i).pos + 1) (cdK β (dS β i).pos)
    have h2 : 2 ^ cdK β (dS β i).pos ≤ 2 ^ 40 := Nat.pow_le_pow_right (by omega) (by omega)
    have h3 := Nat.two_pow_pos (cdK β (dS β i).pos)
    unfold cdV; omega
  have hV2 : 1 ≤ cdV β (dP2 β (dS β i)) ∧ cdV β (dP2 β (dS β i)) < 2 ^ 41 := by
    have h1 := rdB_lt hle (dP2 β (dS β i) + cdK β (dP2 β (dS β i)) + 1) (cdK β (dP2 β (dS β i)))
    have h2 : 2 ^ cdK β (dP2 β (dS β i)) ≤ 2 ^ 40 := Nat.pow_le_pow_right (by omega) (by omega)
    have h3 := Nat.two_pow_pos (cdK β (dP2 β (dS β i)))
    unfold cdV; omega
  simp only [d1, eyB, trkB, isSniff_eq, last_eq, need_eq, unfold_eq, p21_4, p21_5, p21_10, p21_12, p21_14, Try.f71, Try.f21, go_sem, ↓reduceIte, Nat.reduceAdd, Nat.reduceSub, Nat.reduceMul, Nat.reduceEqDiff, Nat.reduceLT, Nat.reduceLeDiff, Int.reduceToNat, Int.reduceLE, Int.reduceLT, Int.reduceEq, Int.reduceNeg, reduceCtorEq]
  refine ⟨⟨by kernel_rfl, by kernel_rfl⟩, ?_⟩
  have hsn := snB_iff.1 ksn
  obtain ⟨hmi, hvs⟩ := dS_bd hs i (by omega)
  have hvs := hvs (dSe β (dS β i))
  have w1 : IntKind.u64.wrap ((cdV β (dS β i).pos : Int) - 1) = (cdV β (dS β i).pos : Int) - 1 := wrap_u64 (by omega) (by omega)
  have w2 : IntKind.i64.wrap ((cdV β (dS β i).pos : Int) - 1) = (cdV β (dS β i).pos : Int) - 1 := wrap_id (by omega) (by omega)
  have x0 : (dS β i).mi + ((cdV β (dS β i).pos : Int) - 1) = dX β (dS β i) 0 := rfl
  have x1 : (dSe β (dS β i) : Int) = dX β (dS β i) 1 := rfl
  have w3 : IntKind.i64.wrap (dX β (dS β i) 0) = dX β (dS β i) 0 := wrap_id (by omega) (by omega)
  have w4 : IntKind.i64.wrap (dSe β (dS β i) : Int) = (dSe β (dS β i) : Int) := wrap_id (by omega) (by omega)
  have d2 : decide ((dSe β (dS β i) : Int) < 12) = true := decide_eq_true (by omega)
  have w5 : IntKind.u64.wrap ((cdV β (dP2 β (dS β i)) : Int) - 1) = ((cdV β (dP2 β (dS β i)) - 1 : Nat) : Int) := by rw [wrap_u64 (by omega) (by omega)]; omega
  have hn := nth_arr (.int .i64 (dS β i).mi) (dS β i).vs kse
  have x2 : (dS β i).vs (dSe β (dS β i)) + uz (cdV β (dP2 β (dS β i)) - 1) = dX β (dS β i) 2 := rfl
  have w6 : IntKind.i64.wrap (dX β (dS β i) 2) = dX β (dS β i) 2 := wrap_id (by omega) (by omega)
  have huz := uz_bd (y := cdV β (dP2 β (dS β i)) - 1) (B := 10000000) (by omega) (by omega)
  have wf : (Lit.int IntKind.u64 ((cdV β (dP2 β (dS β i)) - 1 : Nat) : Int)).wf = true := by
    simp [Lit.wf, IntKind.min, IntKind.max, IntKind.signed, IntKind.bits]
    omega
  rw [← x1] at ksn
  have wi : IntKind.i64.wrap ((i : Int) + 1) = ((i + 1 : Nat) : Int) := by rw [wrap_id (by omega) (by omega)]; omega
  have hup := upd_arr (.int .i64 (dX β (dS β i) 0)) (dS β i).vs (dX β (dS β i) 2) kse
  have tm : (dS β (i + 1)).mi = dX β (dS β i) 0 := rfl
  have tv : (dS β (i + 1)).vs = upF (dS β i).vs (dSe β (dS β i)) (dX β (dS β i) 2) := rfl
  refine ⟨?_, ?_⟩
  · refine calls_mono ?_ (R _ k1 (by rw [hP1]; omega) _ 2 rfl)
    rintro o h' ⟨rfl, rfl⟩
    simp only [hP1, w1, w2, w3, w4, x0, hn, lenS_arr, eyB, trkB, isSniff_eq, last_eq, need_eq, unfold_eq, p21_4, p21_5, p21_10, p21_12, p21_14, Try.f71, Try.f21, go_sem, ↓reduceIte, Nat.reduceAdd, Nat.reduceSub, Nat.reduceMul, Nat.reduceEqDiff, Nat.reduceLT, Nat.reduceLeDiff, Int.reduceToNat, Int.reduceLE, Int.reduceLT, Int.reduceEq, Int.reduceNeg, reduceCtorEq]
    refine ⟨?_, ?_⟩
    all_goals
      refine calls_mono ?_ (G _ 4 (by omega) (by omega) _ 2 rfl)
      rintro o h' ⟨rfl, rfl⟩
      simp only [hSe, hP2, w4, d2, hn, lenS_arr, Int.toNat_natCast, eyB, trkB, isSniff_eq, last_eq, need_eq, unfold_eq, p21_4, p21_5, p21_10, p21_12, p21_14, Try.f71, Try.f21, go_sem, ↓reduceIte, Nat.reduceAdd, Nat.reduceSub, Nat.reduceMul, Nat.reduceEqDiff, Nat.reduceLT, Nat.reduceLeDiff, Int.reduceToNat, Int.reduceLE, Int.reduceLT, Int.reduceEq, Int.reduceNeg, reduceCtorEq]
      refine ⟨⟨by kernel_rfl, by kernel_rfl⟩, ⟨by omega, by omega⟩, by omega, ?_⟩
      refine calls_mono ?_ (R _ k2 (by omega) _ 2 rfl)
      rintro o h' ⟨rfl, rfl⟩
      simp only [hPN, w5, hn, lenS_arr, x2, w6, ksn, Int.toNat_natCast, eyB, trkB, isSniff_eq, last_eq, need_eq, unfold_eq, p21_4, p21_5, p21_10, p21_12, p21_14, Try.f71, Try.f21, go_sem, ↓reduceIte, Nat.reduceAdd, Nat.reduceSub, Nat.reduceMul, Nat.reduceEqDiff, Nat.reduceLT, Nat.reduceLeDiff, Int.reduceToNat, Int.reduceLE, Int.reduceLT, Int.reduceEq, Int.reduceNeg, reduceCtorEq]
      refine ⟨⟨⟨by omega, by omega⟩, by omega⟩, ⟨wf, by omega⟩, ⟨⟨by omega, by omega⟩, by omega⟩, ⟨by kernel_rfl, by kernel_rfl⟩, ⟨by omega, by omega⟩, by omega, ⟨by omega, by omega⟩, ⟨(i + 1, v + 1), by omega⟩, by simp only []; omega, ?_⟩
      apply sub_of <;> simp only [tm, tv, hup, wi, go_sem, ↓reduceIte, Nat.reduceAdd, Nat.reduceSub, Nat.reduceMul, Nat.reduceEqDiff, Nat.reduceLT, Nat.reduceLeDiff, Int.reduceToNat, Int.reduceLE, Int.reduceLT, Int.reduceEq, Int.reduceNeg, reduceCtorEq]
      all_goals first | exact fun _ _ _ _ => trivial | exact cat_dR | exact ⟨fun _ _ _ _ => trivial, bdL_arr _ _ _⟩ | exact ⟨fun _ _ _ _ => trivial, by simp [arrS, subL, subX]⟩
  · refine calls_mono ?_ (R _ k1 (by rw [hP1]; omega) _ 2 rfl)
    rintro o h' ⟨rfl, rfl⟩
    simp only [hP1, w1, w2, w3, w4, x0, hn, lenS_arr, eyB, trkB, isSniff_eq, last_eq, need_eq, unfold_eq, p21_4, p21_5, p21_10, p21_12, p21_14, Try.f71, Try.f21, go_sem, ↓reduceIte, Nat.reduceAdd, Nat.reduceSub, Nat.reduceMul, Nat.reduceEqDiff, Nat.reduceLT, Nat.reduceLeDiff, Int.reduceToNat, Int.reduceLE, Int.reduceLT, Int.reduceEq, Int.reduceNeg, reduceCtorEq]
    refine calls_mono ?_ (G _ 4 (by omega) (by omega) _ 2 rfl)
    rintro o h' ⟨rfl, rfl⟩
    simp only [hSe, hP2, w4, d2, hn, lenS_arr, Int.toNat_natCast, eyB, trkB, isSniff_eq, last_eq, need_eq, unfold_eq, p21_4, p21_5, p21_10, p21_12, p21_14, Try.f71, Try.f21, go_sem, ↓reduceIte, Nat.reduceAdd, Nat.reduceSub, Nat.reduceMul, Nat.reduceEqDiff, Nat.reduceLT, Nat.reduceLeDiff, Int.reduceToNat, Int.reduceLE, Int.reduceLT, Int.reduceEq, Int.reduceNeg, reduceCtorEq]
    refine ⟨⟨by kernel_rfl, by kernel_rfl⟩, ⟨by omega, by omega⟩, by omega, ?_⟩
    refine calls_mono ?_ (R _ k2 (by omega) _ 2 rfl)
    rintro o h' ⟨rfl, rfl⟩
    simp only [hPN, w5, hn, lenS_arr, x2, w6, ksn, Int.toNat_natCast, eyB, trkB, isSniff_eq, last_eq, need_eq, unfold_eq, p21_4, p21_5, p21_10, p21_12, p21_14, Try.f71, Try.f21, go_sem, ↓reduceIte, Nat.reduceAdd, Nat.reduceSub, Nat.reduceMul, Nat.reduceEqDiff, Nat.reduceLT, Nat.reduceLeDiff, Int.reduceToNat, Int.reduceLE, Int.reduceLT, Int.reduceEq, Int.reduceNeg, reduceCtorEq]
    refine ⟨⟨⟨by omega, by omega⟩, by omega⟩, ⟨wf, by omega⟩, ⟨⟨by omega, by omega⟩, by omega⟩, ⟨by kernel_rfl, by kernel_rfl⟩, ⟨by omega, by omega⟩, by omega, ⟨by omega, by omega⟩, ⟨(i + 1, v + 1), by omega⟩, by simp only []; omega, ?_⟩
    apply sub_of <;> simp only [tm, tv, hup, wi, go_sem, ↓reduceIte, Nat.reduceAdd, Nat.reduceSub, Nat.reduceMul, Nat.reduceEqDiff, Nat.reduceLT, Nat.reduceLeDiff, Int.reduceToNat, Int.reduceLE, Int.reduceLT, Int.reduceEq, Int.reduceNeg, reduceCtorEq]
    all_goals first | exact fun _ _ _ _ => trivial | exact cat_dR | exact ⟨fun _ _ _ _ => trivial, bdL_arr _ _ _⟩ | exact ⟨fun _ _ _ _ => trivial, by simp [arrS, subL, subX]⟩
end Go.Eng
end

/- TopLog: the law. -/
section
namespace Go.Eng
open Go Go.RowKit Go.Proofs
set_option maxRecDepth 100000
set_option maxHeartbeats 4000000
attribute [local irreducible] OwnT DefS
theorem lgE_zero {l : Nat → Nat → Int} {m : Nat} (h : lgE l m = 0) : m ≤ 1024 ∧ ∀ k, k < m → lgV l k = true := by
  unfold lgE at h
  split at h
  · exact absurd h (by decide)
  · split at h
    · rename_i h1 h2
      exact ⟨by omega, lgAll_iff.1 h2⟩
    · exact absurd h (by decide)
theorem lgE_of {l : Nat → Nat → Int} {m : Nat} (h1 : m ≤ 1024) (h2 : ∀ k, k < m → lgV l k = true) : lgE l m = 0 := by rw [lgE, if_neg (by omega), if_pos (lgAll_iff.2 h2)]
/-- The file of a log is read, and holds the log. -/
theorem file_back {l : Nat → Nat → Int} {m : Nat} (h : lgE l m = 0) :
    (UOk (byN (ivf (lgF l m))) (lgN l m - 1) (ulM (ivf (lgF l m))) ∧ ∀ i, 0 ≤ ivf (lgF l m) i 0) ∧ ulM (ivf (lgF l m)) = m ∧ ∀ i, i < m → ∀ j, j < 3 → dR (biA (byN (ivf (lgF l m)))) i j = l i j := by
  obtain ⟨h1, h2⟩ := lgE_zero h
  obtain ⟨h3, h4⟩ := log_back h1 h2
  have e1 : byN (ivf (lgF l m)) = fB m (enL l m) := by
    funext i
    show ((fB m (enL l m) i : Nat) : Int).toNat = _
    rw [Int.toNat_natCast]
  have e2 : lgN l m - 1 = nB (enL l m) := by rw [lgN, if_pos h, Nat.add_sub_cancel]
  have e3 : ulM (ivf (lgF l m)) = m := by
    have h5 := h3.cn
    rw [← e1] at h5
    exact h5
  rw [e1, e2, e3]
  exact ⟨⟨h3, fun i => Int.natCast_nonneg (fB m (enL l m) i)⟩, rfl, h4⟩
theorem cat_sf {L : List Sn} {x : Sn} {N : Nat} (hN : N = L.length) : ∀ a j, a < N + 1 → j < 3 → catF N (fun i j => SV.int .i64 (sf L i j)) (oneF [.int .i64 x.mi, .int .i64 (x.se : Int), .int .i64 x.va]) a j = .int .i64 (sf (L ++ [x]) a j) := fun a j ha hj => by
  subst hN
  simp only [catF]
  by_cases h : a < L.length
  · rw [if_pos h, sf_app _ _ h]
  · rw [if_neg h]
    obtain rfl : a = L.length := by omega
    rw [Nat.sub_self, sf_snoc]
    rcases (by omega : j = 0 ∨ j = 1 ∨ j = 2) with rfl | rfl | rfl <;> rfl
def topLogBase : BaseF := fun args => match args with
  | [.agg [.row n sz_s f_s, .int .i64 vo, .int .i64 fa], .int .i64 th, .int .i64 ri, .int .i64 fr, .int .i64 to, .row m sz_l f_l, .int .u16 bits] => some ((sz_s = 3 ∧ IntR n 3 f_s) ∧ (sz_l = 3 ∧ IntR m 3 f_l) ∧ ((Lit.int .u16 bits).wf = true), .bool true)
  | _ => none
theorem topLog_base : Base Try.prog 5 topLogBase := by
  intro args p v hq hp
  unfold topLogBase at hq
  split at hq
  rotate_left
  · cases hq
  rename_i n sz_s f_s vo fa th ri fr to m sz_l f_l bits
  cases hq
  obtain ⟨⟨rfl, i_s⟩, ⟨rfl, i_l⟩, wf_bits⟩ := hp
  refine base_of (C := cx [] [] [(19, awakeBase), (20, logBase), (21, unlogBase), (22, alarmBase), (23, worstOBase), (24, votingBase), (25, sniffsBase)] [] none) (cx_ok trivial ⟨awake_base, log_base, unlog_base, alarm_base, worstO_base, voting_base, sniffs_base, trivial⟩) rfl (g := 5) (fn := Try.f5)
    (args' := [.agg [.row n 3 (rowF .i64 (ivf f_s)), .int .i64 vo, .int .i64 fa], .int .i64 th, .int .i64 ri, .int .i64 fr, .int .i64 to, .row m 3 (rowF .i64 (ivf f_l)), .int .u16 bits]) (fn_5) rfl 1000 (by
    simp only [BdL, Bd, and_self, and_true, true_and]
    exact ⟨(fun i j hi hj => by rw [i_s i j hi hj]; trivial), (fun i j hi hj => by rw [i_l i j hi hj]; trivial)⟩) ⟨SameD.agg ⟨SameD.int i_s, SameD.rfl' _, SameD.rfl' _, trivial⟩, SameD.rfl' _, SameD.rfl' _, SameD.rfl' _, SameD.rfl' _, SameD.int i_l, SameD.rfl' _, trivial⟩ ?_
  generalize ivf f_s = s
  generalize ivf f_l = l
  simp only [rowF_eq]
  cases c1 : decide (80 < (m : Int)) with
  | true => simp only [c1, awake_eq, log_eq, unlog_eq, alarm_eq, worstO_eq, voting_eq, sniffs_eq, Try.f5, go_sem, ↓reduceIte, Nat.reduceAdd, Nat.reduceSub, Nat.reduceMul, Nat.reduceEqDiff, Nat.reduceLT, Nat.reduceLeDiff, Int.reduceToNat, Int.reduceLE, Int.reduceLT, Int.reduceEq, Int.reduceNeg, reduceCtorEq]
  | false =>
  cases c2 : decide (20 < (n : Int)) with
  | true => simp only [c1, c2, awake_eq, log_eq, unlog_eq, alarm_eq, worstO_eq, voting_eq, sniffs_eq, Try.f5, go_sem, ↓reduceIte, Nat.reduceAdd, Nat.reduceSub, Nat.reduceMul, Nat.reduceEqDiff, Nat.reduceLT, Nat.reduceLeDiff, Int.reduceToNat, Int.reduceLE, Int.reduceLT, Int.reduceEq, Int.reduceNeg, reduceCtorEq]
  | false =>
  cases c3 : decide (60 < to) with
  | true => simp only [c1, c2, c3, awake_eq, log_eq, unlog_eq, alarm_eq, worstO_eq, voting_eq, sniffs_eq, Try.f5, go_sem, ↓reduceIte, Nat.reduceAdd, Nat.reduceSub, Nat.reduceMul, Nat.reduceEqDiff, Nat.reduceLT, Nat.reduceLeDiff, Int.reduceToNat, Int.reduceLE, Int.reduceLT, Int.reduceEq, Int.reduceNeg, reduceCtorEq]
  | false =>
  have hm : m ≤ 80 := by simp only [decide_eq_false_iff_not] at c1; omega
  have hn : n ≤ 20 := by simp only [decide_eq_false_iff_not] at c2; omega
  have hto : to ≤ 60 := by simp only [decide_eq_false_iff_not] at c3; omega
  cases c5 : decide ((wrO n s vo fa th ri fr to).e = 0) && !decide ((wrO n s vo fa th ri fr to).most < 0) with
  | false =>
    have fin : ∀ A : Prop, spl (!decide ((wrO n s vo fa th ri fr to).e = 0)) True (spl (decide ((wrO n s vo fa th ri fr to).most < 0)) True A) := fun A => by
      cases d1 : decide ((wrO n s vo fa th ri fr to).e = 0) with
      | false => exact ⟨fun _ => trivial, fun h => by cases h⟩
      | true =>
        rw [d1, Bool.true_and] at c5
        have d2 : decide ((wrO n s vo fa th ri fr to).most < 0) = true := by simpa using c5
        rw [d2]
        exact ⟨fun _ => trivial, fun _ => ⟨fun _ => trivial, fun h => by cases h⟩⟩
    cases c4 : decide (lgE l m = 0) with
    | true =>
      simp only [decide_eq_true_eq] at c4
      obtain ⟨u1, u2, u3⟩ := file_back c4
      have hal := alO_cg (n := n) (s := s) (vo := vo) (fa := fa) (th := th) u3
      simp only [c1, c2, c3, decide_eq_true c4, u2, hal, awake_eq, log_eq, unlog_eq, alarm_eq, worstO_eq, voting_eq, sniffs_eq, Try.f5, go_sem, ↓reduceIte, Nat.reduceAdd, Nat.reduceSub, Nat.reduceMul, Nat.reduceEqDiff, Nat.reduceLT, Nat.reduceLeDiff, Int.reduceToNat, Int.reduceLE, Int.reduceLT, Int.reduceEq, Int.reduceNeg, reduceCtorEq]
      exact ⟨⟨fun _ _ _ _ => rfl, by rw [u2] at u1; exact u1⟩, ⟨by omega, by omega⟩, ⟨by omega, by omega⟩, by omega, fin _⟩
    | false =>
      simp only [c1, c2, c3, c4, awake_eq, log_eq, unlog_eq, alarm_eq, worstO_eq, voting_eq, sniffs_eq, Try.f5, go_sem, ↓reduceIte, Nat.reduceAdd, Nat.reduceSub, Nat.reduceMul, Nat.reduceEqDiff, Nat.reduceLT, Nat.reduceLeDiff, Int.reduceToNat, Int.reduceLE, Int.reduceLT, Int.reduceEq, Int.reduceNeg, reduceCtorEq]
      exact ⟨by omega, fin _⟩
  | true =>
  rw [Bool.and_eq_true, Bool.not_eq_true'] at c5
  obtain ⟨c5, c6⟩ := c5
  obtain ⟨hvo, hth, hri, hmi, hW1, hcn⟩ := wrO_ok (by simpa using c5) (by simpa using c6)
  obtain ⟨n1, n12, v1, vn, f0, fn, ok⟩ := voB_ok hvo
  obtain ⟨M, hM⟩ : ∃ M : Nat, (wrO n s vo fa th ri fr to).minute = M := ⟨(wrO n s vo fa th ri fr to).minute.toNat, by omega⟩
  obtain ⟨W, hW⟩ : ∃ W : Int, (wrO n s vo fa th ri fr to).most = W - 1 := ⟨(wrO n s vo fa th ri fr to).most + 1, by omega⟩
  simp only [decide_eq_true_eq, decide_eq_false_iff_not] at c5 c6
  rw [hM] at hmi
  rw [hM, hW, show W - 1 + 1 = W by omega] at hcn
  rw [hW] at hW1 c6
  have d1 : decide ((wrO n s vo fa th ri fr to).e = 0) = true := decide_eq_true c5
  have d2 : decide (W - 1 < 0) = false := decide_eq_false c6
  have d3 : decide ((M : Int) < 0) = false := decide_eq_false (by omega)
  have d4 : decide (to < (M : Int)) = false := decide_eq_false (by omega)
  have d5 : decide (ri < 0) = false := decide_eq_false (by omega)
  have d6 : decide (th < 0) = false := decide_eq_false (by omega)
  have w1 : IntKind.i64.wrap ((M : Int) + 1) = ((M + 1 : Nat) : Int) := by rw [wrap_id (by omega) (by omega)]; omega
  obtain ⟨B, hB⟩ : ∃ B : Nat → Bool, (fun i => decide (bitI .and .u16 (bits.fdiv (2 ^ min i 16)) 1 = 1)) = B := ⟨_, rfl⟩
  cases c4 : decide (lgE l m = 0)
  case' true =>
    simp only [decide_eq_true_eq] at c4
    obtain ⟨u1, u2, u3⟩ := file_back c4
    have hal := alO_cg (n := n) (s := s) (vo := vo) (fa := fa) (th := th) u3
    simp only [c1, c2, c3, decide_eq_true c4, u2, hal, hvo, hM, hW, d1, d2, d3, d4, d5, d6, w1, awake_eq, log_eq, unlog_eq, alarm_eq, worstO_eq, voting_eq, sniffs_eq, Try.f5, go_sem, ↓reduceIte, Nat.reduceAdd, Nat.reduceSub, Nat.reduceMul, Nat.reduceEqDiff, Nat.reduceLT, Nat.reduceLeDiff, Int.reduceToNat, Int.reduceLE, Int.reduceLT, Int.reduceEq, Int.reduceNeg, reduceCtorEq]
    refine ⟨⟨fun _ _ _ _ => rfl, by rw [u2] at u1; exact u1⟩, ⟨by omega, by omega⟩, ⟨by omega, by omega⟩, by omega, ?_⟩
    clear u1 u2 u3 hal
  case' false =>
    simp only [c1, c2, c3, c4, hvo, hM, hW, d1, d2, d3, d4, d5, d6, w1, awake_eq, log_eq, unlog_eq, alarm_eq, worstO_eq, voting_eq, sniffs_eq, Try.f5, go_sem, ↓reduceIte, Nat.reduceAdd, Nat.reduceSub, Nat.reduceMul, Nat.reduceEqDiff, Nat.reduceLT, Nat.reduceLeDiff, Int.reduceToNat, Int.reduceLE, Int.reduceLT, Int.reduceEq, Int.reduceNeg, reduceCtorEq]
    refine ⟨by omega, ?_⟩
  all_goals clear c4
  all_goals
    refine loop_ofH { p : Nat × Nat // p.1 ≤ M + 1 } (fun p => [(130, .int .i64 (p.1.1 : Int)), (129, .int .i64 ((M + 1 : Nat) : Int)), (25, .vec 0 p.1.2), (24, .int .i64 (M : Int)), (23, .int .i64 (W - 1)), (7, .ptr 0 0), (6, .int .u16 bits), (2, .int .i64 ri), (1, .int .i64 th)]) (fun _ p => ⟨[.live 82 [.row n 3 fun i j => .int .i64 (s i j), .int .i64 vo, .int .i64 fa]], [.live p.1.2 95 3 (alN n s fa ri W (M : Int) B p.1.1).length (fun i j => .int .i64 (sf (alN n s fa ri W (M : Int) B p.1.1) i j))]⟩) (fun p => M + 1 - p.1.1) (fun _ => ⟨rfl, rfl⟩) ⟨(0, 0), by omega⟩ (by
      simp only [alN]
      (apply sub_of <;> simp only [go_sem, ↓reduceIte, Nat.reduceAdd, Nat.reduceSub, Nat.reduceMul, Nat.reduceEqDiff, Nat.reduceLT, Nat.reduceLeDiff, Int.reduceToNat, Int.reduceLE, Int.reduceLT, Int.reduceEq, Int.reduceNeg, reduceCtorEq] <;> (try simp [catF]) <;> (try exact fun j _ => Bd_nth (by simp [BdL, Bd]) j) <;> (try exact bd_setL (by simp [bdAs, BdL, Bd])) <;> (try exact nestF_bd _ _ _ _ _ _ _ _ _))) ?_
    rintro ⟨⟨t, v⟩, ht⟩
    simp only at ht ⊢
    have wt : IntKind.i64.wrap ((t : Int) + 1) = ((t + 1 : Nat) : Int) := by rw [wrap_id (by omega) (by omega)]; omega
    by_cases htM : t < M + 1
    rotate_left
    · obtain rfl : t = M + 1 := by omega
      have e1 : decide (((M + 1 : Nat) : Int) < ((M + 1 : Nat) : Int)) = false := decide_eq_false (by omega)
      obtain ⟨L, hL⟩ : ∃ L, L = alN n s fa ri W (M : Int) B (M + 1) := ⟨_, rfl⟩
      obtain ⟨k1, k2, k3, k4⟩ := steep (B := B) hvo hth hri (by omega) ⟨by omega, by omega⟩ hcn hL
      rw [← hL]
      have k5 := lgE_of (by omega) k2
      obtain ⟨u1, u2, u3⟩ := file_back k5
      have hal := alO_cg (n := n) (s := s) (vo := vo) (fa := fa) (th := th) u3
      rw [u2] at u1
      simp only [e1, k5, u2, hal, k3, decide_eq_true k4, awake_eq, log_eq, unlog_eq, alarm_eq, worstO_eq, voting_eq, sniffs_eq, Try.f5, go_sem, ↓reduceIte, Nat.reduceAdd, Nat.reduceSub, Nat.reduceMul, Nat.reduceEqDiff, Nat.reduceLT, Nat.reduceLeDiff, Int.reduceToNat, Int.reduceLE, Int.reduceLT, Int.reduceEq, Int.reduceNeg, reduceCtorEq]
      exact ⟨⟨fun _ _ _ _ => rfl, u1⟩, ⟨by omega, by omega⟩, ⟨by omega, u3⟩⟩
    have e1 : decide ((t : Int) < ((M + 1 : Nat) : Int)) = true := decide_eq_true (by omega)
    have hz : 0 ≤ ri * ((M : Int) - (t : Int)) := Int.mul_nonneg hri.1 (by omega)
    have hz2 : ri * ((M : Int) - (t : Int)) ≤ 1048576 * 60 := Int.mul_le_mul hri.2 (by omega) (by omega) (by omega)
    have w2 : IntKind.i64.wrap (W - 1 + 1) = W := by rw [wrap_id (by omega) (by omega)]; omega
    have w3 : IntKind.i64.wrap ((M : Int) - (t : Int)) = (M : Int) - (t : Int) := wrap_id (by omega) (by omega)
    have w4 : IntKind.i64.wrap (ri * ((M : Int) - (t : Int))) = ri * ((M : Int) - (t : Int)) := wrap_id (by omega) (by omega)
    have w5 : IntKind.i64.wrap (W - ri * ((M : Int) - (t : Int))) = W - ri * ((M : Int) - (t : Int)) := wrap_id (by omega) (by omega)
    obtain ⟨c, hc⟩ : ∃ c, max 0 (W - ri * ((M : Int) - (t : Int))) = c := ⟨_, rfl⟩
    simp only [e1, w2, w3, w4, w5, hc, awake_eq, log_eq, unlog_eq, alarm_eq, worstO_eq, voting_eq, sniffs_eq, Try.f5, go_sem, ↓reduceIte, Nat.reduceAdd, Nat.reduceSub, Nat.reduceMul, Nat.reduceEqDiff, Nat.reduceLT, Nat.reduceLeDiff, Int.reduceToNat, Int.reduceLE, Int.reduceLT, Int.reduceEq, Int.reduceNeg, reduceCtorEq]
    obtain ⟨A0, hA0⟩ : ∃ A0, alN n s fa ri W (M : Int) B t = A0 := ⟨_, rfl⟩
    have hAl := alN_len (n := n) (s := s) (fa := fa) (ri := ri) (W := W) (mu := (M : Int)) (B := B) t
    have hnt : n * t ≤ 12 * 60 := Nat.mul_le_mul n12 (by omega)
    rw [hA0] at hAl
    refine loop_ofH { q : Nat × Nat // q.1 ≤ n } (fun q => [(145, .int .i64 (q.1.1 : Int)), (144, .int .i64 (n : Int)), (143, .row n 3 fun i j => .int .i64 (s i j)), (28, .int .i64 (fcN fa B q.1.1 : Int)), (27, .int .i64 c), (26, .int .i64 (t : Int)), (130, .int .i64 (t : Int)), (129, .int .i64 ((M + 1 : Nat) : Int)), (25, .vec 0 q.1.2), (24, .int .i64 (M : Int)), (23, .int .i64 (W - 1)), (7, .ptr 0 0), (6, .int .u16 bits), (2, .int .i64 ri), (1, .int .i64 th)]) (fun _ q => ⟨[.live 82 [.row n 3 fun i j => .int .i64 (s i j), .int .i64 vo, .int .i64 fa]], [.live q.1.2 95 3 (A0 ++ rwN s fa ri W (M : Int) B t q.1.1).length (fun i j => .int .i64 (sf (A0 ++ rwN s fa ri W (M : Int) B t q.1.1) i j))]⟩) (fun q => n - q.1.1) (fun _ => ⟨rfl, rfl⟩) ⟨(0, v), by omega⟩ (by
      simp only [rwN, fcN, List.append_nil, hA0]
      (apply sub_of <;> simp only [go_sem, ↓reduceIte, Nat.reduceAdd, Nat.reduceSub, Nat.reduceMul, Nat.reduceEqDiff, Nat.reduceLT, Nat.reduceLeDiff, Int.reduceToNat, Int.reduceLE, Int.reduceLT, Int.reduceEq, Int.reduceNeg, reduceCtorEq] <;> (try simp [catF]) <;> (try exact fun j _ => Bd_nth (by simp [BdL, Bd]) j) <;> (try exact bd_setL (by simp [bdAs, BdL, Bd])) <;> (try exact nestF_bd _ _ _ _ _ _ _ _ _))) ?_
    rintro ⟨⟨i, u⟩, hi⟩
    simp only at hi ⊢
    have wi : IntKind.i64.wrap ((i : Int) + 1) = ((i + 1 : Nat) : Int) := by rw [wrap_id (by omega) (by omega)]; omega
    by_cases hin : i < n
    rotate_left
    · obtain rfl : n = i := by omega
      have g1 : decide ((n : Int) < (n : Int)) = false := decide_eq_false (by omega)
      have hal : alN n s fa ri W (M : Int) B (t + 1) = A0 ++ rwN s fa ri W (M : Int) B t n := by rw [alN, hA0]
      simp only [g1, awake_eq, log_eq, unlog_eq, alarm_eq, worstO_eq, voting_eq, sniffs_eq, Try.f5, go_sem, ↓reduceIte, Nat.reduceAdd, Nat.reduceSub, Nat.reduceMul, Nat.reduceEqDiff, Nat.reduceLT, Nat.reduceLeDiff, Int.reduceToNat, Int.reduceLE, Int.reduceLT, Int.reduceEq, Int.reduceNeg, reduceCtorEq]
      refine ⟨⟨(t + 1, u), by omega⟩, by simp only []; omega, ?_⟩
      apply sub_of <;> simp only [wt, hal, go_sem, ↓reduceIte, Nat.reduceAdd, Nat.reduceSub, Nat.reduceMul, Nat.reduceEqDiff, Nat.reduceLT, Nat.reduceLeDiff, Int.reduceToNat, Int.reduceLE, Int.reduceLT, Int.reduceEq, Int.reduceNeg, reduceCtorEq] <;> (try simp) <;> (try exact fun j _ => Bd_nth (by simp [BdL, Bd]) j) <;> (try exact bd_setL (by simp [bdAs, BdL, Bd])) <;> (try exact nestF_bd _ _ _ _ _ _ _ _ _)
    have g1 : decide ((i : Int) < (n : Int)) = true := decide_eq_true (by omega)
    obtain ⟨ok0, ok1, ok2⟩ := ok i hin
    have hRl := rwN_len (s := s) (fa := fa) (ri := ri) (W := W) (mu := (M : Int)) (B := B) t i
    have hfb := cnN_le (bdN fa B) i
    rw [← fcN_eq] at hfb
    have hBi : decide (bitI .and .u16 (bits.fdiv (2 ^ min i 16)) 1 = 1) = B i := congrFun hB i
    have w6 : IntKind.i64.wrap ((t : Int) - s i 0) = (t : Int) - s i 0 := wrap_id (by omega) (by omega)
    have w7 : IntKind.i64.wrap (c - s i 2) = c - s i 2 := wrap_id (by omega) (by omega)
    have w8 : IntKind.i64.wrap ((fcN fa B i : Int) + 1) = ((fcN fa B i + 1 : Nat) : Int) := by rw [wrap_id (by omega) (by omega)]; omega
    obtain ⟨X, hX⟩ : ∃ X, A0 ++ rwN s fa ri W (M : Int) B t i = X := ⟨_, rfl⟩
    have hXl : X.length ≤ 1000 := by rw [← hX, List.length_append]; omega
    rw [hX]
    cases b1 : B i with
    | false =>
      have hbd : bdN fa B i = false := by simp only [bdN, b1]; rfl
      have hfc : fcN fa B (i + 1) = fcN fa B i := by simp only [fcN, b1]; rfl
      have hva : vaN s fa ri W (M : Int) B t i = max (-1048576) (c - s i 2) := by rw [vaN, hbd, hc]; rfl
      rw [b1] at hBi
      cases g2 : decide ((t : Int) < s i 0) with
      | true =>
        have hdu : dueB s t i = false := by simp only [dueB, g2]; rfl
        have hrw : A0 ++ rwN s fa ri W (M : Int) B t (i + 1) = X := by rw [rwN, if_neg (by rw [hdu]; decide), List.append_nil, hX]
        simp only [g1, hBi, w6, w7, w8, g2, Int.toNat_natCast, awake_eq, log_eq, unlog_eq, alarm_eq, worstO_eq, voting_eq, sniffs_eq, Try.f5, go_sem, ↓reduceIte, Nat.reduceAdd, Nat.reduceSub, Nat.reduceMul, Nat.reduceEqDiff, Nat.reduceLT, Nat.reduceLeDiff, Int.reduceToNat, Int.reduceLE, Int.reduceLT, Int.reduceEq, Int.reduceNeg, reduceCtorEq]
        refine ⟨⟨by omega, by omega⟩, by omega, ⟨(i + 1, u), by omega⟩, by simp only []; omega, ?_⟩
        apply sub_of <;> simp only [wi, hrw, hfc, go_sem, ↓reduceIte, Nat.reduceAdd, Nat.reduceSub, Nat.reduceMul, Nat.reduceEqDiff, Nat.reduceLT, Nat.reduceLeDiff, Int.reduceToNat, Int.reduceLE, Int.reduceLT, Int.reduceEq, Int.reduceNeg, reduceCtorEq] <;> (try simp) <;> (try exact fun j _ => Bd_nth (by simp [BdL, Bd]) j) <;> (try exact bd_setL (by simp [bdAs, BdL, Bd])) <;> (try exact nestF_bd _ _ _ _ _ _ _ _ _)
      | false =>
      cases g3 : decide (((t : Int) - s i 0).tmod (s i 1) = 0) with
      | false =>
        have hdu : dueB s t i = false := by simp only [dueB, g2, g3]; rfl
        have hrw : A0 ++ rwN s fa ri W (M : Int) B t (i + 1) = X := by rw [rwN, if_neg (by rw [hdu]; decide), List.append_nil, hX]
        simp only [g1, hBi, w6, w7, w8, g2, g3, Int.toNat_natCast, awake_eq, log_eq, unlog_eq, alarm_eq, worstO_eq, voting_eq, sniffs_eq, Try.f5, go_sem, ↓reduceIte, Nat.reduceAdd, Nat.reduceSub, Nat.reduceMul, Nat.reduceEqDiff, Nat.reduceLT, Nat.reduceLeDiff, Int.reduceToNat, Int.reduceLE, Int.reduceLT, Int.reduceEq, Int.reduceNeg, reduceCtorEq]
        refine ⟨⟨by omega, by omega⟩, by omega, by omega, ⟨(i + 1, u), by omega⟩, by simp only []; omega, ?_⟩
        apply sub_of <;> simp only [wi, hrw, hfc, go_sem, ↓reduceIte, Nat.reduceAdd, Nat.reduceSub, Nat.reduceMul, Nat.reduceEqDiff, Nat.reduceLT, Nat.reduceLeDiff, Int.reduceToNat, Int.reduceLE, Int.reduceLT, Int.reduceEq, Int.reduceNeg, reduceCtorEq] <;> (try simp) <;> (try exact fun j _ => Bd_nth (by simp [BdL, Bd]) j) <;> (try exact bd_setL (by simp [bdAs, BdL, Bd])) <;> (try exact nestF_bd _ _ _ _ _ _ _ _ _)
      | true =>
        have hdu : dueB s t i = true := by simp only [dueB, g2, g3]; rfl
        have hrw : A0 ++ rwN s fa ri W (M : Int) B t (i + 1) = X ++ [⟨(t : Int), i, vaN s fa ri W (M : Int) B t i⟩] := by rw [rwN, if_pos hdu, ← List.append_assoc, hX]
        rw [hva] at hrw
        simp only [g1, hBi, w6, w7, w8, g2, g3, Int.toNat_natCast, awake_eq, log_eq, unlog_eq, alarm_eq, worstO_eq, voting_eq, sniffs_eq, Try.f5, go_sem, ↓reduceIte, Nat.reduceAdd, Nat.reduceSub, Nat.reduceMul, Nat.reduceEqDiff, Nat.reduceLT, Nat.reduceLeDiff, Int.reduceToNat, Int.reduceLE, Int.reduceLT, Int.reduceEq, Int.reduceNeg, reduceCtorEq]
        refine ⟨⟨by omega, by omega⟩, by omega, by omega, ⟨by omega, by omega⟩, ⟨(i + 1, u + 1), by omega⟩, by simp only []; omega, ?_⟩
        apply sub_of <;> simp only [wi, hrw, hfc, List.length_append, List.length_singleton, go_sem, ↓reduceIte, Nat.reduceAdd, Nat.reduceSub, Nat.reduceMul, Nat.reduceEqDiff, Nat.reduceLT, Nat.reduceLeDiff, Int.reduceToNat, Int.reduceLE, Int.reduceLT, Int.reduceEq, Int.reduceNeg, reduceCtorEq]
        all_goals first | exact fun _ _ _ _ => trivial | exact cat_sf (L := X) (x := ⟨(t : Int), i, max (-1048576) (c - s i 2)⟩) rfl | exact cat_sf (L := X) (x := ⟨(t : Int), i, 0⟩) rfl
    | true =>
    cases b2 : decide ((fcN fa B i : Int) < fa) with
    | false =>
      have hbd : bdN fa B i = false := by simp only [bdN, b1, b2]; rfl
      have hfc : fcN fa B (i + 1) = fcN fa B i := by simp only [fcN, b1, b2]; rfl
      have hva : vaN s fa ri W (M : Int) B t i = max (-1048576) (c - s i 2) := by rw [vaN, hbd, hc]; rfl
      rw [b1] at hBi
      cases g2 : decide ((t : Int) < s i 0) with
      | true =>
        have hdu : dueB s t i = false := by simp only [dueB, g2]; rfl
        have hrw : A0 ++ rwN s fa ri W (M : Int) B t (i + 1) = X := by rw [rwN, if_neg (by rw [hdu]; decide), List.append_nil, hX]
        simp only [g1, hBi, b2, w6, w7, w8, g2, Int.toNat_natCast, awake_eq, log_eq, unlog_eq, alarm_eq, worstO_eq, voting_eq, sniffs_eq, Try.f5, go_sem, ↓reduceIte, Nat.reduceAdd, Nat.reduceSub, Nat.reduceMul, Nat.reduceEqDiff, Nat.reduceLT, Nat.reduceLeDiff, Int.reduceToNat, Int.reduceLE, Int.reduceLT, Int.reduceEq, Int.reduceNeg, reduceCtorEq]
        refine ⟨⟨by omega, by omega⟩, by omega, ⟨(i + 1, u), by omega⟩, by simp only []; omega, ?_⟩
        apply sub_of <;> simp only [wi, hrw, hfc, go_sem, ↓reduceIte, Nat.reduceAdd, Nat.reduceSub, Nat.reduceMul, Nat.reduceEqDiff, Nat.reduceLT, Nat.reduceLeDiff, Int.reduceToNat, Int.reduceLE, Int.reduceLT, Int.reduceEq, Int.reduceNeg, reduceCtorEq] <;> (try simp) <;> (try exact fun j _ => Bd_nth (by simp [BdL, Bd]) j) <;> (try exact bd_setL (by simp [bdAs, BdL, Bd])) <;> (try exact nestF_bd _ _ _ _ _ _ _ _ _)
      | false =>
      cases g3 : decide (((t : Int) - s i 0).tmod (s i 1) = 0) with
      | false =>
        have hdu : dueB s t i = false := by simp only [dueB, g2, g3]; rfl
        have hrw : A0 ++ rwN s fa ri W (M : Int) B t (i + 1) = X := by rw [rwN, if_neg (by rw [hdu]; decide), List.append_nil, hX]
        simp only [g1, hBi, b2, w6, w7, w8, g2, g3, Int.toNat_natCast, awake_eq, log_eq, unlog_eq, alarm_eq, worstO_eq, voting_eq, sniffs_eq, Try.f5, go_sem, ↓reduceIte, Nat.reduceAdd, Nat.reduceSub, Nat.reduceMul, Nat.reduceEqDiff, Nat.reduceLT, Nat.reduceLeDiff, Int.reduceToNat, Int.reduceLE, Int.reduceLT, Int.reduceEq, Int.reduceNeg, reduceCtorEq]
        refine ⟨⟨by omega, by omega⟩, by omega, by omega, ⟨(i + 1, u), by omega⟩, by simp only []; omega, ?_⟩
        apply sub_of <;> simp only [wi, hrw, hfc, go_sem, ↓reduceIte, Nat.reduceAdd, Nat.reduceSub, Nat.reduceMul, Nat.reduceEqDiff, Nat.reduceLT, Nat.reduceLeDiff, Int.reduceToNat, Int.reduceLE, Int.reduceLT, Int.reduceEq, Int.reduceNeg, reduceCtorEq] <;> (try simp) <;> (try exact fun j _ => Bd_nth (by simp [BdL, Bd]) j) <;> (try exact bd_setL (by simp [bdAs, BdL, Bd])) <;> (try exact nestF_bd _ _ _ _ _ _ _ _ _)
      | true =>
        have hdu : dueB s t i = true := by simp only [dueB, g2, g3]; rfl
        have hrw : A0 ++ rwN s fa ri W (M : Int) B t (i + 1) = X ++ [⟨(t : Int), i, vaN s fa ri W (M : Int) B t i⟩] := by rw [rwN, if_pos hdu, ← List.append_assoc, hX]
        rw [hva] at hrw
        simp only [g1, hBi, b2, w6, w7, w8, g2, g3, Int.toNat_natCast, awake_eq, log_eq, unlog_eq, alarm_eq, worstO_eq, voting_eq, sniffs_eq, Try.f5, go_sem, ↓reduceIte, Nat.reduceAdd, Nat.reduceSub, Nat.reduceMul, Nat.reduceEqDiff, Nat.reduceLT, Nat.reduceLeDiff, Int.reduceToNat, Int.reduceLE, Int.reduceLT, Int.reduceEq, Int.reduceNeg, reduceCtorEq]
        refine ⟨⟨by omega, by omega⟩, by omega, by omega, ⟨by omega, by omega⟩, ⟨(i + 1, u + 1), by omega⟩, by simp only []; omega, ?_⟩
        apply sub_of <;> simp only [wi, hrw, hfc, List.length_append, List.length_singleton, go_sem, ↓reduceIte, Nat.reduceAdd, Nat.reduceSub, Nat.reduceMul, Nat.reduceEqDiff, Nat.reduceLT, Nat.reduceLeDiff, Int.reduceToNat, Int.reduceLE, Int.reduceLT, Int.reduceEq, Int.reduceNeg, reduceCtorEq]
        all_goals first | exact fun _ _ _ _ => trivial | exact cat_sf (L := X) (x := ⟨(t : Int), i, max (-1048576) (c - s i 2)⟩) rfl | exact cat_sf (L := X) (x := ⟨(t : Int), i, 0⟩) rfl
    | true =>
      have hbd : bdN fa B i = true := by simp only [bdN, b1, b2]; rfl
      have hfc : fcN fa B (i + 1) = fcN fa B i + 1 := by simp only [fcN, b1, b2]; rfl
      have hva : vaN s fa ri W (M : Int) B t i = 0 := by rw [vaN, hbd, hc]; rfl
      rw [b1] at hBi
      cases g2 : decide ((t : Int) < s i 0) with
      | true =>
        have hdu : dueB s t i = false := by simp only [dueB, g2]; rfl
        have hrw : A0 ++ rwN s fa ri W (M : Int) B t (i + 1) = X := by rw [rwN, if_neg (by rw [hdu]; decide), List.append_nil, hX]
        simp only [g1, hBi, b2, w6, w7, w8, g2, Int.toNat_natCast, awake_eq, log_eq, unlog_eq, alarm_eq, worstO_eq, voting_eq, sniffs_eq, Try.f5, go_sem, ↓reduceIte, Nat.reduceAdd, Nat.reduceSub, Nat.reduceMul, Nat.reduceEqDiff, Nat.reduceLT, Nat.reduceLeDiff, Int.reduceToNat, Int.reduceLE, Int.reduceLT, Int.reduceEq, Int.reduceNeg, reduceCtorEq]
        refine ⟨⟨by omega, by omega⟩, by omega, ⟨(i + 1, u), by omega⟩, by simp only []; omega, ?_⟩
        apply sub_of <;> simp only [wi, hrw, hfc, go_sem, ↓reduceIte, Nat.reduceAdd, Nat.reduceSub, Nat.reduceMul, Nat.reduceEqDiff, Nat.reduceLT, Nat.reduceLeDiff, Int.reduceToNat, Int.reduceLE, Int.reduceLT, Int.reduceEq, Int.reduceNeg, reduceCtorEq] <;> (try simp) <;> (try exact fun j _ => Bd_nth (by simp [BdL, Bd]) j) <;> (try exact bd_setL (by simp [bdAs, BdL, Bd])) <;> (try exact nestF_bd _ _ _ _ _ _ _ _ _)
      | false =>
      cases g3 : decide (((t : Int) - s i 0).tmod (s i 1) = 0) with
      | false =>
        have hdu : dueB s t i = false := by simp only [dueB, g2, g3]; rfl
        have hrw : A0 ++ rwN s fa ri W (M : Int) B t (i + 1) = X := by rw [rwN, if_neg (by rw [hdu]; decide), List.append_nil, hX]
        simp only [g1, hBi, b2, w6, w7, w8, g2, g3, Int.toNat_natCast, awake_eq, log_eq, unlog_eq, alarm_eq, worstO_eq, voting_eq, sniffs_eq, Try.f5, go_sem, ↓reduceIte, Nat.reduceAdd, Nat.reduceSub, Nat.reduceMul, Nat.reduceEqDiff, Nat.reduceLT, Nat.reduceLeDiff, Int.reduceToNat, Int.reduceLE, Int.reduceLT, Int.reduceEq, Int.reduceNeg, reduceCtorEq]
        refine ⟨⟨by omega, by omega⟩, by omega, by omega, ⟨(i + 1, u), by omega⟩, by simp only []; omega, ?_⟩
        apply sub_of <;> simp only [wi, hrw, hfc, go_sem, ↓reduceIte, Nat.reduceAdd, Nat.reduceSub, Nat.reduceMul, Nat.reduceEqDiff, Nat.reduceLT, Nat.reduceLeDiff, Int.reduceToNat, Int.reduceLE, Int.reduceLT, Int.reduceEq, Int.reduceNeg, reduceCtorEq] <;> (try simp) <;> (try exact fun j _ => Bd_nth (by simp [BdL, Bd]) j) <;> (try exact bd_setL (by simp [bdAs, BdL, Bd])) <;> (try exact nestF_bd _ _ _ _ _ _ _ _ _)
      | true =>
        have hdu : dueB s t i = true := by simp only [dueB, g2, g3]; rfl
        have hrw : A0 ++ rwN s fa ri W (M : Int) B t (i + 1) = X ++ [⟨(t : Int), i, vaN s fa ri W (M : Int) B t i⟩] := by rw [rwN, if_pos hdu, ← List.append_assoc, hX]
        rw [hva] at hrw
        simp only [g1, hBi, b2, w6, w7, w8, g2, g3, Int.toNat_natCast, awake_eq, log_eq, unlog_eq, alarm_eq, worstO_eq, voting_eq, sniffs_eq, Try.f5, go_sem, ↓reduceIte, Nat.reduceAdd, Nat.reduceSub, Nat.reduceMul, Nat.reduceEqDiff, Nat.reduceLT, Nat.reduceLeDiff, Int.reduceToNat, Int.reduceLE, Int.reduceLT, Int.reduceEq, Int.reduceNeg, reduceCtorEq]
        refine ⟨⟨by omega, by omega⟩, by omega, by omega, ⟨by omega, by omega⟩, ⟨(i + 1, u + 1), by omega⟩, by simp only []; omega, ?_⟩
        apply sub_of <;> simp only [wi, hrw, hfc, List.length_append, List.length_singleton, go_sem, ↓reduceIte, Nat.reduceAdd, Nat.reduceSub, Nat.reduceMul, Nat.reduceEqDiff, Nat.reduceLT, Nat.reduceLeDiff, Int.reduceToNat, Int.reduceLE, Int.reduceLT, Int.reduceEq, Int.reduceNeg, reduceCtorEq]
        all_goals first | exact fun _ _ _ _ => trivial | exact cat_sf (L := X) (x := ⟨(t : Int), i, max (-1048576) (c - s i 2)⟩) rfl | exact cat_sf (L := X) (x := ⟨(t : Int), i, 0⟩) rfl
end Go.Eng
end

/- Cells by their shapes. -/
section
namespace Go.Eng
open Go Go.RowKit
theorem typ_int {k : IntKind} {a : SV} (h : Typ (.int k) a) : ∃ n, a = .int k n ∧ (Lit.int k n).wf = true := by
  cases h with
  | int h => exact ⟨_, rfl, h⟩
theorem typ_sl {e : List Sh} {a : SV} (h : Typ (.sl e) a) : ∃ n f, a = .row n e.length f ∧ n ≤ maxLen ∧ ∀ i j sh, i < n → e[j]? = some sh → Typ sh (f i j) := by
  cases h with
  | sl hn h => exact ⟨_, _, rfl, hn, h⟩
end Go.Eng
end

/- Rows of structs that hold one slice of numbers each. -/
section
namespace Go.Eng
set_option maxRecDepth 100000
open Go Go.RowKit Go.Proofs
/-- Rows that are alike cell by cell. -/
theorem SameD.row {n sz : Nat} {f g : Nat → Nat → SV} (h : ∀ i j, i < n → j < sz → SameD (f i j) (g i j)) : SameD (.row n sz f) (.row n sz g) := ⟨fun E w v hd => by
  cases hd with
  | row A cap q hA ho hn hc h1 hd => exact .row A cap q hA ho hn hc h1 (fun i j hi hj => (h i j hi hj).out E w _ (hd i j hi hj))
  | rowZ a cap => exact .rowZ a cap⟩
def nestF (k s : Nat) (A : Nat → Nat → Int) (M : Nat → Nat) (V : Nat → Nat → Nat → Int) : Nat → Nat → SV :=
  fun i j => if j = k then .row (M i) s (fun a b => .int .i64 (V i a b)) else .int .i64 (A i j)
theorem nestF_bd (L K n sz k s : Nat) (A : Nat → Nat → Int) (M : Nat → Nat) (V : Nat → Nat → Nat → Int) : ∀ i j, i < n → j < sz → Bd L K (nestF k s A M V i j) := fun i j _ _ => by
  simp only [nestF]
  split
  · simp only [Bd]
    exact fun _ _ _ _ => trivial
  · trivial
/- Closed rows, checked. -/
end Go.Eng
end

/-
  TopLog: for every input the law returns true, and each argument reads afterwards as it read before. No condition.
-/
section
namespace Go.Proofs.Ythidhbamcmgloaa.topLog
open Go.ChangeShapes Go.WideShapes Go.ChangeAt Go.RowKit Go.Eng
set_option linter.unusedVariables false
theorem own : ownKnob Try.prog.godebug = none := by kernel_rfl
theorem laid : laidOutB Try.prog = true := by kernel_rfl
set_option maxRecDepth 100000 in
theorem lifted (os : Os) (started : os.Started) (H : Type) (enc : TypeId × Value → H) :
    ReturnsInHanded {} Try.checked os 5 .any (Rows.topLogSpec.pre6 enc Try.prog Try.f5 Rows.topLogRow.domain false) (Rows.topLogSpec.post enc Try.prog Try.f5 false true false false) := by
  refine returnsInHanded_of_change (C := Try.checked) own started (by kernel_rfl) Try.func5
    (ChangeSpec.witness6 (enc := enc) (C := Try.checked) false ⟨#[], #[.agg #[.slice none 0 0, .int .i64 0, .int .i64 0], .int .i64 0, .int .i64 0, .int .i64 0, .int .i64 0, .slice none 0 0, .int .u16 0], []⟩ 8 (by kernel_rfl) (by kernel_rfl) (by kernel_rfl) (by kernel_rfl)) ?_
  intro W base args ds gs before hval0 hW hcnd _
  have hval : ∀ (j : Nat) t v, Try.f5.params[j]? = some t → args[j]? = some v → Value.okWide Try.prog W .any base t v := hval0
  have hW' := hW
  obtain ⟨p, q, hA0, hV, rfl, hfz, hnd⟩ := hW
  have hA : DataW.TrodAll enc Try.prog W 0 (fun _ => true) true Try.f5.params.toList args.toList ds p := hA0
  rw [Try.params5] at hA hval
  obtain ⟨v0, vs0, d0, ds0, p0, q0, hargs, rfl, rfl, h0, r0⟩ := trodAll_cons hA
  obtain ⟨v1, vs1, d1, ds1, p1, q1, rfl, rfl, rfl, h1, r1⟩ := trodAll_cons r0
  obtain ⟨v2, vs2, d2, ds2, p2, q2, rfl, rfl, rfl, h2, r2⟩ := trodAll_cons r1
  obtain ⟨v3, vs3, d3, ds3, p3, q3, rfl, rfl, rfl, h3, r3⟩ := trodAll_cons r2
  obtain ⟨v4, vs4, d4, ds4, p4, q4, rfl, rfl, rfl, h4, r4⟩ := trodAll_cons r3
  obtain ⟨v5, vs5, d5, ds5, p5, q5, rfl, rfl, rfl, h5, r5⟩ := trodAll_cons r4
  obtain ⟨v6, vs6, d6, ds6, p6, q6, rfl, rfl, rfl, h6, r6⟩ := trodAll_cons r5
  obtain ⟨rfl, rfl, rfl⟩ := trodAll_nil r6
  obtain rfl : args = #[v0, v1, v2, v3, v4, v5, v6] := by cases args; simp_all
  obtain ⟨rfl, rfl⟩ := trodVars_none hV
  obtain ⟨xs0, e0, l0, t0⟩ := arg_agg (shs := [.sl [.int .i64, .int .i64, .int .i64], .int .i64, .int .i64]) Try.underlying82 (by kernel_rfl) (hval 0 82 v0 rfl rfl) h0
  obtain ⟨a0_0, a0_1, a0_2, rfl⟩ : ∃ a0_0 a0_1 a0_2, xs0 = [a0_0, a0_1, a0_2] := by
    match xs0, l0 with
    | [a0_0, a0_1, a0_2], _ => exact ⟨a0_0, a0_1, a0_2, rfl⟩
  obtain ⟨n0_0, f0_0, rfl, m0_0, s0_0⟩ := typ_sl (t0 0 _ _ rfl rfl)
  obtain ⟨i0_0, b0_0⟩ := intK_of_typ (k := .i64) (c := 3) rfl s0_0
  obtain ⟨x0_1, rfl, w0_1⟩ := typ_int (t0 1 _ _ rfl rfl)
  obtain ⟨x0_2, rfl, w0_2⟩ := typ_int (t0 2 _ _ rfl rfl)
  obtain ⟨x1, rfl, rfl, rfl, w1⟩ := open_int Try.underlying3 (hval 1 3 v1 rfl rfl) h1
  obtain ⟨x2, rfl, rfl, rfl, w2⟩ := open_int Try.underlying3 (hval 2 3 v2 rfl rfl) h2
  obtain ⟨x3, rfl, rfl, rfl, w3⟩ := open_int Try.underlying3 (hval 3 3 v3 rfl rfl) h3
  obtain ⟨x4, rfl, rfl, rfl, w4⟩ := open_int Try.underlying3 (hval 4 3 v4 rfl rfl) h4
  obtain ⟨n5, f5, e5, m5, t5⟩ := arg_row (s := [.int .i64, .int .i64, .int .i64]) Try.underlying83 (by kernel_rfl) (hval 5 83 v5 rfl rfl) h5
  obtain ⟨i5, b5⟩ := intK_of_typ (k := .i64) (c := 3) rfl t5
  obtain ⟨x6, rfl, rfl, rfl, w6⟩ := open_int Try.underlying26 (hval 6 26 v6 rfl rfl) h6
  have hd : DenL Env.emp W [.agg [.row n0_0 3 f0_0, .int .i64 x0_1, .int .i64 x0_2], .int .i64 x1, .int .i64 x2, .int .i64 x3, .int .i64 x4, .row n5 3 f5, .int .u16 x6] [v0, .int .i64 x1, .int .i64 x2, .int .i64 x3, .int .i64 x4, v5, .int .u16 x6] := ⟨e0, .int _ _, .int _ _, .int _ _, .int _ _, e5, .int _ _, trivial⟩
  refine (law_calls topLog_base (args := [.agg [.row n0_0 3 f0_0, .int .i64 x0_1, .int .i64 x0_2], .int .i64 x1, .int .i64 x2, .int .i64 x3, .int .i64 x4, .row n5 3 f5, .int .u16 x6]) rfl ⟨⟨rfl, fun i j hi hj => i0_0 i j hi hj⟩, ⟨rfl, fun i j hi hj => i5 i j hi hj⟩, w6⟩ (denA_of hd)).mono fun e W' ⟨he, hb⟩ => ?_
  subst he
  exact ⟨_, rfl, law_end laid rfl Try.underlying4 (by kernel_rfl) rfl hW' rfl hb⟩
theorem over : Rows.topLogRow.holds Try.pinned (OpenSpec.ofChange Rows.topLogSpec) :=
  OpenClaim.holds_of_wide 5 Try.f5 rfl rfl rfl rfl rfl rfl rfl ⟨rfl, rfl, rfl, rfl, rfl⟩ rfl rfl rfl rfl rfl (by kernel_rfl) Try.func5 (by kernel_rfl)
    (of_decide_eq_true (by kernel_rfl)) (by unfold Func.isWrapper; first | (rw [if_pos (by decide +kernel)]; kernel_rfl) | (rw [if_neg (by decide +kernel)]; exact ⟨rfl, rfl⟩))
    (fun os started H enc _ => lifted os started H enc)
end Go.Proofs.Ythidhbamcmgloaa.topLog
namespace Go.Proofs.Ythidhbamcmgloaa
/-- The given statement. -/
theorem topLog_holds : Rows.TopLogSaid := topLog.over
#print axioms topLog_holds
end Go.Proofs.Ythidhbamcmgloaa
end
