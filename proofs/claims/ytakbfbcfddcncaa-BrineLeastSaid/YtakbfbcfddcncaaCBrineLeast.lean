/-
  BrineLeast: for every input the law returns true, and each argument reads afterwards as it read before. No condition.
-/
import Derived.Test.YtakbfbcfddcncaaRows
import Derived.WalkKit
import Derived.Test.YtakbfbcfddcncaaK2
set_option linter.unusedSimpArgs false
set_option linter.unusedVariables false
/- brine: no other way to use what is stored buys less. -/
section
namespace Go.Eng
open Go Go.RowKit Go.Proofs
set_option maxRecDepth 100000
set_option maxHeartbeats 4000000
attribute [local irreducible] OwnT DefS
/-- One hour of another way, and of the best one. -/
theorem least_step {g h c d room x st y su n k : Int} (h1 : x ≤ st + (y - su)) (h2 : su ≤ y) (hg : g = st + c) (hh : h = x + c) (hc : 0 ≤ c) (hd : 0 ≤ d) (hx : 0 ≤ x) (hst : 0 ≤ st) (hr : 0 ≤ room)
    (hn0 : 0 ≤ n) (hn : n ≤ min h d) (hk : 0 ≤ k) : max 0 (min room (h - n) - k) ≤ min (g - min g d) room + (y + d - n - (su + (d - min g d))) ∧ su + (d - min g d) ≤ y + d - n ∧ 0 ≤ max 0 (min room (h - n) - k) ∧ max 0 (min room (h - n) - k) ≤ room := by
  subst hg hh
  omega
def brineLeastBase : BaseF := fun args => match args with
  | [.row n sz_c f_c, .row m sz_d f_d, .int .i64 s, .int .i64 r, .row nb sz_y f_y] => some ((sz_c = 1 ∧ IntR n 1 f_c) ∧ (sz_d = 1 ∧ IntR m 1 f_d) ∧ (sz_y = 1 ∧ IntK .u32 nb 1 f_y) ∧ (∀ i, i < nb → (Lit.int .u32 ((ivf f_y) i 0)).wf = true), .bool true)
  | _ => none
theorem brineLeast_eq (n : Nat) (sz_c : Nat) (f_c : Nat → Nat → SV) (m : Nat) (sz_d : Nat) (f_d : Nat → Nat → SV) (s : Int) (r : Int) (nb : Nat) (sz_y : Nat) (f_y : Nat → Nat → SV) : brineLeastBase [.row n sz_c f_c, .row m sz_d f_d, .int .i64 s, .int .i64 r, .row nb sz_y f_y] = some ((sz_c = 1 ∧ IntR n 1 f_c) ∧ (sz_d = 1 ∧ IntR m 1 f_d) ∧ (sz_y = 1 ∧ IntK .u32 nb 1 f_y) ∧ (∀ i, i < nb → (Lit.int .u32 ((ivf f_y) i 0)).wf = true), .bool true) := rfl
theorem brineLeast_base : Base Try.prog 5 brineLeastBase := by
  intro args p v hq hp
  unfold brineLeastBase at hq
  split at hq
  rotate_left
  · cases hq
  rename_i n sz_c f_c m sz_d f_d s r nb sz_y f_y
  cases hq
  obtain ⟨⟨rfl, i_c⟩, ⟨rfl, i_d⟩, ⟨rfl, i_y⟩, pre⟩ := hp
  refine base_of (C := cx [] [] [(13, aliveBase), (19, ReuseBase)] [(5, 15, p5_15), (5, 17, p5_17), (5, 22, p5_22)] none) (cx_ok trivial ⟨alive_base, Reuse_base, trivial⟩) rfl (g := 5) (fn := Try.f5)
    (args' := [.row n 1 (rowF .i64 (ivf f_c)), .row m 1 (rowF .i64 (ivf f_d)), .int .i64 s, .int .i64 r, .row nb 1 (rowF .u32 (ivf f_y))]) (fn_5) rfl 1000 (by
    simp only [BdL, Bd, and_self, and_true, true_and]
    exact ⟨(fun i j hi hj => by rw [i_c i j hi hj]; trivial), (fun i j hi hj => by rw [i_d i j hi hj]; trivial), (fun i j hi hj => by rw [i_y i j hi hj]; trivial)⟩) ⟨SameD.int i_c, SameD.int i_d, SameD.rfl' _, SameD.rfl' _, SameD.intK i_y, trivial⟩ ?_
  generalize ivf f_c = c at *
  generalize ivf f_d = d at *
  generalize ivf f_y = y at *
  simp only [rowF_eq]
  by_cases g1 : 60 < n
  · have e1 : decide (60 < (n : Int)) = true := decide_eq_true (by omega)
    simp only [e1, alive_eq, Reuse_eq, p5_15, p5_17, p5_22, Try.f5, go_sem, ↓reduceIte, Nat.reduceAdd, Nat.reduceSub, Nat.reduceMul, Nat.reduceEqDiff, Nat.reduceLT, Nat.reduceLeDiff, Int.reduceToNat, Int.reduceLE, Int.reduceLT, Int.reduceEq, Int.reduceNeg, reduceCtorEq]
  have e1 : decide (60 < (n : Int)) = false := decide_eq_false (by omega)
  by_cases g2 : 210 < m
  · have e2 : decide (210 < (m : Int)) = true := decide_eq_true (by omega)
    simp only [e1, e2, alive_eq, Reuse_eq, p5_15, p5_17, p5_22, Try.f5, go_sem, ↓reduceIte, Nat.reduceAdd, Nat.reduceSub, Nat.reduceMul, Nat.reduceEqDiff, Nat.reduceLT, Nat.reduceLeDiff, Int.reduceToNat, Int.reduceLE, Int.reduceLT, Int.reduceEq, Int.reduceNeg, reduceCtorEq]
  have e2 : decide (210 < (m : Int)) = false := decide_eq_false (by omega)
  by_cases g3 : nb = 0
  · have e3 : decide ((nb : Int) = 0) = true := decide_eq_true (by omega)
    simp only [e1, e2, e3, alive_eq, Reuse_eq, p5_15, p5_17, p5_22, Try.f5, go_sem, ↓reduceIte, Nat.reduceAdd, Nat.reduceSub, Nat.reduceMul, Nat.reduceEqDiff, Nat.reduceLT, Nat.reduceLeDiff, Int.reduceToNat, Int.reduceLE, Int.reduceLT, Int.reduceEq, Int.reduceNeg, reduceCtorEq]
  have e3 : decide ((nb : Int) = 0) = false := decide_eq_false (by omega)
  by_cases he : erR n (fun i => c i 0) m (fun i => d i 0) s r = 0
  rotate_left
  · have hd : decide (erR n (fun i => c i 0) m (fun i => d i 0) s r = 0) = false := decide_eq_false he
    simp only [e1, e2, e3, hd, alive_eq, Reuse_eq, p5_15, p5_17, p5_22, Try.f5, go_sem, ↓reduceIte, Nat.reduceAdd, Nat.reduceSub, Nat.reduceMul, Nat.reduceEqDiff, Nat.reduceLT, Nat.reduceLeDiff, Int.reduceToNat, Int.reduceLE, Int.reduceLT, Int.reduceEq, Int.reduceNeg, reduceCtorEq]
    simp only [he, go_sem, ↓reduceIte, Nat.reduceAdd, Nat.reduceSub, Nat.reduceMul, Nat.reduceEqDiff, Nat.reduceLT, Nat.reduceLeDiff, Int.reduceToNat, Int.reduceLE, Int.reduceLT, Int.reduceEq, Int.reduceNeg, reduceCtorEq]
    exact spl_t (by kernel_rfl) trivial
  have hd : decide (erR n (fun i => c i 0) m (fun i => d i 0) s r = 0) = true := decide_eq_true he
  obtain ⟨p1, p2, p3, p4, p5, p6, p7⟩ := er_ok he
  subst p2
  have f1 : decide (s < 0) = false := decide_eq_false (by omega)
  have f2 : decide (r < s) = false := decide_eq_false (by omega)
  have f3 : decide ((m : Int) = (m : Int)) = true := decide_eq_true rfl
  simp only [e1, e2, e3, hd, f1, f2, f3, alive_eq, Reuse_eq, p5_15, p5_17, p5_22, Try.f5, go_sem, ↓reduceIte, Nat.reduceAdd, Nat.reduceSub, Nat.reduceMul, Nat.reduceEqDiff, Nat.reduceLT, Nat.reduceLeDiff, Int.reduceToNat, Int.reduceLE, Int.reduceLT, Int.reduceEq, Int.reduceNeg, reduceCtorEq]
  simp only [he, if_true, f3, Bool.not_true, spl_false]
  simp only [decide_true, Bool.not_true, spl_false]
  refine loop_ofH { q : Nat × Int × Int × Int × Int // q.1 ≤ m ∧ (0 ≤ q.2.1 ∧ q.2.1 ≤ r) ∧ q.2.1 ≤ stR (fun i => c i 0) (fun i => d i 0) r s q.1 + (q.2.2.1 - suR (fun i => c i 0) (fun i => d i 0) r s q.1) ∧ suR (fun i => c i 0) (fun i => d i 0) r s q.1 ≤ q.2.2.1 ∧ q.2.2.1 ≤ 4294967296 * (q.1 : Int) ∧ (0 ≤ q.2.2.2.1 ∧ q.2.2.2.1 ≤ 4294967296 * (q.1 : Int)) ∧ q.2.2.2.2 = q.2.2.2.1 + stR (fun i => c i 0) (fun i => d i 0) r s q.1 + aiR (fun i => c i 0) (fun i => d i 0) r s q.1 }
    (fun q => [(88, .int .i64 (q.1.1 : Int)), (87, .int .i64 (m : Int)), (19, .int .i64 q.1.2.2.2.2), (18, .int .i64 q.1.2.2.2.1), (17, .int .i64 (suR (fun i => c i 0) (fun i => d i 0) r s q.1.1)), (16, .int .i64 q.1.2.2.1), (15, .int .i64 q.1.2.1), (13, .int .i64 (aiR (fun i => c i 0) (fun i => d i 0) r s m)), (12, .int .i64 (stR (fun i => c i 0) (fun i => d i 0) r s m)), (11, .row m 1 fun i _ => .int .i64 (boR (fun i => c i 0) (fun i => d i 0) r s i)), (4, .row nb 1 fun i j => .int .u32 (y i j)), (3, .int .i64 r), (1, .row m 1 fun i j => .int .i64 (d i j)), (0, .row m 1 fun i j => .int .i64 (c i j))])
    (fun h _ => h) (fun q => m - q.1.1) (fun _ => ⟨rfl, rfl⟩) ⟨(0, s, 0, 0, s), by omega, ⟨by omega, by omega⟩, by show s ≤ s + (0 - 0); omega, Int.le_refl _, Int.le_refl _, ⟨Int.le_refl _, Int.le_refl _⟩, by show s = 0 + s + 0; omega⟩ (by (apply sub_of <;> simp only [go_sem, ↓reduceIte, Nat.reduceAdd, Nat.reduceSub, Nat.reduceMul, Nat.reduceEqDiff, Nat.reduceLT, Nat.reduceLeDiff, Int.reduceToNat, Int.reduceLE, Int.reduceLT, Int.reduceEq, Int.reduceNeg, reduceCtorEq] <;> (try simp [catF]) <;> (try exact fun j _ => Bd_nth (by simp [BdL, Bd]) j) <;> (try exact bd_setL (by simp [bdAs, BdL, Bd])) <;> (try exact nestF_bd _ _ _ _ _ _ _ _ _)) <;> rfl) ?_
  rintro ⟨⟨i, x, z, u, w⟩, hi, ⟨x1, x2⟩, q1, q2, q3, ⟨u1, u2⟩, hw⟩
  simp only [] at hi x1 x2 q1 q2 q3 u1 u2 hw
  have hwy : ∀ k, k < nb → IntKind.i64.wrap (y k 0) = y k 0 ∧ 0 ≤ y k 0 := fun k hk => by
    have := wf_u32 (pre k hk)
    exact ⟨wrap_id (by omega) (by omega), this.1⟩
  have hst := stR_bd p3 p4 p5 p6 i hi
  have hsu := suR_bd p3 p4 p5 p6 i hi
  have hai := aiR_bd p3 p4 p5 p6 i hi
  by_cases ik : i < m
  rotate_left
  · obtain rfl : i = m := by omega
    have t1 : decide (0 ≤ stR (fun i => c i 0) (fun i => d i 0) r s i) = true := decide_eq_true hst.1
    have t2 : decide (stR (fun i => c i 0) (fun i => d i 0) r s i ≤ r) = true := decide_eq_true hst.2
    have t3 : decide (0 ≤ aiR (fun i => c i 0) (fun i => d i 0) r s i) = true := decide_eq_true hai.1
    have t4 : decide (w = IntKind.i64.wrap (IntKind.i64.wrap (u + stR (fun i => c i 0) (fun i => d i 0) r s i) + aiR (fun i => c i 0) (fun i => d i 0) r s i)) = true := by
      rw [wrap_id (x := u + stR (fun i => c i 0) (fun i => d i 0) r s i) (by omega) (by omega), wrap_id (by omega) (by omega)]; exact decide_eq_true hw
    have t5 : decide ((i : Int) < (i : Int)) = false := decide_eq_false (by omega)
    simp only [t1, t2, t3, t4, t5, alive_eq, Reuse_eq, p5_15, p5_17, p5_22, Try.f5, go_sem, ↓reduceIte, Nat.reduceAdd, Nat.reduceSub, Nat.reduceMul, Nat.reduceEqDiff, Nat.reduceLT, Nat.reduceLeDiff, Int.reduceToNat, Int.reduceLE, Int.reduceLT, Int.reduceEq, Int.reduceNeg, reduceCtorEq]
  have hc := p3 i ik
  have hd2 := p4 i ik
  unfold big32 at hc hd2
  have hbo := boR_bd p3 p4 p5 p6 i ik
  have hbd : boR (fun i => c i 0) (fun i => d i 0) r s i ≤ d i 0 := by simp only [boR]; omega
  have t5 : decide ((i : Int) < (m : Int)) = true := decide_eq_true (by omega)
  have gc : decide (c i 0 < 0) = false := decide_eq_false (by omega)
  have gd : decide (d i 0 < 0) = false := decide_eq_false (by omega)
  have gb : decide (boR (fun i => c i 0) (fun i => d i 0) r s i < 0) = false := decide_eq_false (by omega)
  have gbd : decide (d i 0 < boR (fun i => c i 0) (fun i => d i 0) r s i) = false := decide_eq_false (by omega)
  have w1 : IntKind.i64.wrap (x + c i 0) = x + c i 0 := wrap_id (by omega) (by omega)
  have w2 : IntKind.i64.wrap (min (x + c i 0) (d i 0) + 1) = min (x + c i 0) (d i 0) + 1 := wrap_id (by omega) (by omega)
  have wz : IntKind.i64.wrap (z + d i 0) = z + d i 0 := wrap_id (by omega) (by omega)
  have wu : IntKind.i64.wrap (u + d i 0) = u + d i 0 := wrap_id (by omega) (by omega)
  have wu2 : IntKind.i64.wrap (u + d i 0 - boR (fun i => c i 0) (fun i => d i 0) r s i) = u + d i 0 - boR (fun i => c i 0) (fun i => d i 0) r s i := wrap_id (by omega) (by omega)
  have wc : IntKind.i64.wrap (w + c i 0) = w + c i 0 := wrap_id (by omega) (by omega)
  have wsu : IntKind.i64.wrap (suR (fun i => c i 0) (fun i => d i 0) r s i + boR (fun i => c i 0) (fun i => d i 0) r s i) = suR (fun i => c i 0) (fun i => d i 0) r s (i + 1) := by rw [wrap_id (by omega) (by omega)]; rfl
  have wi := wrap_s ik (by omega)
  have tm : ∀ k : Nat, ((k : Int).tmod (nb : Int)) = ((k % nb : Nat) : Int) := fun k => by rw [Int.tmod_eq_emod_of_nonneg (by omega)]; omega
  have tl : ∀ k : Nat, k % nb < nb := fun k => Nat.mod_lt _ (by omega)
  have hyi := hwy (i % nb) (tl i)
  have hyj := hwy ((i + 1) % nb) (tl (i + 1))
  have hy0 := hwy 0 (by omega)
  have key : ∀ n : Int, 0 ≤ n → n ≤ min (x + c i 0) (d i 0) → IntKind.i64.wrap (z + d i 0 - n) = z + d i 0 - n ∧ IntKind.i64.wrap (x + c i 0 - n) = x + c i 0 - n ∧
      IntKind.i64.wrap (min r (x + c i 0 - n) - (y ((i + 1) % nb) 0).tmod 5) = min r (x + c i 0 - n) - (y ((i + 1) % nb) 0).tmod 5 ∧ decide (z + d i 0 - n < suR (fun i => c i 0) (fun i => d i 0) r s (i + 1)) = false ∧
      (i + 1 ≤ m ∧ (0 ≤ max 0 (min r (x + c i 0 - n) - (y ((i + 1) % nb) 0).tmod 5) ∧ max 0 (min r (x + c i 0 - n) - (y ((i + 1) % nb) 0).tmod 5) ≤ r) ∧ max 0 (min r (x + c i 0 - n) - (y ((i + 1) % nb) 0).tmod 5) ≤ stR (fun i => c i 0) (fun i => d i 0) r s (i + 1) + (z + d i 0 - n - suR (fun i => c i 0) (fun i => d i 0) r s (i + 1)) ∧ suR (fun i => c i 0) (fun i => d i 0) r s (i + 1) ≤ z + d i 0 - n ∧ z + d i 0 - n ≤ 4294967296 * ((i + 1 : Nat) : Int) ∧ (0 ≤ u + d i 0 - boR (fun i => c i 0) (fun i => d i 0) r s i ∧ u + d i 0 - boR (fun i => c i 0) (fun i => d i 0) r s i ≤ 4294967296 * ((i + 1 : Nat) : Int)) ∧ w + c i 0 = u + d i 0 - boR (fun i => c i 0) (fun i => d i 0) r s i + stR (fun i => c i 0) (fun i => d i 0) r s (i + 1) + aiR (fun i => c i 0) (fun i => d i 0) r s (i + 1)) := by
    intro n n1 n2
    have k0 : 0 ≤ (y ((i + 1) % nb) 0).tmod 5 ∧ (y ((i + 1) % nb) 0).tmod 5 < 5 := by
      rw [Int.tmod_eq_emod_of_nonneg hyj.2]; omega
    obtain ⟨s1, s2, s3, s4⟩ := least_step (room := r) q1 q2 rfl rfl hc.1 hd2.1 x1 hst.1 (by omega) n1 n2 k0.1
    have es : stR (fun i => c i 0) (fun i => d i 0) r s (i + 1) = min (stR (fun i => c i 0) (fun i => d i 0) r s i + c i 0 - min (stR (fun i => c i 0) (fun i => d i 0) r s i + c i 0) (d i 0)) r := rfl
    have eu : suR (fun i => c i 0) (fun i => d i 0) r s (i + 1) = suR (fun i => c i 0) (fun i => d i 0) r s i + (d i 0 - min (stR (fun i => c i 0) (fun i => d i 0) r s i + c i 0) (d i 0)) := rfl
    have ea : aiR (fun i => c i 0) (fun i => d i 0) r s (i + 1) = aiR (fun i => c i 0) (fun i => d i 0) r s i + max 0 (stR (fun i => c i 0) (fun i => d i 0) r s i + c i 0 - min (stR (fun i => c i 0) (fun i => d i 0) r s i + c i 0) (d i 0) - r) := rfl
    have eb : boR (fun i => c i 0) (fun i => d i 0) r s i = d i 0 - min (stR (fun i => c i 0) (fun i => d i 0) r s i + c i 0) (d i 0) := rfl
    rw [← es, ← eu] at s1
    rw [← eu] at s2
    refine ⟨wrap_id (by omega) (by omega), wrap_id (by omega) (by omega), wrap_id (by omega) (by omega), decide_eq_false (by omega), by omega, ⟨s3, s4⟩, s1, s2, by omega, ⟨by omega, by omega⟩, ?_⟩
    rw [es, ea, eb, hw]
    generalize stR (fun i => c i 0) (fun i => d i 0) r s i = S
    omega
  simp only [t5, gc, gd, gb, gbd, w1, w2, wz, wu, wu2, wc, wsu, wi, tm, Int.toNat_natCast, hyi.1, hyj.1, hy0.1, alive_eq, Reuse_eq, p5_15, p5_17, p5_22, Try.f5, go_sem, ↓reduceIte, Nat.reduceAdd, Nat.reduceSub, Nat.reduceMul, Nat.reduceEqDiff, Nat.reduceLT, Nat.reduceLeDiff, Int.reduceToNat, Int.reduceLE, Int.reduceLT, Int.reduceEq, Int.reduceNeg, reduceCtorEq]
  have tl1 := tl i
  have tl2 := tl (i + 1)
  refine ⟨⟨by omega, by omega⟩, ⟨by omega, by omega⟩, ⟨by kernel_rfl, by kernel_rfl⟩, ⟨by omega, by omega⟩, ⟨by omega, by omega⟩, ⟨by omega, by omega⟩, ⟨by omega, by omega⟩, ⟨by omega, by omega⟩, ⟨by kernel_rfl, by kernel_rfl⟩, by omega, ⟨by omega, by omega⟩, ⟨by omega, by omega⟩, by omega, by omega, by decide, fun d2 => ?_, fun d2 => ?_⟩
  · obtain ⟨k1, k2, k3, k4, k5⟩ := key (min (x + c i 0) (d i 0)) (by omega) (Int.le_refl _)
    refine ⟨⟨by omega, by omega⟩, by omega, ⟨by omega, by omega⟩, by decide, ⟨by kernel_rfl, by kernel_rfl⟩, ⟨by omega, by omega⟩, ⟨by omega, by omega⟩, ⟨by omega, by omega⟩, ⟨by omega, by omega⟩, ?_⟩
    simp only [k1, k4, go_sem, ↓reduceIte, Nat.reduceAdd, Nat.reduceSub, Nat.reduceMul, Nat.reduceEqDiff, Nat.reduceLT, Nat.reduceLeDiff, Int.reduceToNat, Int.reduceLE, Int.reduceLT, Int.reduceEq, Int.reduceNeg, reduceCtorEq]
    refine ⟨⟨(i + 1, max 0 (min r (x + c i 0 - min (x + c i 0) (d i 0)) - (y ((i + 1) % nb) 0).tmod 5), z + d i 0 - min (x + c i 0) (d i 0), u + d i 0 - boR (fun i => c i 0) (fun i => d i 0) r s i, w + c i 0), k5⟩, by simp only []; omega, ?_⟩
    apply sub_of <;> simp only [wsu, wi, wc, wu, wu2, w1, w2, wz, k1, k2, k3, hyi.1, hyj.1, tm, Int.toNat_natCast, go_sem, ↓reduceIte, Nat.reduceAdd, Nat.reduceSub, Nat.reduceMul, Nat.reduceEqDiff, Nat.reduceLT, Nat.reduceLeDiff, Int.reduceToNat, Int.reduceLE, Int.reduceLT, Int.reduceEq, Int.reduceNeg, reduceCtorEq] <;> (try simp) <;> (try exact fun j _ => Bd_nth (by simp [BdL, Bd]) j) <;> (try exact bd_setL (by simp [bdAs, BdL, Bd])) <;> (try exact nestF_bd _ _ _ _ _ _ _ _ _)
  · obtain ⟨k1, k2, k3, k4, k5⟩ := key ((y (i % nb) 0).tmod (min (x + c i 0) (d i 0) + 1)) (Int.tmod_nonneg _ hyi.2) (Int.le_of_lt_add_one (Int.tmod_lt_of_pos _ (by omega)))
    refine ⟨by omega, ⟨by omega, by omega⟩, by decide, ⟨by kernel_rfl, by kernel_rfl⟩, ⟨by omega, by omega⟩, ⟨by omega, by omega⟩, ⟨by omega, by omega⟩, ⟨by omega, by omega⟩, ?_⟩
    simp only [k1, k4, go_sem, ↓reduceIte, Nat.reduceAdd, Nat.reduceSub, Nat.reduceMul, Nat.reduceEqDiff, Nat.reduceLT, Nat.reduceLeDiff, Int.reduceToNat, Int.reduceLE, Int.reduceLT, Int.reduceEq, Int.reduceNeg, reduceCtorEq]
    refine ⟨⟨(i + 1, max 0 (min r (x + c i 0 - (y (i % nb) 0).tmod (min (x + c i 0) (d i 0) + 1)) - (y ((i + 1) % nb) 0).tmod 5), z + d i 0 - (y (i % nb) 0).tmod (min (x + c i 0) (d i 0) + 1), u + d i 0 - boR (fun i => c i 0) (fun i => d i 0) r s i, w + c i 0), k5⟩, by simp only []; omega, ?_⟩
    apply sub_of <;> simp only [wsu, wi, wc, wu, wu2, w1, w2, wz, k1, k2, k3, hyi.1, hyj.1, tm, Int.toNat_natCast, go_sem, ↓reduceIte, Nat.reduceAdd, Nat.reduceSub, Nat.reduceMul, Nat.reduceEqDiff, Nat.reduceLT, Nat.reduceLeDiff, Int.reduceToNat, Int.reduceLE, Int.reduceLT, Int.reduceEq, Int.reduceNeg, reduceCtorEq] <;> (try simp) <;> (try exact fun j _ => Bd_nth (by simp [BdL, Bd]) j) <;> (try exact bd_setL (by simp [bdAs, BdL, Bd])) <;> (try exact nestF_bd _ _ _ _ _ _ _ _ _)
end Go.Eng
end

/-
  BrineLeast: for every input the law returns true, and each argument reads afterwards as it read before. No condition.
-/
section
namespace Go.Proofs.Ytakbfbcfddcncaa.brineLeast
open Go.ChangeShapes Go.WideShapes Go.ChangeAt Go.RowKit Go.Eng
set_option linter.unusedVariables false
theorem own : ownKnob Try.prog.godebug = none := by kernel_rfl
theorem laid : laidOutB Try.prog = true := by kernel_rfl
set_option maxRecDepth 100000 in
theorem lifted (os : Os) (started : os.Started) (H : Type) (enc : TypeId × Value → H) :
    ReturnsInHanded {} Try.checked os 5 .any (Rows.brineLeastSpec.pre6 enc Try.prog Try.f5 Rows.brineLeastRow.domain false) (Rows.brineLeastSpec.post enc Try.prog Try.f5 false true false false) := by
  refine returnsInHanded_of_change (C := Try.checked) own started (by kernel_rfl) Try.func5
    (ChangeSpec.witness6 (enc := enc) (C := Try.checked) false ⟨#[], #[.slice none 0 0, .slice none 0 0, .int .i64 0, .int .i64 0, .slice none 0 0], []⟩ 8 (by kernel_rfl) (by kernel_rfl) (by kernel_rfl) (by kernel_rfl)) ?_
  intro W base args ds gs before hval0 hW hcnd _
  have hval : ∀ (j : Nat) t v, Try.f5.params[j]? = some t → args[j]? = some v → Value.okWide Try.prog W .any base t v := hval0
  have hW' := hW
  obtain ⟨p, q, hA0, hV, rfl, hfz, hnd⟩ := hW
  have hA : DataW.TrodAll enc Try.prog W 0 (fun _ => true) true Try.f5.params.toList args.toList ds p := hA0
  rw [Try.params5] at hA hval
  obtain ⟨v0, vs0, d0, ds0, p0, q0, hargs, rfl, rfl, h0, r0⟩ := trodAll_cons hA
  obtain ⟨v1, vs1, d1, ds1, p1, q1, rfl, rfl, rfl, h1, r1⟩ := trodAll_cons r0
  obtain ⟨v2, vs2, d2, ds2, p2, q2, rfl, rfl, rfl, h2, r2⟩ := trodAll_cons r1
  obtain ⟨v3, vs3, d3, ds3, p3, q3, rfl, rfl, rfl, h3, r3⟩ := trodAll_cons r2
  obtain ⟨v4, vs4, d4, ds4, p4, q4, rfl, rfl, rfl, h4, r4⟩ := trodAll_cons r3
  obtain ⟨rfl, rfl, rfl⟩ := trodAll_nil r4
  obtain rfl : args = #[v0, v1, v2, v3, v4] := by cases args; simp_all
  obtain ⟨rfl, rfl⟩ := trodVars_none hV
  obtain ⟨n0, f0, e0, m0, t0⟩ := arg_row (s := [.int .i64]) Try.underlying42 (by kernel_rfl) (hval 0 42 v0 rfl rfl) h0
  obtain ⟨i0, b0⟩ := intK_of_typ (k := .i64) (c := 1) rfl t0
  obtain ⟨n1, f1, e1, m1, t1⟩ := arg_row (s := [.int .i64]) Try.underlying42 (by kernel_rfl) (hval 1 42 v1 rfl rfl) h1
  obtain ⟨i1, b1⟩ := intK_of_typ (k := .i64) (c := 1) rfl t1
  obtain ⟨x2, rfl, rfl, rfl, w2⟩ := open_int Try.underlying3 (hval 2 3 v2 rfl rfl) h2
  obtain ⟨x3, rfl, rfl, rfl, w3⟩ := open_int Try.underlying3 (hval 3 3 v3 rfl rfl) h3
  obtain ⟨n4, f4, e4, m4, t4⟩ := arg_row (s := [.int .u32]) Try.underlying43 (by kernel_rfl) (hval 4 43 v4 rfl rfl) h4
  obtain ⟨i4, b4⟩ := intK_of_typ (k := .u32) (c := 1) rfl t4
  have hd : DenL Env.emp W [.row n0 1 f0, .row n1 1 f1, .int .i64 x2, .int .i64 x3, .row n4 1 f4] [v0, v1, .int .i64 x2, .int .i64 x3, v4] := ⟨e0, e1, .int _ _, .int _ _, e4, trivial⟩
  refine (law_calls brineLeast_base (args := [.row n0 1 f0, .row n1 1 f1, .int .i64 x2, .int .i64 x3, .row n4 1 f4]) rfl ⟨⟨rfl, fun i j hi hj => i0 i j hi hj⟩, ⟨rfl, fun i j hi hj => i1 i j hi hj⟩, ⟨rfl, fun i j hi hj => i4 i j hi hj⟩, fun i hi => b4 i 0 hi (by omega)⟩ (denA_of hd)).mono fun e W' ⟨he, hb⟩ => ?_
  subst he
  exact ⟨_, rfl, law_end laid rfl Try.underlying4 (by kernel_rfl) rfl hW' rfl hb⟩
theorem over : Rows.brineLeastRow.holds Try.pinned (OpenSpec.ofChange Rows.brineLeastSpec) :=
  OpenClaim.holds_of_wide 5 Try.f5 rfl rfl rfl rfl rfl rfl rfl ⟨rfl, rfl, rfl, rfl, rfl⟩ rfl rfl rfl rfl rfl (by kernel_rfl) Try.func5 (by kernel_rfl)
    (of_decide_eq_true (by kernel_rfl)) (by unfold Func.isWrapper; first | (rw [if_pos (by decide +kernel)]; kernel_rfl) | (rw [if_neg (by decide +kernel)]; exact ⟨rfl, rfl⟩))
    (fun os started H enc _ => lifted os started H enc)
end Go.Proofs.Ytakbfbcfddcncaa.brineLeast
namespace Go.Proofs.Ytakbfbcfddcncaa
/-- The given statement. -/
theorem brineLeast_holds : Rows.BrineLeastSaid := brineLeast.over
#print axioms brineLeast_holds
end Go.Proofs.Ytakbfbcfddcncaa
end
