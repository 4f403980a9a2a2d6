/-
  BrineNames: for every input the law returns true, and each argument reads afterwards as it read before. No condition.
-/
import Derived.Test.YtakbfbcfddcncaaRows
import Derived.WalkKit
import Derived.Test.YtakbfbcfddcncaaK2
set_option linter.unusedSimpArgs false
set_option linter.unusedVariables false
/- brine: Total. -/
section
namespace Go.Eng
open Go Go.RowKit Go.Proofs
set_option maxRecDepth 100000
set_option maxHeartbeats 4000000
attribute [local irreducible] OwnT DefS
/-- Pipes whose slugs can be added. -/
def OkT (n : Nat) (M : Nat → Nat) (V : Nat → Nat → Nat → Int) : Prop := n ≤ 100 ∧ ∀ i, i < n → M i ≤ 1000 ∧ OkB (slL (M i) (V i))
/-- What is in tank and the first pipes, and what is stored. -/
def toV (tv : Int) (M : Nat → Nat) (V : Nat → Nat → Nat → Int) (n : Nat) : Int := tv + smN (fun i => volL (slL (M i) (V i))) n
def toH (th he : Int) (M : Nat → Nat) (V : Nat → Nat → Nat → Int) (n : Nat) : Int := th + he + smN (fun i => heatL (slL (M i) (V i))) n
def mid (x : Int) : Prop := 0 ≤ x ∧ x ≤ 8796093022208
theorem OkT.bd {n : Nat} {M : Nat → Nat} {V : Nat → Nat → Nat → Int} (h : OkT n M V) : ∀ i, i ≤ n → (0 ≤ smN (fun i => volL (slL (M i) (V i))) i ∧ smN (fun i => volL (slL (M i) (V i))) i ≤ 2097152000 * (i : Int)) ∧ 0 ≤ smN (fun i => heatL (slL (M i) (V i))) i ∧ smN (fun i => heatL (slL (M i) (V i))) i ≤ 4398046511104000 * (i : Int)
  | 0, _ => by simp [smN]
  | i + 1, hi => by
    have h1 := h.bd i (by omega)
    obtain ⟨h2, h3⟩ := h.2 i (by omega)
    have h4 := h3.sum
    rw [slL_len] at h4
    simp only [smN, volL, heatL] at h1 ⊢
    omega
theorem okB_of {n : Nat} {v : Nat → Nat → Int} (h : allU (fun i => okS (v i 0) (v i 1)) n = true) : OkB (slL n v) := fun x hx => by
  obtain ⟨k, hk, rfl⟩ := slL_mem hx
  have := allU_iff.1 h k hk
  simp only [okS, Bool.and_eq_true, in3_iff] at this
  simp only []
  omega
theorem okBr_T {tv th : Int} {n : Nat} {A : Nat → Nat → Int} {M : Nat → Nat} {V : Nat → Nat → Nat → Int} {he hr : Int} (h : okBr tv th n A M V he hr = true) : OkT n M V ∧ mid tv ∧ mid th ∧ mid he := by
  obtain ⟨hp, _, hn, _⟩ := okBr_start h
  have h0 := h
  simp only [okBr, Bool.and_eq_true, Bool.or_eq_true, in3_iff, decide_eq_true_eq, allU_iff] at h
  obtain ⟨⟨h1, h2, h3⟩, ⟨h4, h5⟩, h6, h7⟩ := h
  refine ⟨⟨by omega, fun i hi => ?_⟩, ?_, ?_, ?_⟩
  · have := h7 i hi
    simp only [okPp, Bool.and_eq_true, in3_iff, decide_eq_true_eq] at this
    exact ⟨by omega, okB_of this.2.2.1⟩
  · unfold mid; omega
  · unfold mid; omega
  · unfold mid; omega
def TotalBase : BaseF := fun args => match args with
  | [.agg [.int .i64 tv, .int .i64 th, .row n sz_A f_A, .int .i64 he, .int .i64 hr]] => some ((sz_A = 2 ∧ NestR n 2 1 2 f_A) ∧ (n ≤ 1000000), if okBr tv th n (nsA f_A) (nsM 1 f_A) (nsV 1 f_A) he hr then .tup [.agg [.int .i64 (toV tv (nsM 1 f_A) (nsV 1 f_A) n), .int .i64 (toH th he (nsM 1 f_A) (nsV 1 f_A) n)], .int .i64 0] else .tup [.agg [.int .i64 0, .int .i64 0], .int .i64 1])
  | _ => none
theorem Total_eq (tv : Int) (th : Int) (n : Nat) (sz_A : Nat) (f_A : Nat → Nat → SV) (he : Int) (hr : Int) : TotalBase [.agg [.int .i64 tv, .int .i64 th, .row n sz_A f_A, .int .i64 he, .int .i64 hr]] = some ((sz_A = 2 ∧ NestR n 2 1 2 f_A) ∧ (n ≤ 1000000), if okBr tv th n (nsA f_A) (nsM 1 f_A) (nsV 1 f_A) he hr then .tup [.agg [.int .i64 (toV tv (nsM 1 f_A) (nsV 1 f_A) n), .int .i64 (toH th he (nsM 1 f_A) (nsV 1 f_A) n)], .int .i64 0] else .tup [.agg [.int .i64 0, .int .i64 0], .int .i64 1]) := rfl
theorem Total_base : Base Try.prog 21 TotalBase := by
  intro args p v hq hp
  unfold TotalBase at hq
  split at hq
  rotate_left
  · cases hq
  rename_i tv th n sz_A f_A he hr
  cases hq
  obtain ⟨⟨rfl, i_A⟩, pre⟩ := hp
  refine base_of (C := cx [] [] [(31, isBrineBase), (41, plusBase), (42, sumBase)] [(21, 7, p21_7)] none) (cx_ok trivial ⟨isBrine_base, plus_base, sum_base, trivial⟩) rfl (g := 21) (fn := Try.f21)
    (args' := [.agg [.int .i64 tv, .int .i64 th, .row n 2 (nestF 1 2 (nsA f_A) (nsM 1 f_A) (nsV 1 f_A)), .int .i64 he, .int .i64 hr]]) (fn_21) rfl 1000 (by
    simp only [BdL, Bd, and_self, and_true, true_and]
    exact (fun i j hi hj => nest_bd i_A i j hi hj)) ⟨SameD.agg ⟨SameD.rfl' _, SameD.rfl' _, SameD.nest i_A, SameD.rfl' _, SameD.rfl' _, trivial⟩, trivial⟩ ?_
  generalize nsA f_A = A at *
  generalize nsM 1 f_A = M at *
  generalize nsV 1 f_A = V at *
  cases hok : okBr tv th n A M V he hr with
  | false =>
    simp only [hok, pre, isBrine_eq, plus_eq, sum_eq, p21_7, nestR_lit, nsM_lit, nsV_lit, okBr_ns, nestF11_0, nestF11_1, Try.f21, go_sem, ↓reduceIte, Nat.reduceAdd, Nat.reduceSub, Nat.reduceMul, Nat.reduceEqDiff, Nat.reduceLT, Nat.reduceLeDiff, Int.reduceToNat, Int.reduceLE, Int.reduceLT, Int.reduceEq, Int.reduceNeg, reduceCtorEq]
  | true =>
    obtain ⟨hT, t1, t2, t3⟩ := okBr_T hok
    simp only [hok, pre, isBrine_eq, plus_eq, sum_eq, p21_7, nestR_lit, nsM_lit, nsV_lit, okBr_ns, nestF11_0, nestF11_1, Try.f21, go_sem, ↓reduceIte, Nat.reduceAdd, Nat.reduceSub, Nat.reduceMul, Nat.reduceEqDiff, Nat.reduceLT, Nat.reduceLeDiff, Int.reduceToNat, Int.reduceLE, Int.reduceLT, Int.reduceEq, Int.reduceNeg, reduceCtorEq]
    have hb : ∀ i, i ≤ n → bg (toV tv M V i) ∧ bg (toH th he M V i) := fun i hi => by
      have h1 := hT.bd i hi
      have h2 := hT.1
      unfold mid at t1 t2 t3
      unfold bg toV toH
      omega
    refine ⟨?_, ?_⟩
    · unfold mid at t1 t2 t3
      unfold bg
      omega
    refine loop_ofH { i : Nat // i ≤ n } (fun i => [(20, .int .i64 (i.1 : Int)), (19, .int .i64 (n : Int)), (18, .row n 2 (nestF 1 2 A M V)), (4, .ptr 2 0), (2, .ptr 1 0)]) (fun _ i => { blks := [.live 26 [.int .i64 tv, .int .i64 th, .row n 2 (nestF 1 2 A M V), .int .i64 he, .int .i64 hr], .live 23 [.int .i64 0, .int .i64 0], .live 23 [.int .i64 (toV tv M V i.1), .int .i64 (toH th he M V i.1)]], vecs := [] }) (fun i => n - i.1) (fun _ => ⟨rfl, rfl⟩) ⟨0, by omega⟩ (by
      have e1 : tv = toV tv M V 0 := by simp [toV, smN]
      have e2 : th + he = toH th he M V 0 := by simp [toH, smN]
      apply sub_of <;> simp only [go_sem, ↓reduceIte, Nat.reduceAdd, Nat.reduceSub, Nat.reduceMul, Nat.reduceEqDiff, Nat.reduceLT, Nat.reduceLeDiff, Int.reduceToNat, Int.reduceLE, Int.reduceLT, Int.reduceEq, Int.reduceNeg, reduceCtorEq] <;> (try simp) <;> (try exact fun j _ => Bd_nth (by simp [BdL, Bd]) j) <;> (try exact bd_setL (by simp [bdAs, BdL, Bd])) <;> (try exact nestF_bd _ _ _ _ _ _ _ _ _) <;> first | exact ⟨e1, e2⟩ | exact nestF_bd _ _ _ _ _ _ _ _ _ | exact ⟨nestF_bd _ _ _ _ _ _ _ _ _, nestF_bd _ _ _ _ _ _ _ _ _⟩) ?_
    rintro ⟨i, hi⟩
    simp only [hok, pre, isBrine_eq, plus_eq, sum_eq, p21_7, nestR_lit, nsM_lit, nsV_lit, okBr_ns, nestF11_0, nestF11_1, Try.f21, go_sem, ↓reduceIte, Nat.reduceAdd, Nat.reduceSub, Nat.reduceMul, Nat.reduceEqDiff, Nat.reduceLT, Nat.reduceLeDiff, Int.reduceToNat, Int.reduceLE, Int.reduceLT, Int.reduceEq, Int.reduceNeg, reduceCtorEq]
    refine ⟨fun e1 => ?_, fun e1 => ?_⟩
    · simp only [decide_eq_true_eq] at e1
      have ik : i < n := by omega
      obtain ⟨m1, m2⟩ := hT.2 i ik
      have m3 := m2.sum
      rw [slL_len] at m3
      have v1 : toV tv M V i + (smL (slL (M i) (V i))).1 = toV tv M V (i + 1) := by simp only [toV, smN, volL]; omega
      have v2 : toH th he M V i + (smL (slL (M i) (V i))).2 = toH th he M V (i + 1) := by simp only [toH, smN, heatL]; omega
      refine ⟨⟨by omega, by omega⟩, ⟨by kernel_rfl, by kernel_rfl⟩, ⟨m1, m2⟩, ⟨(hb i hi).1, (hb i hi).2, by unfold bg; omega, by unfold bg; omega⟩, ⟨i + 1, by omega⟩, by simp only []; omega, ?_⟩
      apply sub_of <;> simp only [wrap_s ik pre, v1, v2, go_sem, ↓reduceIte, Nat.reduceAdd, Nat.reduceSub, Nat.reduceMul, Nat.reduceEqDiff, Nat.reduceLT, Nat.reduceLeDiff, Int.reduceToNat, Int.reduceLE, Int.reduceLT, Int.reduceEq, Int.reduceNeg, reduceCtorEq] <;> (try simp) <;> (try exact fun j _ => Bd_nth (by simp [BdL, Bd]) j) <;> (try exact bd_setL (by simp [bdAs, BdL, Bd])) <;> (try exact nestF_bd _ _ _ _ _ _ _ _ _)
    · simp only [decide_eq_false_iff_not] at e1
      obtain rfl : i = n := by omega
      rfl
end Go.Eng
end

/- brine: enough. -/
section
namespace Go.Eng
open Go Go.RowKit Go.Proofs
set_option maxRecDepth 100000
set_option maxHeartbeats 4000000
attribute [local irreducible] OwnT DefS
def enoughBase : BaseF := fun args => match args with
  | [.row n sz_c f_c, .row m sz_d f_d, .int .i64 s, .int .i64 r, .int .i64 lim] => some ((sz_c = 1 ∧ IntR n 1 f_c) ∧ (sz_d = 1 ∧ IntR m 1 f_d) ∧ (n ≤ 200 ∧ m = n ∧ (∀ i, i < n → big32 ((ivf f_c) i 0)) ∧ (∀ i, i < n → big32 ((ivf f_d) i 0)) ∧ 0 ≤ s ∧ s ≤ r ∧ r ≤ 4294967296), .bool (decide (suR (fun i => (ivf f_c) i 0) (fun i => (ivf f_d) i 0) r s n ≤ lim)))
  | _ => none
theorem enough_eq (n : Nat) (sz_c : Nat) (f_c : Nat → Nat → SV) (m : Nat) (sz_d : Nat) (f_d : Nat → Nat → SV) (s : Int) (r : Int) (lim : Int) : enoughBase [.row n sz_c f_c, .row m sz_d f_d, .int .i64 s, .int .i64 r, .int .i64 lim] = some ((sz_c = 1 ∧ IntR n 1 f_c) ∧ (sz_d = 1 ∧ IntR m 1 f_d) ∧ (n ≤ 200 ∧ m = n ∧ (∀ i, i < n → big32 ((ivf f_c) i 0)) ∧ (∀ i, i < n → big32 ((ivf f_d) i 0)) ∧ 0 ≤ s ∧ s ≤ r ∧ r ≤ 4294967296), .bool (decide (suR (fun i => (ivf f_c) i 0) (fun i => (ivf f_d) i 0) r s n ≤ lim))) := rfl
theorem enough_base : Base Try.prog 48 enoughBase := by
  intro args p v hq hp
  unfold enoughBase at hq
  split at hq
  rotate_left
  · cases hq
  rename_i n sz_c f_c m sz_d f_d s r lim
  cases hq
  obtain ⟨⟨rfl, i_c⟩, ⟨rfl, i_d⟩, pre⟩ := hp
  refine base_of (C := cx [] [(45, 3, reuseRBase)] [] [] none) (cx_ok ⟨reuseR_base, trivial⟩ trivial) rfl (g := 48) (fn := Try.f48)
    (args' := [.row n 1 (rowF .i64 (ivf f_c)), .row m 1 (rowF .i64 (ivf f_d)), .int .i64 s, .int .i64 r, .int .i64 lim]) (fn_48) rfl 1000 (by
    simp only [BdL, Bd, and_self, and_true, true_and]
    exact ⟨(fun i j hi hj => by rw [i_c i j hi hj]; trivial), (fun i j hi hj => by rw [i_d i j hi hj]; trivial)⟩) ⟨SameD.int i_c, SameD.int i_d, SameD.rfl' _, SameD.rfl' _, SameD.rfl' _, trivial⟩ ?_
  generalize ivf f_c = c at *
  generalize ivf f_d = d at *
  simp only [rowF_eq]
  simp only [reuseR_eq, Try.f48, go_sem, ↓reduceIte, Nat.reduceAdd, Nat.reduceSub, Nat.reduceMul, Nat.reduceEqDiff, Nat.reduceLT, Nat.reduceLeDiff, Int.reduceToNat, Int.reduceLE, Int.reduceLT, Int.reduceEq, Int.reduceNeg, reduceCtorEq]
  obtain ⟨p1, p2, p3, p4, p5, p6, p7⟩ := pre
  refine ⟨⟨p1, p2, p3, p4, p5, p6, p7⟩, ?_⟩
  refine loop_ofH { i : Nat // i ≤ n } (fun i => [(15, .int .i64 (i.1 : Int)), (14, .int .i64 (suR (fun i => c i 0) (fun i => d i 0) r s i.1)), (11, .vec 0 0), (4, .int .i64 lim)]) (fun _ _ => { blks := [], vecs := [.live 0 3 1 n (fun i _ => .int .i64 (boR (fun i => c i 0) (fun i => d i 0) r s i))] }) (fun i => n - i.1) (fun _ => ⟨rfl, rfl⟩) ⟨0, by omega⟩ (by (apply sub_of <;> simp only [go_sem, ↓reduceIte, Nat.reduceAdd, Nat.reduceSub, Nat.reduceMul, Nat.reduceEqDiff, Nat.reduceLT, Nat.reduceLeDiff, Int.reduceToNat, Int.reduceLE, Int.reduceLT, Int.reduceEq, Int.reduceNeg, reduceCtorEq] <;> (try simp [catF]) <;> (try exact fun j _ => Bd_nth (by simp [BdL, Bd]) j) <;> (try exact bd_setL (by simp [bdAs, BdL, Bd])) <;> (try exact nestF_bd _ _ _ _ _ _ _ _ _)) <;> rfl) ?_
  rintro ⟨i, hi⟩
  simp only [reuseR_eq, Try.f48, go_sem, ↓reduceIte, Nat.reduceAdd, Nat.reduceSub, Nat.reduceMul, Nat.reduceEqDiff, Nat.reduceLT, Nat.reduceLeDiff, Int.reduceToNat, Int.reduceLE, Int.reduceLT, Int.reduceEq, Int.reduceNeg, reduceCtorEq]
  refine ⟨fun e1 => ?_, fun e1 => ?_⟩
  · simp only [decide_eq_true_eq] at e1
    have ik : i < n := by omega
    have h1 := boR_bd p3 p4 p5 p6 i ik
    have h2 := suR_bd p3 p4 p5 p6 i hi
    have w1 : IntKind.i64.wrap (suR (fun i => c i 0) (fun i => d i 0) r s i + boR (fun i => c i 0) (fun i => d i 0) r s i) = suR (fun i => c i 0) (fun i => d i 0) r s (i + 1) := by rw [wrap_id (by omega) (by omega)]; rfl
    refine ⟨⟨by omega, by omega⟩, ik, ⟨i + 1, by omega⟩, by simp only []; omega, ?_⟩
    apply sub_of <;> simp only [wrap_s ik (by omega), Int.toNat_natCast, w1, go_sem, ↓reduceIte, Nat.reduceAdd, Nat.reduceSub, Nat.reduceMul, Nat.reduceEqDiff, Nat.reduceLT, Nat.reduceLeDiff, Int.reduceToNat, Int.reduceLE, Int.reduceLT, Int.reduceEq, Int.reduceNeg, reduceCtorEq] <;> (try simp) <;> (try exact fun j _ => Bd_nth (by simp [BdL, Bd]) j) <;> (try exact bd_setL (by simp [bdAs, BdL, Bd])) <;> (try exact nestF_bd _ _ _ _ _ _ _ _ _)
  · simp only [decide_eq_false_iff_not] at e1
    obtain rfl : i = n := by omega
    rfl
end Go.Eng
end

/- brine: Room. -/
section
namespace Go.Eng
open Go Go.RowKit Go.Proofs
set_option maxRecDepth 100000
set_option maxHeartbeats 4000000
attribute [local irreducible] OwnT DefS
/-- The least of the first N that a rule holds for, or N. -/
def lstN (p : Nat → Bool) : Nat → Nat
  | 0 => 0
  | n + 1 => if lstN p n < n then lstN p n else if p n then n else n + 1
theorem lstN_spec (p : Nat → Bool) : ∀ n, lstN p n ≤ n ∧ (∀ x, x < lstN p n → p x = false) ∧ (lstN p n < n → p (lstN p n) = true)
  | 0 => ⟨Nat.le_refl 0, fun x hx => by simp [lstN] at hx, fun h => by simp [lstN] at h⟩
  | n + 1 => by
    obtain ⟨h1, h2, h3⟩ := lstN_spec p n
    simp only [lstN]
    split
    · rename_i h
      exact ⟨by omega, h2, fun _ => h3 h⟩
    · have e : lstN p n = n := by omega
      rw [e] at h2
      split
      · rename_i hp
        exact ⟨by omega, h2, fun _ => hp⟩
      · rename_i hp
        refine ⟨by omega, fun x hx => ?_, fun h => by omega⟩
        rcases Nat.lt_or_ge x n with g | g
        · exact h2 x g
        · obtain rfl : x = n := by omega
          simpa using hp
theorem lstN_iff {p : Nat → Bool} {n : Nat} (hm : ∀ x y, x ≤ y → p x = true → p y = true) {x : Nat} (hx : x < n) : p x = true ↔ lstN p n ≤ x := by
  obtain ⟨h1, h2, h3⟩ := lstN_spec p n
  refine ⟨fun h => ?_, fun h => hm _ _ h (h3 (by omega))⟩
  rcases Nat.lt_or_ge x (lstN p n) with g | g
  · rw [h2 x g] at h; cases h
  · exact g
/-- Whether some room is enough. -/
def enM (n : Nat) (c d : Nat → Int) (s lim : Int) (k : Nat) : Bool := decide (suR c d (s + (k : Int)) s n ≤ lim)
theorem enM_mono {n : Nat} {c d : Nat → Int} {s lim : Int} (x y : Nat) (h : x ≤ y) (hx : enM n c d s lim x = true) : enM n c d s lim y = true := by
  simp only [enM, decide_eq_true_eq] at hx ⊢
  have := suR_mono (c := c) (d := d) (s := s) (r := s + (x : Int)) (r' := s + (y : Int)) (by omega) n
  omega
/-- How much room is enough. -/
def rmM (n : Nat) (c d : Nat → Int) (s lim : Int) : Int := s + (lstN (enM n c d s lim) (4294967296 - s + 1).toNat : Nat)
/-- Room: error, and how much. -/
def roM (n : Nat) (c : Nat → Int) (m : Nat) (d : Nat → Int) (s lim : Int) : Int × Int :=
  if erR n c m d s s = 0 then if in3 lim 0 1099511627776 then if rmM n c d s lim ≤ 4294967296 then (0, rmM n c d s lim) else (4, 0) else (2, 0) else (erR n c m d s s, 0)
theorem wrapu_id {x : Int} (h1 : 0 ≤ x) (h2 : x ≤ 18446744073709551615) : IntKind.u64.wrap x = x := by
  simp [IntKind.wrap, IntKind.signed, IntKind.bits]
  omega
theorem mid_eq {i j : Nat} (h : i + j ≤ 1000000000000) : IntKind.i64.wrap ((IntKind.u64.wrap (IntKind.i64.wrap ((i : Int) + (j : Int)))).fdiv (2 ^ min 1 64)) = (((i + j) / 2 : Nat) : Int) := by
  rw [wrap_id (x := (i : Int) + j) (by omega) (by omega), wrapu_id (by omega) (by omega)]
  have e : (2 : Int) ^ min 1 64 = 2 := by decide
  rw [e, Int.fdiv_eq_ediv_of_nonneg _ (by omega), wrap_id (by omega) (by omega)]
  omega
attribute [local irreducible] lstN
def RoomBase : BaseF := fun args => match args with
  | [.row n sz_c f_c, .row m sz_d f_d, .int .i64 s, .int .i64 lim] => some ((sz_c = 1 ∧ IntR n 1 f_c) ∧ (sz_d = 1 ∧ IntR m 1 f_d), .tup [.int .i64 (roM n (fun i => (ivf f_c) i 0) m (fun i => (ivf f_d) i 0) s lim).2, .int .i64 (roM n (fun i => (ivf f_c) i 0) m (fun i => (ivf f_d) i 0) s lim).1])
  | _ => none
theorem Room_eq (n : Nat) (sz_c : Nat) (f_c : Nat → Nat → SV) (m : Nat) (sz_d : Nat) (f_d : Nat → Nat → SV) (s : Int) (lim : Int) : RoomBase [.row n sz_c f_c, .row m sz_d f_d, .int .i64 s, .int .i64 lim] = some ((sz_c = 1 ∧ IntR n 1 f_c) ∧ (sz_d = 1 ∧ IntR m 1 f_d), .tup [.int .i64 (roM n (fun i => (ivf f_c) i 0) m (fun i => (ivf f_d) i 0) s lim).2, .int .i64 (roM n (fun i => (ivf f_c) i 0) m (fun i => (ivf f_d) i 0) s lim).1]) := rfl
theorem Room_base : Base Try.prog 25 RoomBase := by
  intro args p v hq hp
  unfold RoomBase at hq
  split at hq
  rotate_left
  · cases hq
  rename_i n sz_c f_c m sz_d f_d s lim
  cases hq
  obtain ⟨⟨rfl, i_c⟩, ⟨rfl, i_d⟩⟩ := hp
  refine base_of (C := cx [] [(39, 3, reuseBase)] [(36, withinBase), (38, errorOfBase)] [(25, 6, p25_6)] none) (cx_ok ⟨reuse_base, trivial⟩ ⟨within_base, errorOf_base, trivial⟩) rfl (g := 25) (fn := Try.f25)
    (args' := [.row n 1 (rowF .i64 (ivf f_c)), .row m 1 (rowF .i64 (ivf f_d)), .int .i64 s, .int .i64 lim]) (fn_25) rfl 1000 (by
    simp only [BdL, Bd, and_self, and_true, true_and]
    exact ⟨(fun i j hi hj => by rw [i_c i j hi hj]; trivial), (fun i j hi hj => by rw [i_d i j hi hj]; trivial)⟩) ⟨SameD.int i_c, SameD.int i_d, SameD.rfl' _, SameD.rfl' _, trivial⟩ ?_
  generalize ivf f_c = c
  generalize ivf f_d = d
  simp only [rowF_eq]
  unfold roM
  by_cases he : erR n (fun i => c i 0) m (fun i => d i 0) s s = 0
  rotate_left
  · have hd : decide (erR n (fun i => c i 0) m (fun i => d i 0) s s = 0) = false := decide_eq_false he
    simp only [hd, if_neg he, within_eq, errorOf_eq, reuse_eq, p25_6, Try.f46, Try.f47, Try.f25, go_sem, ↓reduceIte, Nat.reduceAdd, Nat.reduceSub, Nat.reduceMul, Nat.reduceEqDiff, Nat.reduceLT, Nat.reduceLeDiff, Int.reduceToNat, Int.reduceLE, Int.reduceLT, Int.reduceEq, Int.reduceNeg, reduceCtorEq]
  have hd : decide (erR n (fun i => c i 0) m (fun i => d i 0) s s = 0) = true := decide_eq_true he
  cases hl : in3 lim 0 1099511627776 with
  | false =>
    simp only [hd, hl, if_pos he, within_eq, errorOf_eq, reuse_eq, p25_6, Try.f46, Try.f47, Try.f25, go_sem, ↓reduceIte, Nat.reduceAdd, Nat.reduceSub, Nat.reduceMul, Nat.reduceEqDiff, Nat.reduceLT, Nat.reduceLeDiff, Int.reduceToNat, Int.reduceLE, Int.reduceLT, Int.reduceEq, Int.reduceNeg, reduceCtorEq]
    done
  | true =>
    obtain ⟨p1, p2, p3, p4, p5, p6, p7⟩ := er_ok he
    obtain ⟨l1, l2⟩ := in3_iff.1 hl
    have w0 : IntKind.i64.wrap (IntKind.i64.wrap (4294967296 - s) + 1) = (((4294967296 - s + 1).toNat : Nat) : Int) := by rw [wrap_id (x := 4294967296 - s) (by omega) (by omega), wrap_id (by omega) (by omega)]; omega
    have hN : (4294967296 - s + 1).toNat ≤ 4294967297 := by omega
    have hN2 : s + (((4294967296 - s + 1).toNat : Nat) : Int) = 4294967297 := by omega
    simp only [hd, hl, if_pos he, w0, within_eq, errorOf_eq, reuse_eq, p25_6, Try.f46, Try.f47, Try.f25, go_sem, ↓reduceIte, Nat.reduceAdd, Nat.reduceSub, Nat.reduceMul, Nat.reduceEqDiff, Nat.reduceLT, Nat.reduceLeDiff, Int.reduceToNat, Int.reduceLE, Int.reduceLT, Int.reduceEq, Int.reduceNeg, reduceCtorEq]
    refine ⟨⟨by kernel_rfl, by kernel_rfl⟩, ?_⟩
    have hsp := fun x (hx : x < (4294967296 - s + 1).toNat) => lstN_iff (p := enM n (fun i => c i 0) (fun i => d i 0) s lim) (enM_mono) hx
    have hle := (lstN_spec (enM n (fun i => c i 0) (fun i => d i 0) s lim) (4294967296 - s + 1).toNat).1
    have hrm : rmM n (fun i => c i 0) (fun i => d i 0) s lim = s + (lstN (enM n (fun i => c i 0) (fun i => d i 0) s lim) (4294967296 - s + 1).toNat : Nat) := rfl
    generalize rmM n (fun i => c i 0) (fun i => d i 0) s lim = RM at *
    generalize lstN (enM n (fun i => c i 0) (fun i => d i 0) s lim) (4294967296 - s + 1).toNat = S at *
    generalize (4294967296 - s + 1).toNat = N at *
    refine loop_ofH { q : Nat × Nat // q.1 ≤ S ∧ S ≤ q.2 ∧ q.2 ≤ N } (fun q => [(6, .int .i64 (q.1.2 : Int)), (5, .int .i64 (q.1.1 : Int)), (1, .func 47 [.ptr 0 0, .ptr 1 0, .ptr 2 0, .ptr 3 0])]) (fun _ _ => { blks := [.live 42 [.row n 1 fun i j => .int .i64 (c i j)], .live 42 [.row m 1 fun i j => .int .i64 (d i j)], .live 3 [.int .i64 s], .live 3 [.int .i64 lim]], vecs := [] }) (fun q => q.1.2 - q.1.1) (fun _ => ⟨rfl, rfl⟩) ⟨(0, N), by omega, by omega, by omega⟩ (by (apply sub_of <;> simp only [go_sem, ↓reduceIte, Nat.reduceAdd, Nat.reduceSub, Nat.reduceMul, Nat.reduceEqDiff, Nat.reduceLT, Nat.reduceLeDiff, Int.reduceToNat, Int.reduceLE, Int.reduceLT, Int.reduceEq, Int.reduceNeg, reduceCtorEq] <;> (try simp [catF]) <;> (try exact fun j _ => Bd_nth (by simp [BdL, Bd]) j) <;> (try exact bd_setL (by simp [bdAs, BdL, Bd])) <;> (try exact nestF_bd _ _ _ _ _ _ _ _ _))) ?_
    rintro ⟨⟨a, b⟩, q1, q2, q3⟩
    simp only [] at q1 q2 q3
    simp only [within_eq, errorOf_eq, reuse_eq, p25_6, Try.f46, Try.f47, Try.f25, go_sem, ↓reduceIte, Nat.reduceAdd, Nat.reduceSub, Nat.reduceMul, Nat.reduceEqDiff, Nat.reduceLT, Nat.reduceLeDiff, Int.reduceToNat, Int.reduceLE, Int.reduceLT, Int.reduceEq, Int.reduceNeg, reduceCtorEq]
    simp only [mid_eq (show a + b ≤ 1000000000000 by omega)]
    refine ⟨fun d1 => ?_, fun d1 => ?_⟩
    · simp only [decide_eq_true_eq] at d1
      generalize hm : (a + b) / 2 = x
      have hx : a ≤ x ∧ x < b := by omega
      have hxk := hsp x (by omega)
      have w2 : IntKind.i64.wrap (s + (x : Int)) = s + (x : Int) := wrap_id (by omega) (by omega)
      have hw2 : IntKind.i64.wrap ((x : Int) + 1) = ((x + 1 : Nat) : Int) := by rw [wrap_id (by omega) (by omega)]; omega
      simp only [w2]
      have p7' : s + (x : Int) ≤ 4294967296 := by omega
      have p6' : s ≤ s + (x : Int) := by omega
      refine ⟨⟨p1, p2, p3, p4, p5, p6', p7'⟩, ?_⟩
      refine loop_ofH { i : Nat // i ≤ n } (fun i => [(26, .int .i64 (i.1 : Int)), (25, .int .i64 (n : Int)), (24, .vec 0 0), (10, .int .i64 (suR (fun i => c i 0) (fun i => d i 0) (s + (x : Int)) s i.1)), (4, .ptr 3 0)]) (fun _ _ => { blks := [.live 42 [.row n 1 fun i j => .int .i64 (c i j)], .live 42 [.row m 1 fun i j => .int .i64 (d i j)], .live 3 [.int .i64 s], .live 3 [.int .i64 lim]], vecs := [.live 0 3 1 n (fun i _ => .int .i64 (boR (fun i => c i 0) (fun i => d i 0) (s + (x : Int)) s i))] }) (fun i => n - i.1) (fun _ => ⟨rfl, rfl⟩) ⟨0, by omega⟩ (by (apply sub_of <;> simp only [go_sem, ↓reduceIte, Nat.reduceAdd, Nat.reduceSub, Nat.reduceMul, Nat.reduceEqDiff, Nat.reduceLT, Nat.reduceLeDiff, Int.reduceToNat, Int.reduceLE, Int.reduceLT, Int.reduceEq, Int.reduceNeg, reduceCtorEq] <;> (try simp [catF]) <;> (try exact fun j _ => Bd_nth (by simp [BdL, Bd]) j) <;> (try exact bd_setL (by simp [bdAs, BdL, Bd])) <;> (try exact nestF_bd _ _ _ _ _ _ _ _ _)) <;> rfl) ?_
      rintro ⟨i, hi⟩
      simp only [within_eq, errorOf_eq, reuse_eq, p25_6, Try.f46, Try.f47, Try.f25, go_sem, ↓reduceIte, Nat.reduceAdd, Nat.reduceSub, Nat.reduceMul, Nat.reduceEqDiff, Nat.reduceLT, Nat.reduceLeDiff, Int.reduceToNat, Int.reduceLE, Int.reduceLT, Int.reduceEq, Int.reduceNeg, reduceCtorEq]
      refine ⟨fun e1 => ?_, fun e1 => ?_⟩
      · simp only [decide_eq_true_eq] at e1
        have ik : i < n := by omega
        have h1 := boR_bd p3 p4 p5 p6' i ik
        have h2 := suR_bd p3 p4 p5 p6' i hi
        have w1 : IntKind.i64.wrap (suR (fun i => c i 0) (fun i => d i 0) (s + (x : Int)) s i + boR (fun i => c i 0) (fun i => d i 0) (s + (x : Int)) s i) = suR (fun i => c i 0) (fun i => d i 0) (s + (x : Int)) s (i + 1) := by rw [wrap_id (by omega) (by omega)]; rfl
        refine ⟨⟨by omega, by omega⟩, ik, ⟨i + 1, by omega⟩, by simp only []; omega, ?_⟩
        apply sub_of <;> simp only [wrap_s ik (by omega), Int.toNat_natCast, w1, go_sem, ↓reduceIte, Nat.reduceAdd, Nat.reduceSub, Nat.reduceMul, Nat.reduceEqDiff, Nat.reduceLT, Nat.reduceLeDiff, Int.reduceToNat, Int.reduceLE, Int.reduceLT, Int.reduceEq, Int.reduceNeg, reduceCtorEq] <;> (try simp) <;> (try exact fun j _ => Bd_nth (by simp [BdL, Bd]) j) <;> (try exact bd_setL (by simp [bdAs, BdL, Bd])) <;> (try exact nestF_bd _ _ _ _ _ _ _ _ _)
      · simp only [decide_eq_false_iff_not] at e1
        obtain rfl : i = n := by omega
        have hen : enM i (fun i => c i 0) (fun i => d i 0) s lim x = decide (suR (fun i => c i 0) (fun i => d i 0) (s + (x : Int)) s i ≤ lim) := rfl
        simp only [← hen]
        cases hq : enM i (fun i => c i 0) (fun i => d i 0) s lim x with
        | true =>
          have hS := hxk.1 hq
          simp only [within_eq, errorOf_eq, reuse_eq, p25_6, Try.f46, Try.f47, Try.f25, go_sem, ↓reduceIte, Nat.reduceAdd, Nat.reduceSub, Nat.reduceMul, Nat.reduceEqDiff, Nat.reduceLT, Nat.reduceLeDiff, Int.reduceToNat, Int.reduceLE, Int.reduceLT, Int.reduceEq, Int.reduceNeg, reduceCtorEq]
          refine ⟨⟨(a, x), by simp only []; omega, by simp only []; omega, by simp only []; omega⟩, by simp only []; omega, ?_⟩
          apply sub_of <;> simp only [go_sem, ↓reduceIte, Nat.reduceAdd, Nat.reduceSub, Nat.reduceMul, Nat.reduceEqDiff, Nat.reduceLT, Nat.reduceLeDiff, Int.reduceToNat, Int.reduceLE, Int.reduceLT, Int.reduceEq, Int.reduceNeg, reduceCtorEq] <;> (try simp) <;> (try exact fun j _ => Bd_nth (by simp [BdL, Bd]) j) <;> (try exact bd_setL (by simp [bdAs, BdL, Bd])) <;> (try exact nestF_bd _ _ _ _ _ _ _ _ _)
        | false =>
          have hS : ¬ S ≤ x := fun h => by rw [hxk.2 h] at hq; cases hq
          simp only [within_eq, errorOf_eq, reuse_eq, p25_6, Try.f46, Try.f47, Try.f25, go_sem, ↓reduceIte, Nat.reduceAdd, Nat.reduceSub, Nat.reduceMul, Nat.reduceEqDiff, Nat.reduceLT, Nat.reduceLeDiff, Int.reduceToNat, Int.reduceLE, Int.reduceLT, Int.reduceEq, Int.reduceNeg, reduceCtorEq]
          refine ⟨⟨(x + 1, b), by simp only []; omega, by simp only []; omega, by simp only []; omega⟩, by simp only []; omega, ?_⟩
          apply sub_of <;> simp only [hw2, go_sem, ↓reduceIte, Nat.reduceAdd, Nat.reduceSub, Nat.reduceMul, Nat.reduceEqDiff, Nat.reduceLT, Nat.reduceLeDiff, Int.reduceToNat, Int.reduceLE, Int.reduceLT, Int.reduceEq, Int.reduceNeg, reduceCtorEq] <;> (try simp) <;> (try exact fun j _ => Bd_nth (by simp [BdL, Bd]) j) <;> (try exact bd_setL (by simp [bdAs, BdL, Bd])) <;> (try exact nestF_bd _ _ _ _ _ _ _ _ _)
    · simp only [decide_eq_false_iff_not] at d1
      obtain rfl : a = S := by omega
      have w3 : IntKind.i64.wrap (s + (a : Int)) = RM := by rw [hrm]; exact wrap_id (by omega) (by omega)
      simp only [w3]
      by_cases hR : RM ≤ 4294967296
      · have e : decide (4294967296 < RM) = false := decide_eq_false (by omega)
        simp only [if_pos hR, e, go_sem, ↓reduceIte, Nat.reduceAdd, Nat.reduceSub, Nat.reduceMul, Nat.reduceEqDiff, Nat.reduceLT, Nat.reduceLeDiff, Int.reduceToNat, Int.reduceLE, Int.reduceLT, Int.reduceEq, Int.reduceNeg, reduceCtorEq]
      · have e : decide (4294967296 < RM) = true := decide_eq_true (by omega)
        simp only [if_neg hR, e, go_sem, ↓reduceIte, Nat.reduceAdd, Nat.reduceSub, Nat.reduceMul, Nat.reduceEqDiff, Nat.reduceLT, Nat.reduceLeDiff, Int.reduceToNat, Int.reduceLE, Int.reduceLT, Int.reduceEq, Int.reduceNeg, reduceCtorEq]
end Go.Eng
end

/- brine: Room of the reference. -/
section
namespace Go.Eng
open Go Go.RowKit Go.Proofs
set_option maxRecDepth 100000
set_option maxHeartbeats 4000000
attribute [local irreducible] OwnT DefS
attribute [local irreducible] lstN
def RoomRBase : BaseF := fun args => match args with
  | [.row n sz_c f_c, .row m sz_d f_d, .int .i64 s, .int .i64 lim] => some ((sz_c = 1 ∧ IntR n 1 f_c) ∧ (sz_d = 1 ∧ IntR m 1 f_d), .tup [.int .i64 (roM n (fun i => (ivf f_c) i 0) m (fun i => (ivf f_d) i 0) s lim).2, .int .i64 (roM n (fun i => (ivf f_c) i 0) m (fun i => (ivf f_d) i 0) s lim).1])
  | _ => none
theorem RoomR_eq (n : Nat) (sz_c : Nat) (f_c : Nat → Nat → SV) (m : Nat) (sz_d : Nat) (f_d : Nat → Nat → SV) (s : Int) (lim : Int) : RoomRBase [.row n sz_c f_c, .row m sz_d f_d, .int .i64 s, .int .i64 lim] = some ((sz_c = 1 ∧ IntR n 1 f_c) ∧ (sz_d = 1 ∧ IntR m 1 f_d), .tup [.int .i64 (roM n (fun i => (ivf f_c) i 0) m (fun i => (ivf f_d) i 0) s lim).2, .int .i64 (roM n (fun i => (ivf f_c) i 0) m (fun i => (ivf f_d) i 0) s lim).1]) := rfl
theorem RoomR_base : Base Try.prog 26 RoomRBase := by
  intro args p v hq hp
  unfold RoomRBase at hq
  split at hq
  rotate_left
  · cases hq
  rename_i n sz_c f_c m sz_d f_d s lim
  cases hq
  obtain ⟨⟨rfl, i_c⟩, ⟨rfl, i_d⟩⟩ := hp
  refine base_of (C := cx [] [] [(37, inBase), (44, errorsBase), (48, enoughBase)] [] none) (cx_ok trivial ⟨in_base, errors_base, enough_base, trivial⟩) rfl (g := 26) (fn := Try.f26)
    (args' := [.row n 1 (rowF .i64 (ivf f_c)), .row m 1 (rowF .i64 (ivf f_d)), .int .i64 s, .int .i64 lim]) (fn_26) rfl 1000 (by
    simp only [BdL, Bd, and_self, and_true, true_and]
    exact ⟨(fun i j hi hj => by rw [i_c i j hi hj]; trivial), (fun i j hi hj => by rw [i_d i j hi hj]; trivial)⟩) ⟨SameD.int i_c, SameD.int i_d, SameD.rfl' _, SameD.rfl' _, trivial⟩ ?_
  generalize ivf f_c = c
  generalize ivf f_d = d
  simp only [rowF_eq]
  unfold roM
  by_cases he : erR n (fun i => c i 0) m (fun i => d i 0) s s = 0
  rotate_left
  · have hd : decide (erR n (fun i => c i 0) m (fun i => d i 0) s s = 0) = false := decide_eq_false he
    simp only [hd, if_neg he, in_eq, errors_eq, enough_eq, Try.f26, go_sem, ↓reduceIte, Nat.reduceAdd, Nat.reduceSub, Nat.reduceMul, Nat.reduceEqDiff, Nat.reduceLT, Nat.reduceLeDiff, Int.reduceToNat, Int.reduceLE, Int.reduceLT, Int.reduceEq, Int.reduceNeg, reduceCtorEq]
  have hd : decide (erR n (fun i => c i 0) m (fun i => d i 0) s s = 0) = true := decide_eq_true he
  cases hl : in3 lim 0 1099511627776 with
  | false =>
    simp only [hd, hl, if_pos he, in_eq, errors_eq, enough_eq, Try.f26, go_sem, ↓reduceIte, Nat.reduceAdd, Nat.reduceSub, Nat.reduceMul, Nat.reduceEqDiff, Nat.reduceLT, Nat.reduceLeDiff, Int.reduceToNat, Int.reduceLE, Int.reduceLT, Int.reduceEq, Int.reduceNeg, reduceCtorEq]
    done
  | true =>
    obtain ⟨p1, p2, p3, p4, p5, p6, p7⟩ := er_ok he
    obtain ⟨l1, l2⟩ := in3_iff.1 hl
    have hN : (4294967296 - s + 1).toNat ≤ 4294967297 := by omega
    have hN2 : s + (((4294967296 - s + 1).toNat : Nat) : Int) = 4294967297 := by omega
    have hsp := fun x (hx : x < (4294967296 - s + 1).toNat) => lstN_iff (p := enM n (fun i => c i 0) (fun i => d i 0) s lim) (enM_mono) hx
    have hle := (lstN_spec (enM n (fun i => c i 0) (fun i => d i 0) s lim) (4294967296 - s + 1).toNat).1
    have hrm : rmM n (fun i => c i 0) (fun i => d i 0) s lim = s + (lstN (enM n (fun i => c i 0) (fun i => d i 0) s lim) (4294967296 - s + 1).toNat : Nat) := rfl
    generalize rmM n (fun i => c i 0) (fun i => d i 0) s lim = RM at *
    generalize lstN (enM n (fun i => c i 0) (fun i => d i 0) s lim) (4294967296 - s + 1).toNat = S at *
    generalize (4294967296 - s + 1).toNat = N at *
    have hen : ∀ r, s ≤ r → r ≤ 4294967296 → (suR (fun i => c i 0) (fun i => d i 0) r s n ≤ lim ↔ RM ≤ r) := fun r h1 h2 => by
      have := hsp (r - s).toNat (by omega)
      rw [show enM n (fun i => c i 0) (fun i => d i 0) s lim (r - s).toNat = decide (suR (fun i => c i 0) (fun i => d i 0) r s n ≤ lim) by
        simp only [enM]; rw [show s + (((r - s).toNat : Nat) : Int) = r by omega]] at this
      rw [decide_eq_true_eq] at this
      omega
    by_cases h0 : suR (fun i => c i 0) (fun i => d i 0) 4294967296 s n ≤ lim
    · have hq := (hen 4294967296 p7 (Int.le_refl _)).1 h0
      have e0 : decide (suR (fun i => c i 0) (fun i => d i 0) 4294967296 s n ≤ lim) = true := decide_eq_true h0
      simp only [hd, hl, if_pos he, if_pos hq, e0, in_eq, errors_eq, enough_eq, Try.f26, go_sem, ↓reduceIte, Nat.reduceAdd, Nat.reduceSub, Nat.reduceMul, Nat.reduceEqDiff, Nat.reduceLT, Nat.reduceLeDiff, Int.reduceToNat, Int.reduceLE, Int.reduceLT, Int.reduceEq, Int.reduceNeg, reduceCtorEq]
      refine ⟨⟨p1, p2, p3, p4, p5, p7⟩, ?_⟩
      change spl (!decide (suR (fun i => c i 0) (fun i => d i 0) 4294967296 s n ≤ lim)) _ _
      simp only [e0, go_sem, ↓reduceIte, Nat.reduceAdd, Nat.reduceSub, Nat.reduceMul, Nat.reduceEqDiff, Nat.reduceLT, Nat.reduceLeDiff, Int.reduceToNat, Int.reduceLE, Int.reduceLT, Int.reduceEq, Int.reduceNeg, reduceCtorEq]
      refine loop_ofH { q : Int × Int // s ≤ q.1 ∧ q.1 ≤ RM ∧ RM ≤ q.2 ∧ q.2 ≤ 4294967296 } (fun q => [(12, .int .i64 q.1.2), (11, .int .i64 q.1.1), (3, .int .i64 lim), (2, .int .i64 s), (1, .row m 1 fun i j => .int .i64 (d i j)), (0, .row n 1 fun i j => .int .i64 (c i j))]) (fun h _ => h) (fun q => (q.1.2 - q.1.1).toNat) (fun _ => ⟨rfl, rfl⟩) ⟨(s, 4294967296), by omega, by omega, by omega, by omega⟩ (by (apply sub_of <;> simp only [go_sem, ↓reduceIte, Nat.reduceAdd, Nat.reduceSub, Nat.reduceMul, Nat.reduceEqDiff, Nat.reduceLT, Nat.reduceLeDiff, Int.reduceToNat, Int.reduceLE, Int.reduceLT, Int.reduceEq, Int.reduceNeg, reduceCtorEq] <;> (try simp [catF]) <;> (try exact fun j _ => Bd_nth (by simp [BdL, Bd]) j) <;> (try exact bd_setL (by simp [bdAs, BdL, Bd])) <;> (try exact nestF_bd _ _ _ _ _ _ _ _ _))) ?_
      rintro ⟨⟨a, b⟩, q0, q1, q2, q3⟩
      simp only [] at q0 q1 q2 q3
      simp only [in_eq, errors_eq, enough_eq, Try.f26, go_sem, ↓reduceIte, Nat.reduceAdd, Nat.reduceSub, Nat.reduceMul, Nat.reduceEqDiff, Nat.reduceLT, Nat.reduceLeDiff, Int.reduceToNat, Int.reduceLE, Int.reduceLT, Int.reduceEq, Int.reduceNeg, reduceCtorEq]
      refine ⟨fun d1 => ?_, fun d1 => ?_⟩
      · simp only [decide_eq_true_eq] at d1
        have w : IntKind.i64.wrap ((IntKind.i64.wrap (a + b)).tdiv 2) = (a + b) / 2 := by rw [wrap_id (x := a + b) (by omega) (by omega), Int.tdiv_eq_ediv_of_nonneg (by omega), wrap_id (by omega) (by omega)]
        simp only [w]
        generalize hm : (a + b) / 2 = x
        have hx : a ≤ x ∧ x < b := by omega
        have hxk := hen x (by omega) (by omega)
        have w2 : IntKind.i64.wrap (x + 1) = x + 1 := wrap_id (by omega) (by omega)
        refine ⟨by decide, ⟨p1, p2, p3, p4, p5, by omega, by omega⟩, fun d2 => ?_, fun d2 => ?_⟩
        · simp only [decide_eq_true_eq] at d2
          have := hxk.1 d2
          refine ⟨⟨(a, x), by simp only []; omega, by simp only []; omega, by simp only []; omega, by simp only []; omega⟩, by simp only []; omega, ?_⟩
          apply sub_of <;> simp only [go_sem, ↓reduceIte, Nat.reduceAdd, Nat.reduceSub, Nat.reduceMul, Nat.reduceEqDiff, Nat.reduceLT, Nat.reduceLeDiff, Int.reduceToNat, Int.reduceLE, Int.reduceLT, Int.reduceEq, Int.reduceNeg, reduceCtorEq] <;> (try simp) <;> (try exact fun j _ => Bd_nth (by simp [BdL, Bd]) j) <;> (try exact bd_setL (by simp [bdAs, BdL, Bd])) <;> (try exact nestF_bd _ _ _ _ _ _ _ _ _)
        · simp only [decide_eq_false_iff_not] at d2
          have : ¬ RM ≤ x := fun h => d2 (hxk.2 h)
          refine ⟨⟨(x + 1, b), by simp only []; omega, by simp only []; omega, by simp only []; omega, by simp only []; omega⟩, by simp only []; omega, ?_⟩
          apply sub_of <;> simp only [w2, go_sem, ↓reduceIte, Nat.reduceAdd, Nat.reduceSub, Nat.reduceMul, Nat.reduceEqDiff, Nat.reduceLT, Nat.reduceLeDiff, Int.reduceToNat, Int.reduceLE, Int.reduceLT, Int.reduceEq, Int.reduceNeg, reduceCtorEq] <;> (try simp) <;> (try exact fun j _ => Bd_nth (by simp [BdL, Bd]) j) <;> (try exact bd_setL (by simp [bdAs, BdL, Bd])) <;> (try exact nestF_bd _ _ _ _ _ _ _ _ _)
      · simp only [decide_eq_false_iff_not] at d1
        obtain rfl : a = RM := by omega
        rfl
    · have hq : ¬ RM ≤ 4294967296 := fun h => h0 ((hen 4294967296 p7 (Int.le_refl _)).2 h)
      have e0 : decide (suR (fun i => c i 0) (fun i => d i 0) 4294967296 s n ≤ lim) = false := decide_eq_false h0
      simp only [hd, hl, if_pos he, if_neg hq, e0, in_eq, errors_eq, enough_eq, Try.f26, go_sem, ↓reduceIte, Nat.reduceAdd, Nat.reduceSub, Nat.reduceMul, Nat.reduceEqDiff, Nat.reduceLT, Nat.reduceLeDiff, Int.reduceToNat, Int.reduceLE, Int.reduceLT, Int.reduceEq, Int.reduceNeg, reduceCtorEq]
      refine ⟨⟨p1, p2, p3, p4, p5, p7⟩, ?_⟩
      change spl (!decide (suR (fun i => c i 0) (fun i => d i 0) 4294967296 s n ≤ lim)) _ _
      simp only [e0, go_sem, ↓reduceIte, Nat.reduceAdd, Nat.reduceSub, Nat.reduceMul, Nat.reduceEqDiff, Nat.reduceLT, Nat.reduceLeDiff, Int.reduceToNat, Int.reduceLE, Int.reduceLT, Int.reduceEq, Int.reduceNeg, reduceCtorEq]
end Go.Eng
end

/- brine: what is bought with some room. -/
section
namespace Go.Eng
open Go Go.RowKit Go.Proofs
set_option maxRecDepth 100000
set_option maxHeartbeats 4000000
attribute [local irreducible] OwnT DefS
theorem er_same {n m : Nat} {c d : Nat → Int} {s r : Int} (h : erR n c m d s s = 0) (h1 : s ≤ r) (h2 : r ≤ 4294967296) : erR n c m d s r = 0 := by
  have e : erR n c m d s s = 0 := h
  unfold erR at h ⊢
  split at h
  · cases h
  · split at h
    · cases h
    · split at h
      · rename_i q1 q2 q3
        have q4 := er_ok e
        simp only [Bool.and_eq_true] at q3
        rw [if_neg q1, if_neg q2, if_pos]
        simp only [Bool.and_eq_true, in3_iff]
        exact ⟨q3.1, q3.2.1, ⟨by omega, by omega⟩, by omega, by omega⟩
      · cases h
theorem er_four (n m : Nat) (c d : Nat → Int) (s r : Int) : erR n c m d s r ≠ 4 := by
  unfold erR
  split
  · omega
  · split
    · omega
    · split <;> omega
/-- Room, said by what is bought. -/
theorem rm_fact {n : Nat} {c d : Nat → Int} {s lim : Int} (p5 : 0 ≤ s) (p7 : s ≤ 4294967296) : s ≤ rmM n c d s lim ∧ ∀ r, s ≤ r → r ≤ 4294967296 → (suR c d r s n ≤ lim ↔ rmM n c d s lim ≤ r) := by
  have hsp := fun x (hx : x < (4294967296 - s + 1).toNat) => lstN_iff (p := enM n c d s lim) (enM_mono) hx
  have hle := (lstN_spec (enM n c d s lim) (4294967296 - s + 1).toNat).1
  have hrm : rmM n c d s lim = s + (lstN (enM n c d s lim) (4294967296 - s + 1).toNat : Nat) := rfl
  have hN2 : s + (((4294967296 - s + 1).toNat : Nat) : Int) = 4294967297 := by omega
  generalize rmM n c d s lim = RM at *
  generalize lstN (enM n c d s lim) (4294967296 - s + 1).toNat = S at *
  generalize (4294967296 - s + 1).toNat = N at *
  refine ⟨by omega, fun r h1 h2 => ?_⟩
  have := hsp (r - s).toNat (by omega)
  rw [show enM n c d s lim (r - s).toNat = decide (suR c d r s n ≤ lim) by
    simp only [enM]; rw [show s + (((r - s).toNat : Nat) : Int) = r by omega]] at this
  rw [decide_eq_true_eq] at this
  omega
def buM (n : Nat) (c : Nat → Int) (m : Nat) (d : Nat → Int) (s r : Int) : Int := if erR n c m d s r = 0 then suR c d r s n else -1
def b3 (n : Nat) (c : Nat → Nat → Int) (m : Nat) (d : Nat → Nat → Int) (s : Int) : HS := ⟨[.live 42 [.row n 1 fun i j => .int .i64 (c i j)], .live 42 [.row m 1 fun i j => .int .i64 (d i j)], .live 3 [.int .i64 s]], []⟩
theorem buys_calls (n : Nat) (c : Nat → Nat → Int) (m : Nat) (d : Nat → Nat → Int) (s r : Int) :
    CallsS Try.prog 28 [.int .i64 r, .ptr 0 0, .ptr 1 0, .ptr 2 0] (b3 n c m d s) (fun o h' => o = .ret (.int .i64 (buM n (fun i => c i 0) m (fun i => d i 0) s r)) ∧ h' = b3 n c m d s) := by
  unfold b3
  refine calls_of_run (C := cx [] [] [(19, ReuseBase)] [] none) (cx_ok trivial ⟨Reuse_base, trivial⟩) rfl (g := 28) (fn := Try.f28) (fn_28) rfl 1000 ?_
  by_cases he : erR n (fun i => c i 0) m (fun i => d i 0) s r = 0
  rotate_left
  · have hd : decide (erR n (fun i => c i 0) m (fun i => d i 0) s r = 0) = false := decide_eq_false he
    simp only [hd, buM, if_neg he, Try.f28, Reuse_eq, go_sem, ↓reduceIte, Nat.reduceAdd, Nat.reduceSub, Nat.reduceMul, Nat.reduceEqDiff, Nat.reduceLT, Nat.reduceLeDiff, Int.reduceToNat, Int.reduceLE, Int.reduceLT, Int.reduceEq, Int.reduceNeg, reduceCtorEq]
  have hd : decide (erR n (fun i => c i 0) m (fun i => d i 0) s r = 0) = true := decide_eq_true he
  obtain ⟨p1, p2, p3, p4, p5, p6, p7⟩ := er_ok he
  subst p2
  simp only [hd, buM, if_pos he, Try.f28, Reuse_eq, go_sem, ↓reduceIte, Nat.reduceAdd, Nat.reduceSub, Nat.reduceMul, Nat.reduceEqDiff, Nat.reduceLT, Nat.reduceLeDiff, Int.reduceToNat, Int.reduceLE, Int.reduceLT, Int.reduceEq, Int.reduceNeg, reduceCtorEq]
  simp only [he, if_true]
  refine loop_ofH { i : Nat // i ≤ m } (fun i => [(27, .int .i64 (i.1 : Int)), (26, .int .i64 (m : Int)), (25, .row m 1 fun i _ => .int .i64 (boR (fun i => c i 0) (fun i => d i 0) r s i)), (10, .int .i64 (suR (fun i => c i 0) (fun i => d i 0) r s i.1))]) (fun h _ => h) (fun i => m - i.1) (fun _ => ⟨rfl, rfl⟩) ⟨0, by omega⟩ (by (apply sub_of <;> simp only [go_sem, ↓reduceIte, Nat.reduceAdd, Nat.reduceSub, Nat.reduceMul, Nat.reduceEqDiff, Nat.reduceLT, Nat.reduceLeDiff, Int.reduceToNat, Int.reduceLE, Int.reduceLT, Int.reduceEq, Int.reduceNeg, reduceCtorEq] <;> (try simp [catF]) <;> (try exact fun j _ => Bd_nth (by simp [BdL, Bd]) j) <;> (try exact bd_setL (by simp [bdAs, BdL, Bd])) <;> (try exact nestF_bd _ _ _ _ _ _ _ _ _)) <;> rfl) ?_
  rintro ⟨i, hi⟩
  simp only [Try.f28, go_sem, ↓reduceIte, Nat.reduceAdd, Nat.reduceSub, Nat.reduceMul, Nat.reduceEqDiff, Nat.reduceLT, Nat.reduceLeDiff, Int.reduceToNat, Int.reduceLE, Int.reduceLT, Int.reduceEq, Int.reduceNeg, reduceCtorEq]
  refine ⟨fun e1 => ?_, fun e1 => ?_⟩
  · simp only [decide_eq_true_eq] at e1
    have ik : i < m := by omega
    have h1 := boR_bd p3 p4 p5 p6 i ik
    have h2 := suR_bd p3 p4 p5 p6 i hi
    have w1 : IntKind.i64.wrap (suR (fun i => c i 0) (fun i => d i 0) r s i + boR (fun i => c i 0) (fun i => d i 0) r s i) = suR (fun i => c i 0) (fun i => d i 0) r s (i + 1) := by rw [wrap_id (by omega) (by omega)]; rfl
    refine ⟨⟨by omega, by omega⟩, ⟨i + 1, by omega⟩, by simp only []; omega, ?_⟩
    apply sub_of <;> simp only [wrap_s ik (by omega), Int.toNat_natCast, w1, go_sem, ↓reduceIte, Nat.reduceAdd, Nat.reduceSub, Nat.reduceMul, Nat.reduceEqDiff, Nat.reduceLT, Nat.reduceLeDiff, Int.reduceToNat, Int.reduceLE, Int.reduceLT, Int.reduceEq, Int.reduceNeg, reduceCtorEq] <;> (try simp) <;> (try exact fun j _ => Bd_nth (by simp [BdL, Bd]) j) <;> (try exact bd_setL (by simp [bdAs, BdL, Bd])) <;> (try exact nestF_bd _ _ _ _ _ _ _ _ _)
  · simp only [decide_eq_false_iff_not] at e1
    obtain rfl : i = m := by omega
    rfl
end Go.Eng
end

/- brine: numbers and examples. -/
section
namespace Go.Eng
open Go Go.RowKit Go.Proofs
set_option maxRecDepth 100000
set_option maxHeartbeats 4000000
attribute [local irreducible] OwnT DefS
theorem plS1_ok {n : Nat} {A : Nat → Nat → Int} {r : PlR} (h : r.e = 0) : plS1 n A r = .tup [.agg [.int .i64 r.s.t.1, .int .i64 r.s.t.2, .row n 2 (nestF 1 2 (fun i _ => A i 0) (fun i => (r.s.sl i).length) (fun i => slI (r.s.sl i))), .int .i64 r.R.he, .int .i64 r.R.hr],
    .agg [.int .i64 r.R.w, .int .i64 r.R.lv, .int .i64 r.R.lh, .int .i64 r.R.fv, .int .i64 r.R.fh, .int .i64 r.R.ch, .int .i64 r.R.ai, .int .i64 r.R.us, .int .i64 r.R.bo], .int .i64 (r.n : Int), .int .i64 0] := by
  simp only [plS1, plN, plF, h, if_true, piR]
attribute [local irreducible] lstN
def na1L : List (List Int) := [[20, 100], [30, 300], [10, 50], [30, 90]]
def na1V : Nat → Nat → Nat → Int
  | 0, 0, 0 => 20
  | 0, 0, 1 => 100
  | 0, 1, 0 => 30
  | 0, 1, 1 => 300
  | 1, 0, 0 => 10
  | 1, 0, 1 => 50
  | 1, 1, 0 => 30
  | 1, 1, 1 => 90
  | _, _, _ => 0
def na3V : Nat → Nat → Nat → Int
  | 0, 0, 0 => 20
  | 0, 0, 1 => 120
  | 0, 1, 0 => 30
  | 0, 1, 1 => 330
  | 1, 0, 0 => 25
  | 1, 0, 1 => 75
  | _, _, _ => 0
def na1 : PlR := plA 100 1000 2 saA saM saV 200 500 1 saX
def na3 : PlR := plA 100 1000 2 saA saM saV 200 500 3 saX
def na1M (i : Nat) : Nat := (na1.s.sl i).length
def na1W (i : Nat) : Nat → Nat → Int := slI (na1.s.sl i)
def na3M (i : Nat) : Nat := (na3.s.sl i).length
def na3W (i : Nat) : Nat → Nat → Int := slI (na3.s.sl i)
def naA (i _ : Nat) : Int := saA i 0
theorem na_A : (fun i (_ : Nat) => nsA (nestF 1 2 saA saM saV) i 0) = naA := by funext i _; exact nsA_lit _ (by omega)
theorem na_1 : plS1 2 (nsA (nestF 1 2 saA saM saV)) (plA 100 1000 2 saA saM saV 200 500 1 saX) = .tup [.agg [.int .i64 70, .int .i64 700, .row 2 2 (nestF 1 2 naA na1M na1W), .int .i64 200, .int .i64 500],
    .agg [.int .i64 0, .int .i64 0, .int .i64 0, .int .i64 0, .int .i64 0, .int .i64 0, .int .i64 0, .int .i64 0, .int .i64 0], .int .i64 1, .int .i64 0] := by
  show plS1 2 _ na1 = _
  rw [plS1_ok (by decide +kernel), na_A]
  have e1 : na1.s.t = (70, 700) := by decide +kernel
  have e2 : (na1.R.he, na1.R.hr, na1.R.w, na1.R.lv, na1.R.lh) = (200, 500, 0, 0, 0) := by decide +kernel
  have e3 : (na1.R.fv, na1.R.fh, na1.R.ch, na1.R.ai, na1.R.us, na1.R.bo) = (0, 0, 0, 0, 0, 0) := by decide +kernel
  have e4 : na1.n = 1 := by decide +kernel
  simp only [Prod.mk.injEq] at e2 e3
  rw [e1, e4, e2.1, e2.2.1, e2.2.2.1, e2.2.2.2.1, e2.2.2.2.2, e3.1, e3.2.1, e3.2.2.1, e3.2.2.2.1, e3.2.2.2.2.1, e3.2.2.2.2.2]
  rfl
theorem na_3 : plS1 2 (nsA (nestF 1 2 saA saM saV)) (plA 100 1000 2 saA saM saV 200 500 3 saX) = .tup [.agg [.int .i64 70, .int .i64 700, .row 2 2 (nestF 1 2 naA na3M na3W), .int .i64 200, .int .i64 500],
    .agg [.int .i64 50, .int .i64 15, .int .i64 65, .int .i64 0, .int .i64 0, .int .i64 0, .int .i64 0, .int .i64 0, .int .i64 0], .int .i64 3, .int .i64 0] := by
  show plS1 2 _ na3 = _
  rw [plS1_ok (by decide +kernel), na_A]
  have e1 : na3.s.t = (70, 700) := by decide +kernel
  have e2 : (na3.R.he, na3.R.hr, na3.R.w, na3.R.lv, na3.R.lh) = (200, 500, 50, 15, 65) := by decide +kernel
  have e3 : (na3.R.fv, na3.R.fh, na3.R.ch, na3.R.ai, na3.R.us, na3.R.bo) = (0, 0, 0, 0, 0, 0) := by decide +kernel
  have e4 : na3.n = 3 := by decide +kernel
  simp only [Prod.mk.injEq] at e2 e3
  rw [e1, e4, e2.1, e2.2.1, e2.2.2.1, e2.2.2.2.1, e2.2.2.2.2, e3.1, e3.2.1, e3.2.2.1, e3.2.2.2.1, e3.2.2.2.2.1, e3.2.2.2.2.2]
  rfl
theorem na_t1 : okBr 100 1000 2 saA saM saV 200 500 = true := by decide +kernel
theorem na_t2 : toV 100 saM saV 2 = 160 := by decide +kernel
theorem na_t3 : toH 1000 200 saM saV 2 = 1440 := by decide +kernel
theorem na_l1 : okBr 55 115 2 saA (fun _ => 2) laV 0 500 = true := by decide +kernel
theorem na_l2 : toV 55 (fun _ => 2) laV 2 = 145 := by decide +kernel
theorem na_l3 : toH 115 0 (fun _ => 2) laV 2 = 825 := by decide +kernel
theorem na_m : na3M 1 = 1 := by decide +kernel
theorem na_w0 : na3W 1 0 0 = 25 := by decide +kernel
theorem na_w1 : na3W 1 0 1 = 75 := by decide +kernel
theorem na_rc (i : Nat) (hi : i < 2) : saM i ≤ 1000 := by rcases two hi with rfl | rfl <;> decide
theorem four_use {A B C D G : Prop} (main : A → B → C → D → G) (a : A) (b : B) (c : C) (d : D) : G := main a b c d
theorem roM_val {n : Nat} {c d : Nat → Int} {s lim w : Int} (he : erR n c n d s s = 0) (hl : in3 lim 0 1099511627776 = true) (h1 : s ≤ w - 1) (h2 : w ≤ 4294967296) (h3 : suR c d w s n ≤ lim) (h4 : ¬ suR c d (w - 1) s n ≤ lim) : roM n c n d s lim = (0, w) := by
  obtain ⟨p1, p2, p3, p4, p5, p6, p7⟩ := er_ok he
  obtain ⟨r0, hen⟩ := rm_fact (n := n) (c := c) (d := d) (lim := lim) p5 p7
  have k1 := (hen w (by omega) h2).1 h3
  have k2 : ¬ rmM n c d s lim ≤ w - 1 := fun h => h4 ((hen (w - 1) h1 (by omega)).2 h)
  have k3 : rmM n c d s lim = w := by omega
  simp only [roM, if_pos he, hl, if_true, k3, if_pos h2]
theorem na_r0 : roM 4 (fun i => ivf (fun i j => nth [.int .i64 100, .int .i64 50, .int .i64 0, .int .i64 30] (i * 1 + j)) i 0) 4 (fun i => ivf (fun i j => nth [.int .i64 20, .int .i64 20, .int .i64 80, .int .i64 40] (i * 1 + j)) i 0) 10 0 = (0, 90) := roM_val (by decide +kernel) (by decide) (by decide) (by decide) (by decide +kernel) (by decide +kernel)
theorem na_r1 : roM 4 (fun i => ivf (fun i j => nth [.int .i64 100, .int .i64 50, .int .i64 0, .int .i64 30] (i * 1 + j)) i 0) 4 (fun i => ivf (fun i j => nth [.int .i64 20, .int .i64 20, .int .i64 80, .int .i64 40] (i * 1 + j)) i 0) 10 10 = (0, 80) := roM_val (by decide +kernel) (by decide) (by decide) (by decide) (by decide +kernel) (by decide +kernel)
theorem na_r2 : roM 4 (fun i => ivf (fun i j => nth [.int .i64 100, .int .i64 50, .int .i64 0, .int .i64 30] (i * 1 + j)) i 0) 4 (fun i => ivf (fun i j => nth [.int .i64 20, .int .i64 20, .int .i64 80, .int .i64 40] (i * 1 + j)) i 0) 10 30 = (0, 60) := roM_val (by decide +kernel) (by decide) (by decide) (by decide) (by decide +kernel) (by decide +kernel)
theorem na_i4 (a b c d : Int) : (IntR 4 1 fun i j => nth [.int .i64 a, .int .i64 b, .int .i64 c, .int .i64 d] (i * 1 + j)) := fun i j hi hj => by
  obtain rfl : j = 0 := by omega
  rcases four hi with rfl | rfl | rfl | rfl <;> rfl
def brineNamesBase : BaseF := fun args => match args with
  | [] => some (True, .bool true)
  | _ => none
theorem brineNames_eq  : brineNamesBase [] = some (True, .bool true) := rfl
theorem brineNames_base : Base Try.prog 11 brineNamesBase := by
  intro args p v hq hp
  unfold brineNamesBase at hq
  split at hq
  rotate_left
  · cases hq
  cases hq
  refine base_of (C := cxn [] [(29, sampleBase), (30, lastBase), (14, playBase)] [] [(13, aliveBase), (17, SameBase), (21, TotalBase), (25, RoomBase)] [(11, 2, p11_2), (11, 3, p11_3)] none) (cxn_ok ⟨sample_base, last_base, play_base, trivial⟩ trivial ⟨alive_base, Same_base, Total_base, Room_base, trivial⟩) rfl (g := 11) (fn := Try.f11)
    (args' := []) (fn_11) rfl 1000 (by simp only [BdL, Bd, and_self, and_true, true_and]) trivial ?_
  simp only [if_true, alive_eq, Same_eq, Total_eq, Room_eq, sample_eq, last_eq, play_eq, p11_2, p11_3, nestF_eq, nestR_lit, nsM_lit, nsV_lit, plA_ns, frz_l4, na_1, na_3, okBr_ns, na_t1, na_t2, na_t3, na_l1, na_l2, na_l3, Try.f11, go_sem, ↓reduceIte, Nat.reduceAdd, Nat.reduceSub, Nat.reduceMul, Nat.reduceEqDiff, Nat.reduceLT, Nat.reduceLeDiff, Int.reduceToNat, Int.reduceLE, Int.reduceLT, Int.reduceEq, Int.reduceNeg, reduceCtorEq]
  apply four_use
  · intro h1 h2 h3 h4
    repeat' refine And.intro ?_ ?_
    all_goals first | exact na_rc | (show planOk _ _ = true; kernel_rfl) | (show keepOk _ _ = true; kernel_rfl) | decide | (exact loop_ofH { i : Nat // i ≤ 3 } (fun i => [(56, .int .i64 (i.1 : Int)), (55, .int .i64 3), (54, .vec 3 0), (15, .bool true), (13, .ptr 6 0), (11, .ptr 5 0), (7, .ptr 3 0), (3, .ptr 1 0)]) (fun h _ => h) (fun i => 3 - i.1) (fun _ => ⟨rfl, rfl⟩) ⟨0, Nat.zero_le 3⟩ (by (apply sub_of <;> simp only [go_sem, ↓reduceIte, Nat.reduceAdd, Nat.reduceSub, Nat.reduceMul, Nat.reduceEqDiff, Nat.reduceLT, Nat.reduceLeDiff, Int.reduceToNat, Int.reduceLE, Int.reduceLT, Int.reduceEq, Int.reduceNeg, reduceCtorEq] <;> (try simp [catF]) <;> (try exact fun j _ => Bd_nth (by simp [BdL, Bd]) j) <;> (try exact bd_setL (by simp [bdAs, BdL, Bd])) <;> (try exact nestF_bd _ _ _ _ _ _ _ _ _)) <;> exact ⟨nestF_bd _ _ _ _ _ _ _ _ _, nestF_bd _ _ _ _ _ _ _ _ _, nestF_bd _ _ _ _ _ _ _ _ _⟩) h1) | (exact loop_ofH { i : Nat // i ≤ 3 } (fun i => [(56, .int .i64 (i.1 : Int)), (55, .int .i64 3), (54, .vec 3 0), (15, .bool true), (13, .ptr 6 0), (11, .ptr 5 0), (7, .ptr 4 0), (3, .ptr 1 0)]) (fun h _ => h) (fun i => 3 - i.1) (fun _ => ⟨rfl, rfl⟩) ⟨0, Nat.zero_le 3⟩ (by (apply sub_of <;> simp only [go_sem, ↓reduceIte, Nat.reduceAdd, Nat.reduceSub, Nat.reduceMul, Nat.reduceEqDiff, Nat.reduceLT, Nat.reduceLeDiff, Int.reduceToNat, Int.reduceLE, Int.reduceLT, Int.reduceEq, Int.reduceNeg, reduceCtorEq] <;> (try simp [catF]) <;> (try exact fun j _ => Bd_nth (by simp [BdL, Bd]) j) <;> (try exact bd_setL (by simp [bdAs, BdL, Bd])) <;> (try exact nestF_bd _ _ _ _ _ _ _ _ _)) <;> exact ⟨nestF_bd _ _ _ _ _ _ _ _ _, nestF_bd _ _ _ _ _ _ _ _ _, nestF_bd _ _ _ _ _ _ _ _ _⟩) h2) | (exact loop_ofH { i : Nat // i ≤ 3 } (fun i => [(56, .int .i64 (i.1 : Int)), (55, .int .i64 3), (54, .vec 3 0), (15, .bool true), (13, .ptr 6 0), (11, .ptr 5 0), (7, .ptr 3 0), (3, .ptr 2 0)]) (fun h _ => h) (fun i => 3 - i.1) (fun _ => ⟨rfl, rfl⟩) ⟨0, Nat.zero_le 3⟩ (by (apply sub_of <;> simp only [go_sem, ↓reduceIte, Nat.reduceAdd, Nat.reduceSub, Nat.reduceMul, Nat.reduceEqDiff, Nat.reduceLT, Nat.reduceLeDiff, Int.reduceToNat, Int.reduceLE, Int.reduceLT, Int.reduceEq, Int.reduceNeg, reduceCtorEq] <;> (try simp [catF]) <;> (try exact fun j _ => Bd_nth (by simp [BdL, Bd]) j) <;> (try exact bd_setL (by simp [bdAs, BdL, Bd])) <;> (try exact nestF_bd _ _ _ _ _ _ _ _ _)) <;> exact ⟨nestF_bd _ _ _ _ _ _ _ _ _, nestF_bd _ _ _ _ _ _ _ _ _, nestF_bd _ _ _ _ _ _ _ _ _⟩) h3) | (exact loop_ofH { i : Nat // i ≤ 3 } (fun i => [(56, .int .i64 (i.1 : Int)), (55, .int .i64 3), (54, .vec 3 0), (15, .bool true), (13, .ptr 6 0), (11, .ptr 5 0), (7, .ptr 4 0), (3, .ptr 2 0)]) (fun h _ => h) (fun i => 3 - i.1) (fun _ => ⟨rfl, rfl⟩) ⟨0, Nat.zero_le 3⟩ (by (apply sub_of <;> simp only [go_sem, ↓reduceIte, Nat.reduceAdd, Nat.reduceSub, Nat.reduceMul, Nat.reduceEqDiff, Nat.reduceLT, Nat.reduceLeDiff, Int.reduceToNat, Int.reduceLE, Int.reduceLT, Int.reduceEq, Int.reduceNeg, reduceCtorEq] <;> (try simp [catF]) <;> (try exact fun j _ => Bd_nth (by simp [BdL, Bd]) j) <;> (try exact bd_setL (by simp [bdAs, BdL, Bd])) <;> (try exact nestF_bd _ _ _ _ _ _ _ _ _)) <;> exact ⟨nestF_bd _ _ _ _ _ _ _ _ _, nestF_bd _ _ _ _ _ _ _ _ _, nestF_bd _ _ _ _ _ _ _ _ _⟩) h4)
  all_goals
    rintro ⟨i, hi⟩
    have hi' : i = 0 ∨ i = 1 ∨ i = 2 ∨ i = 3 := by omega
    rcases hi' with rfl | rfl | rfl | rfl
    · simp only [na_r0, if_true, alive_eq, Same_eq, Total_eq, Room_eq, sample_eq, last_eq, play_eq, p11_2, p11_3, nestF_eq, nestR_lit, nsM_lit, nsV_lit, plA_ns, frz_l4, na_1, na_3, okBr_ns, na_t1, na_t2, na_t3, na_l1, na_l2, na_l3, Try.f11, go_sem, ↓reduceIte, Nat.reduceAdd, Nat.reduceSub, Nat.reduceMul, Nat.reduceEqDiff, Nat.reduceLT, Nat.reduceLeDiff, Int.reduceToNat, Int.reduceLE, Int.reduceLT, Int.reduceEq, Int.reduceNeg, reduceCtorEq]
      refine spl_t (by decide) ⟨⟨by decide, by decide⟩, ⟨by decide, by decide⟩, ⟨na_i4 _ _ _ _, na_i4 _ _ _ _⟩, ⟨1, by decide⟩, by decide, ?_⟩
      apply sub_of <;> simp only [go_sem, ↓reduceIte, Nat.reduceAdd, Nat.reduceSub, Nat.reduceMul, Nat.reduceEqDiff, Nat.reduceLT, Nat.reduceLeDiff, Int.reduceToNat, Int.reduceLE, Int.reduceLT, Int.reduceEq, Int.reduceNeg, reduceCtorEq] <;> (try simp) <;> (try exact fun j _ => Bd_nth (by simp [BdL, Bd]) j) <;> (try exact bd_setL (by simp [bdAs, BdL, Bd])) <;> (try exact nestF_bd _ _ _ _ _ _ _ _ _) <;> first | rfl | exact ⟨nestF_bd _ _ _ _ _ _ _ _ _, nestF_bd _ _ _ _ _ _ _ _ _, nestF_bd _ _ _ _ _ _ _ _ _⟩
    · simp only [na_r1, if_true, alive_eq, Same_eq, Total_eq, Room_eq, sample_eq, last_eq, play_eq, p11_2, p11_3, nestF_eq, nestR_lit, nsM_lit, nsV_lit, plA_ns, frz_l4, na_1, na_3, okBr_ns, na_t1, na_t2, na_t3, na_l1, na_l2, na_l3, Try.f11, go_sem, ↓reduceIte, Nat.reduceAdd, Nat.reduceSub, Nat.reduceMul, Nat.reduceEqDiff, Nat.reduceLT, Nat.reduceLeDiff, Int.reduceToNat, Int.reduceLE, Int.reduceLT, Int.reduceEq, Int.reduceNeg, reduceCtorEq]
      refine spl_t (by decide) ⟨⟨by decide, by decide⟩, ⟨by decide, by decide⟩, ⟨na_i4 _ _ _ _, na_i4 _ _ _ _⟩, ⟨2, by decide⟩, by decide, ?_⟩
      apply sub_of <;> simp only [go_sem, ↓reduceIte, Nat.reduceAdd, Nat.reduceSub, Nat.reduceMul, Nat.reduceEqDiff, Nat.reduceLT, Nat.reduceLeDiff, Int.reduceToNat, Int.reduceLE, Int.reduceLT, Int.reduceEq, Int.reduceNeg, reduceCtorEq] <;> (try simp) <;> (try exact fun j _ => Bd_nth (by simp [BdL, Bd]) j) <;> (try exact bd_setL (by simp [bdAs, BdL, Bd])) <;> (try exact nestF_bd _ _ _ _ _ _ _ _ _) <;> first | rfl | exact ⟨nestF_bd _ _ _ _ _ _ _ _ _, nestF_bd _ _ _ _ _ _ _ _ _, nestF_bd _ _ _ _ _ _ _ _ _⟩
    · simp only [na_r2, if_true, alive_eq, Same_eq, Total_eq, Room_eq, sample_eq, last_eq, play_eq, p11_2, p11_3, nestF_eq, nestR_lit, nsM_lit, nsV_lit, plA_ns, frz_l4, na_1, na_3, okBr_ns, na_t1, na_t2, na_t3, na_l1, na_l2, na_l3, Try.f11, go_sem, ↓reduceIte, Nat.reduceAdd, Nat.reduceSub, Nat.reduceMul, Nat.reduceEqDiff, Nat.reduceLT, Nat.reduceLeDiff, Int.reduceToNat, Int.reduceLE, Int.reduceLT, Int.reduceEq, Int.reduceNeg, reduceCtorEq]
      refine spl_t (by decide) ⟨⟨by decide, by decide⟩, ⟨by decide, by decide⟩, ⟨na_i4 _ _ _ _, na_i4 _ _ _ _⟩, ⟨3, by decide⟩, by decide, ?_⟩
      apply sub_of <;> simp only [go_sem, ↓reduceIte, Nat.reduceAdd, Nat.reduceSub, Nat.reduceMul, Nat.reduceEqDiff, Nat.reduceLT, Nat.reduceLeDiff, Int.reduceToNat, Int.reduceLE, Int.reduceLT, Int.reduceEq, Int.reduceNeg, reduceCtorEq] <;> (try simp) <;> (try exact fun j _ => Bd_nth (by simp [BdL, Bd]) j) <;> (try exact bd_setL (by simp [bdAs, BdL, Bd])) <;> (try exact nestF_bd _ _ _ _ _ _ _ _ _) <;> first | rfl | exact ⟨nestF_bd _ _ _ _ _ _ _ _ _, nestF_bd _ _ _ _ _ _ _ _ _, nestF_bd _ _ _ _ _ _ _ _ _⟩
    · simp only [na_m, na_w0, na_w1, nestF11_1, if_true, show decide (((3 : Nat) : Int) < 3) = false from rfl, alive_eq, Same_eq, Total_eq, Room_eq, sample_eq, last_eq, play_eq, p11_2, p11_3, nestF_eq, nestR_lit, nsM_lit, nsV_lit, plA_ns, frz_l4, na_1, na_3, okBr_ns, na_t1, na_t2, na_t3, na_l1, na_l2, na_l3, Try.f11, go_sem, ↓reduceIte, Nat.reduceAdd, Nat.reduceSub, Nat.reduceMul, Nat.reduceEqDiff, Nat.reduceLT, Nat.reduceLeDiff, Int.reduceToNat, Int.reduceLE, Int.reduceLT, Int.reduceEq, Int.reduceNeg, reduceCtorEq]
      refine ⟨⟨nestRb_ok (by kernel_rfl), fun i hi => by rcases two hi with rfl | rfl <;> decide +kernel⟩, spl_t (by kernel_rfl) ⟨by decide, spl_t (by kernel_rfl) ⟨by decide, by decide, spl_t (by kernel_rfl) ?_⟩⟩⟩
      first | rfl | trivial | (congr 1) | trace_state
end Go.Eng
end

/-
  BrineNames: for every input the law returns true, and each argument reads afterwards as it read before. No condition.
-/
section
namespace Go.Proofs.Ytakbfbcfddcncaa.brineNames
open Go.ChangeShapes Go.WideShapes Go.ChangeAt Go.RowKit Go.Eng
set_option linter.unusedVariables false
theorem own : ownKnob Try.prog.godebug = none := by kernel_rfl
theorem laid : laidOutB Try.prog = true := by kernel_rfl
set_option maxRecDepth 100000 in
theorem lifted (os : Os) (started : os.Started) (H : Type) (enc : TypeId × Value → H) :
    ReturnsInHanded {} Try.checked os 11 .any (Rows.brineNamesSpec.pre6 enc Try.prog Try.f11 Rows.brineNamesRow.domain false) (Rows.brineNamesSpec.post enc Try.prog Try.f11 false true false false) := by
  refine returnsInHanded_of_change (C := Try.checked) own started (by kernel_rfl) Try.func11
    (ChangeSpec.witness6 (enc := enc) (C := Try.checked) false ⟨#[], #[], []⟩ 8 (by kernel_rfl) (by kernel_rfl) (by kernel_rfl) (by kernel_rfl)) ?_
  intro W base args ds gs before hval0 hW hcnd _
  have hval : ∀ (j : Nat) t v, Try.f11.params[j]? = some t → args[j]? = some v → Value.okWide Try.prog W .any base t v := hval0
  have hW' := hW
  obtain ⟨p, q, hA0, hV, rfl, hfz, hnd⟩ := hW
  have hA : DataW.TrodAll enc Try.prog W 0 (fun _ => true) true Try.f11.params.toList args.toList ds p := hA0
  rw [Try.params11] at hA hval
  obtain ⟨rfl, rfl, rfl⟩ := trodAll_none hA
  obtain ⟨rfl, rfl⟩ := trodVars_none hV
  have hd : DenL Env.emp W [] [] := trivial
  refine (law_calls brineNames_base (args := []) rfl trivial (denA_of hd)).mono fun e W' ⟨he, hb⟩ => ?_
  subst he
  exact ⟨_, rfl, law_end laid rfl Try.underlying4 (by kernel_rfl) rfl hW' rfl hb⟩
theorem over : Rows.brineNamesRow.holds Try.pinned (OpenSpec.ofChange Rows.brineNamesSpec) :=
  OpenClaim.holds_of_wide 11 Try.f11 rfl rfl rfl rfl rfl rfl rfl ⟨rfl, rfl, rfl, rfl, rfl⟩ rfl rfl rfl rfl rfl (by kernel_rfl) Try.func11 (by kernel_rfl)
    (of_decide_eq_true (by kernel_rfl)) (by unfold Func.isWrapper; first | (rw [if_pos (by decide +kernel)]; kernel_rfl) | (rw [if_neg (by decide +kernel)]; exact ⟨rfl, rfl⟩))
    (fun os started H enc _ => lifted os started H enc)
end Go.Proofs.Ytakbfbcfddcncaa.brineNames
namespace Go.Proofs.Ytakbfbcfddcncaa
/-- The given statement. -/
theorem brineNames_holds : Rows.BrineNamesSaid := brineNames.over
#print axioms brineNames_holds
end Go.Proofs.Ytakbfbcfddcncaa
end
