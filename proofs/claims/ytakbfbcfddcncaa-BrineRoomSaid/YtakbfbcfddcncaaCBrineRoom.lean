/-
  BrineRoom: for every input the law returns true, and each argument reads afterwards as it read before. No condition.
-/
import Derived.Test.YtakbfbcfddcncaaRows
import Derived.WalkKit
import Derived.Test.YtakbfbcfddcncaaK2
set_option linter.unusedSimpArgs false
set_option linter.unusedVariables false
/- brine: enough. -/
section
namespace Go.Eng
open Go Go.RowKit Go.Proofs
set_option maxRecDepth 100000
set_option maxHeartbeats 4000000
attribute [local irreducible] OwnT DefS
def enoughBase : BaseF := fun args => match args with
  | [.row n sz_c f_c, .row m sz_d f_d, .int .i64 s, .int .i64 r, .int .i64 lim] => some ((sz_c = 1 ∧ IntR n 1 f_c) ∧ (sz_d = 1 ∧ IntR m 1 f_d) ∧ (n ≤ 200 ∧ m = n ∧ (∀ i, i < n → big32 ((ivf f_c) i 0)) ∧ (∀ i, i < n → big32 ((ivf f_d) i 0)) ∧ 0 ≤ s ∧ s ≤ r ∧ r ≤ 4294967296), .bool (decide (suR (fun i => (ivf f_c) i 0) (fun i => (ivf f_d) i 0) r s n ≤ lim)))
  | _ => none
theorem enough_eq (n : Nat) (sz_c : Nat) (f_c : Nat → Nat → SV) (m : Nat) (sz_d : Nat) (f_d : Nat → Nat → SV) (s : Int) (r : Int) (lim : Int) : enoughBase [.row n sz_c f_c, .row m sz_d f_d, .int .i64 s, .int .i64 r, .int .i64 lim] = some ((sz_c = 1 ∧ IntR n 1 f_c) ∧ (sz_d = 1 ∧ IntR m 1 f_d) ∧ (n ≤ 200 ∧ m = n ∧ (∀ i, i < n → big32 ((ivf f_c) i 0)) ∧ (∀ i, i < n → big32 ((ivf f_d) i 0)) ∧ 0 ≤ s ∧ s ≤ r ∧ r ≤ 4294967296), .bool (decide (suR (fun i => (ivf f_c) i 0) (fun i => (ivf f_d) i 0) r s n ≤ lim))) := rfl
theorem enough_base : Base Try.prog 48 enoughBase := by
  intro args p v hq hp
  unfold enoughBase at hq
  split at hq
  rotate_left
  · cases hq
  rename_i n sz_c f_c m sz_d f_d s r lim
  cases hq
  obtain ⟨⟨rfl, i_c⟩, ⟨rfl, i_d⟩, pre⟩ := hp
  refine base_of (C := cx [] [(45, 3, reuseRBase)] [] [] none) (cx_ok ⟨reuseR_base, trivial⟩ trivial) rfl (g := 48) (fn := Try.f48)
    (args' := [.row n 1 (rowF .i64 (ivf f_c)), .row m 1 (rowF .i64 (ivf f_d)), .int .i64 s, .int .i64 r, .int .i64 lim]) (fn_48) rfl 1000 (by
    simp only [BdL, Bd, and_self, and_true, true_and]
    exact ⟨(fun i j hi hj => by rw [i_c i j hi hj]; trivial), (fun i j hi hj => by rw [i_d i j hi hj]; trivial)⟩) ⟨SameD.int i_c, SameD.int i_d, SameD.rfl' _, SameD.rfl' _, SameD.rfl' _, trivial⟩ ?_
  generalize ivf f_c = c at *
  generalize ivf f_d = d at *
  simp only [rowF_eq]
  simp only [reuseR_eq, Try.f48, go_sem, ↓reduceIte, Nat.reduceAdd, Nat.reduceSub, Nat.reduceMul, Nat.reduceEqDiff, Nat.reduceLT, Nat.reduceLeDiff, Int.reduceToNat, Int.reduceLE, Int.reduceLT, Int.reduceEq, Int.reduceNeg, reduceCtorEq]
  obtain ⟨p1, p2, p3, p4, p5, p6, p7⟩ := pre
  refine ⟨⟨p1, p2, p3, p4, p5, p6, p7⟩, ?_⟩
  refine loop_ofH { i : Nat // i ≤ n } (fun i => [(15, .int .i64 (i.1 : Int)), (14, .int .i64 (suR (fun i => c i 0) (fun i => d i 0) r s i.1)), (11, .vec 0 0), (4, .int .i64 lim)]) (fun _ _ => { blks := [], vecs := [.live 0 3 1 n (fun i _ => .int .i64 (boR (fun i => c i 0) (fun i => d i 0) r s i))] }) (fun i => n - i.1) (fun _ => ⟨rfl, rfl⟩) ⟨0, by omega⟩ (by (apply sub_of <;> simp only [go_sem, ↓reduceIte, Nat.reduceAdd, Nat.reduceSub, Nat.reduceMul, Nat.reduceEqDiff, Nat.reduceLT, Nat.reduceLeDiff, Int.reduceToNat, Int.reduceLE, Int.reduceLT, Int.reduceEq, Int.reduceNeg, reduceCtorEq] <;> (try simp [catF]) <;> (try exact fun j _ => Bd_nth (by simp [BdL, Bd]) j) <;> (try exact bd_setL (by simp [bdAs, BdL, Bd])) <;> (try exact nestF_bd _ _ _ _ _ _ _ _ _)) <;> rfl) ?_
  rintro ⟨i, hi⟩
  simp only [reuseR_eq, Try.f48, go_sem, ↓reduceIte, Nat.reduceAdd, Nat.reduceSub, Nat.reduceMul, Nat.reduceEqDiff, Nat.reduceLT, Nat.reduceLeDiff, Int.reduceToNat, Int.reduceLE, Int.reduceLT, Int.reduceEq, Int.reduceNeg, reduceCtorEq]
  refine ⟨fun e1 => ?_, fun e1 => ?_⟩
  · simp only [decide_eq_true_eq] at e1
    have ik : i < n := by omega
    have h1 := boR_bd p3 p4 p5 p6 i ik
    have h2 := suR_bd p3 p4 p5 p6 i hi
    have w1 : IntKind.i64.wrap (suR (fun i => c i 0) (fun i => d i 0) r s i + boR (fun i => c i 0) (fun i => d i 0) r s i) = suR (fun i => c i 0) (fun i => d i 0) r s (i + 1) := by rw [wrap_id (by omega) (by omega)]; rfl
    refine ⟨⟨by omega, by omega⟩, ik, ⟨i + 1, by omega⟩, by simp only []; omega, ?_⟩
    apply sub_of <;> simp only [wrap_s ik (by omega), Int.toNat_natCast, w1, go_sem, ↓reduceIte, Nat.reduceAdd, Nat.reduceSub, Nat.reduceMul, Nat.reduceEqDiff, Nat.reduceLT, Nat.reduceLeDiff, Int.reduceToNat, Int.reduceLE, Int.reduceLT, Int.reduceEq, Int.reduceNeg, reduceCtorEq] <;> (try simp) <;> (try exact fun j _ => Bd_nth (by simp [BdL, Bd]) j) <;> (try exact bd_setL (by simp [bdAs, BdL, Bd])) <;> (try exact nestF_bd _ _ _ _ _ _ _ _ _)
  · simp only [decide_eq_false_iff_not] at e1
    obtain rfl : i = n := by omega
    rfl
end Go.Eng
end

/- brine: Room. -/
section
namespace Go.Eng
open Go Go.RowKit Go.Proofs
set_option maxRecDepth 100000
set_option maxHeartbeats 4000000
attribute [local irreducible] OwnT DefS
/-- The least of the first N that a rule holds for, or N. -/
def lstN (p : Nat → Bool) : Nat → Nat
  | 0 => 0
  | n + 1 => if lstN p n < n then lstN p n else if p n then n else n + 1
theorem lstN_spec (p : Nat → Bool) : ∀ n, lstN p n ≤ n ∧ (∀ x, x < lstN p n → p x = false) ∧ (lstN p n < n → p (lstN p n) = true)
  | 0 => ⟨Nat.le_refl 0, fun x hx => by simp [lstN] at hx, fun h => by simp [lstN] at h⟩
  | n + 1 => by
    obtain ⟨h1, h2, h3⟩ := lstN_spec p n
    simp only [lstN]
    split
    · rename_i h
      exact ⟨by omega, h2, fun _ => h3 h⟩
    · have e : lstN p n = n := by omega
      rw [e] at h2
      split
      · rename_i hp
        exact ⟨by omega, h2, fun _ => hp⟩
      · rename_i hp
        refine ⟨by omega, fun x hx => ?_, fun h => by omega⟩
        rcases Nat.lt_or_ge x n with g | g
        · exact h2 x g
        · obtain rfl : x = n := by omega
          simpa using hp
theorem lstN_iff {p : Nat → Bool} {n : Nat} (hm : ∀ x y, x ≤ y → p x = true → p y = true) {x : Nat} (hx : x < n) : p x = true ↔ lstN p n ≤ x := by
  obtain ⟨h1, h2, h3⟩ := lstN_spec p n
  refine ⟨fun h => ?_, fun h => hm _ _ h (h3 (by omega))⟩
  rcases Nat.lt_or_ge x (lstN p n) with g | g
  · rw [h2 x g] at h; cases h
  · exact g
/-- Whether some room is enough. -/
def enM (n : Nat) (c d : Nat → Int) (s lim : Int) (k : Nat) : Bool := decide (suR c d (s + (k : Int)) s n ≤ lim)
theorem enM_mono {n : Nat} {c d : Nat → Int} {s lim : Int} (x y : Nat) (h : x ≤ y) (hx : enM n c d s lim x = true) : enM n c d s lim y = true := by
  simp only [enM, decide_eq_true_eq] at hx ⊢
  have := suR_mono (c := c) (d := d) (s := s) (r := s + (x : Int)) (r' := s + (y : Int)) (by omega) n
  omega
/-- How much room is enough. -/
def rmM (n : Nat) (c d : Nat → Int) (s lim : Int) : Int := s + (lstN (enM n c d s lim) (4294967296 - s + 1).toNat : Nat)
/-- Room: error, and how much. -/
def roM (n : Nat) (c : Nat → Int) (m : Nat) (d : Nat → Int) (s lim : Int) : Int × Int :=
  if erR n c m d s s = 0 then if in3 lim 0 1099511627776 then if rmM n c d s lim ≤ 4294967296 then (0, rmM n c d s lim) else (4, 0) else (2, 0) else (erR n c m d s s, 0)
theorem wrapu_id {x : Int} (h1 : 0 ≤ x) (h2 : x ≤ 18446744073709551615) : IntKind.u64.wrap x = x := by
  simp [IntKind.wrap, IntKind.signed, IntKind.bits]
  omega
theorem mid_eq {i j : Nat} (h : i + j ≤ 1000000000000) : IntKind.i64.wrap ((IntKind.u64.wrap (IntKind.i64.wrap ((i : Int) + (j : Int)))).fdiv (2 ^ min 1 64)) = (((i + j) / 2 : Nat) : Int) := by
  rw [wrap_id (x := (i : Int) + j) (by omega) (by omega), wrapu_id (by omega) (by omega)]
  have e : (2 : Int) ^ min 1 64 = 2 := by decide
  rw [e, Int.fdiv_eq_ediv_of_nonneg _ (by omega), wrap_id (by omega) (by omega)]
  omega
attribute [local irreducible] lstN
def RoomBase : BaseF := fun args => match args with
  | [.row n sz_c f_c, .row m sz_d f_d, .int .i64 s, .int .i64 lim] => some ((sz_c = 1 ∧ IntR n 1 f_c) ∧ (sz_d = 1 ∧ IntR m 1 f_d), .tup [.int .i64 (roM n (fun i => (ivf f_c) i 0) m (fun i => (ivf f_d) i 0) s lim).2, .int .i64 (roM n (fun i => (ivf f_c) i 0) m (fun i => (ivf f_d) i 0) s lim).1])
  | _ => none
theorem Room_eq (n : Nat) (sz_c : Nat) (f_c : Nat → Nat → SV) (m : Nat) (sz_d : Nat) (f_d : Nat → Nat → SV) (s : Int) (lim : Int) : RoomBase [.row n sz_c f_c, .row m sz_d f_d, .int .i64 s, .int .i64 lim] = some ((sz_c = 1 ∧ IntR n 1 f_c) ∧ (sz_d = 1 ∧ IntR m 1 f_d), .tup [.int .i64 (roM n (fun i => (ivf f_c) i 0) m (fun i => (ivf f_d) i 0) s lim).2, .int .i64 (roM n (fun i => (ivf f_c) i 0) m (fun i => (ivf f_d) i 0) s lim).1]) := rfl
theorem Room_base : Base Try.prog 25 RoomBase := by
  intro args p v hq hp
  unfold RoomBase at hq
  split at hq
  rotate_left
  · cases hq
  rename_i n sz_c f_c m sz_d f_d s lim
  cases hq
  obtain ⟨⟨rfl, i_c⟩, ⟨rfl, i_d⟩⟩ := hp
  refine base_of (C := cx [] [(39, 3, reuseBase)] [(36, withinBase), (38, errorOfBase)] [(25, 6, p25_6)] none) (cx_ok ⟨reuse_base, trivial⟩ ⟨within_base, errorOf_base, trivial⟩) rfl (g := 25) (fn := Try.f25)
    (args' := [.row n 1 (rowF .i64 (ivf f_c)), .row m 1 (rowF .i64 (ivf f_d)), .int .i64 s, .int .i64 lim]) (fn_25) rfl 1000 (by
    simp only [BdL, Bd, and_self, and_true, true_and]
    exact ⟨(fun i j hi hj => by rw [i_c i j hi hj]; trivial), (fun i j hi hj => by rw [i_d i j hi hj]; trivial)⟩) ⟨SameD.int i_c, SameD.int i_d, SameD.rfl' _, SameD.rfl' _, trivial⟩ ?_
  generalize ivf f_c = c
  generalize ivf f_d = d
  simp only [rowF_eq]
  unfold roM
  by_cases he : erR n (fun i => c i 0) m (fun i => d i 0) s s = 0
  rotate_left
  · have hd : decide (erR n (fun i => c i 0) m (fun i => d i 0) s s = 0) = false := decide_eq_false he
    simp only [hd, if_neg he, within_eq, errorOf_eq, reuse_eq, p25_6, Try.f46, Try.f47, Try.f25, go_sem, ↓reduceIte, Nat.reduceAdd, Nat.reduceSub, Nat.reduceMul, Nat.reduceEqDiff, Nat.reduceLT, Nat.reduceLeDiff, Int.reduceToNat, Int.reduceLE, Int.reduceLT, Int.reduceEq, Int.reduceNeg, reduceCtorEq]
  have hd : decide (erR n (fun i => c i 0) m (fun i => d i 0) s s = 0) = true := decide_eq_true he
  cases hl : in3 lim 0 1099511627776 with
  | false =>
    simp only [hd, hl, if_pos he, within_eq, errorOf_eq, reuse_eq, p25_6, Try.f46, Try.f47, Try.f25, go_sem, ↓reduceIte, Nat.reduceAdd, Nat.reduceSub, Nat.reduceMul, Nat.reduceEqDiff, Nat.reduceLT, Nat.reduceLeDiff, Int.reduceToNat, Int.reduceLE, Int.reduceLT, Int.reduceEq, Int.reduceNeg, reduceCtorEq]
    done
  | true =>
    obtain ⟨p1, p2, p3, p4, p5, p6, p7⟩ := er_ok he
    obtain ⟨l1, l2⟩ := in3_iff.1 hl
    have w0 : IntKind.i64.wrap (IntKind.i64.wrap (4294967296 - s) + 1) = (((4294967296 - s + 1).toNat : Nat) : Int) := by rw [wrap_id (x := 4294967296 - s) (by omega) (by omega), wrap_id (by omega) (by omega)]; omega
    have hN : (4294967296 - s + 1).toNat ≤ 4294967297 := by omega
    have hN2 : s + (((4294967296 - s + 1).toNat : Nat) : Int) = 4294967297 := by omega
    simp only [hd, hl, if_pos he, w0, within_eq, errorOf_eq, reuse_eq, p25_6, Try.f46, Try.f47, Try.f25, go_sem, ↓reduceIte, Nat.reduceAdd, Nat.reduceSub, Nat.reduceMul, Nat.reduceEqDiff, Nat.reduceLT, Nat.reduceLeDiff, Int.reduceToNat, Int.reduceLE, Int.reduceLT, Int.reduceEq, Int.reduceNeg, reduceCtorEq]
    refine ⟨⟨by kernel_rfl, by kernel_rfl⟩, ?_⟩
    have hsp := fun x (hx : x < (4294967296 - s + 1).toNat) => lstN_iff (p := enM n (fun i => c i 0) (fun i => d i 0) s lim) (enM_mono) hx
    have hle := (lstN_spec (enM n (fun i => c i 0) (fun i => d i 0) s lim) (4294967296 - s + 1).toNat).1
    have hrm : rmM n (fun i => c i 0) (fun i => d i 0) s lim = s + (lstN (enM n (fun i => c i 0) (fun i => d i 0) s lim) (4294967296 - s + 1).toNat : Nat) := rfl
    generalize rmM n (fun i => c i 0) (fun i => d i 0) s lim = RM at *
    generalize lstN (enM n (fun i => c i 0) (fun i => d i 0) s lim) (4294967296 - s + 1).toNat = S at *
    generalize (4294967296 - s + 1).toNat = N at *
    refine loop_ofH { q : Nat × Nat // q.1 ≤ S ∧ S ≤ q.2 ∧ q.2 ≤ N } (fun q => [(6, .int .i64 (q.1.2 : Int)), (5, .int .i64 (q.1.1 : Int)), (1, .func 47 [.ptr 0 0, .ptr 1 0, .ptr 2 0, .ptr 3 0])]) (fun _ _ => { blks := [.live 42 [.row n 1 fun i j => .int .i64 (c i j)], .live 42 [.row m 1 fun i j => .int .i64 (d i j)], .live 3 [.int .i64 s], .live 3 [.int .i64 lim]], vecs := [] }) (fun q => q.1.2 - q.1.1) (fun _ => ⟨rfl, rfl⟩) ⟨(0, N), by omega, by omega, by omega⟩ (by (apply sub_of <;> simp only [go_sem, ↓reduceIte, Nat.reduceAdd, Nat.reduceSub, Nat.reduceMul, Nat.reduceEqDiff, Nat.reduceLT, Nat.reduceLeDiff, Int.reduceToNat, Int.reduceLE, Int.reduceLT, Int.reduceEq, Int.reduceNeg, reduceCtorEq] <;> (try simp [catF]) <;> (try exact fun j _ => Bd_nth (by simp [BdL, Bd]) j) <;> (try exact bd_setL (by simp [bdAs, BdL, Bd])) <;> (try exact nestF_bd _ _ _ _ _ _ _ _ _))) ?_
    rintro ⟨⟨a, b⟩, q1, q2, q3⟩
    simp only [] at q1 q2 q3
    simp only [within_eq, errorOf_eq, reuse_eq, p25_6, Try.f46, Try.f47, Try.f25, go_sem, ↓reduceIte, Nat.reduceAdd, Nat.reduceSub, Nat.reduceMul, Nat.reduceEqDiff, Nat.reduceLT, Nat.reduceLeDiff, Int.reduceToNat, Int.reduceLE, Int.reduceLT, Int.reduceEq, Int.reduceNeg, reduceCtorEq]
    simp only [mid_eq (show a + b ≤ 1000000000000 by omega)]
    refine ⟨fun d1 => ?_, fun d1 => ?_⟩
    · simp only [decide_eq_true_eq] at d1
      generalize hm : (a + b) / 2 = x
      have hx : a ≤ x ∧ x < b := by omega
      have hxk := hsp x (by omega)
      have w2 : IntKind.i64.wrap (s + (x : Int)) = s + (x : Int) := wrap_id (by omega) (by omega)
      have hw2 : IntKind.i64.wrap ((x : Int) + 1) = ((x + 1 : Nat) : Int) := by rw [wrap_id (by omega) (by omega)]; omega
      simp only [w2]
      have p7' : s + (x : Int) ≤ 4294967296 := by omega
      have p6' : s ≤ s + (x : Int) := by omega
      refine ⟨⟨p1, p2, p3, p4, p5, p6', p7'⟩, ?_⟩
      refine loop_ofH { i : Nat // i ≤ n } (fun i => [(26, .int .i64 (i.1 : Int)), (25, .int .i64 (n : Int)), (24, .vec 0 0), (10, .int .i64 (suR (fun i => c i 0) (fun i => d i 0) (s + (x : Int)) s i.1)), (4, .ptr 3 0)]) (fun _ _ => { blks := [.live 42 [.row n 1 fun i j => .int .i64 (c i j)], .live 42 [.row m 1 fun i j => .int .i64 (d i j)], .live 3 [.int .i64 s], .live 3 [.int .i64 lim]], vecs := [.live 0 3 1 n (fun i _ => .int .i64 (boR (fun i => c i 0) (fun i => d i 0) (s + (x : Int)) s i))] }) (fun i => n - i.1) (fun _ => ⟨rfl, rfl⟩) ⟨0, by omega⟩ (by (apply sub_of <;> simp only [go_sem, ↓reduceIte, Nat.reduceAdd, Nat.reduceSub, Nat.reduceMul, Nat.reduceEqDiff, Nat.reduceLT, Nat.reduceLeDiff, Int.reduceToNat, Int.reduceLE, Int.reduceLT, Int.reduceEq, Int.reduceNeg, reduceCtorEq] <;> (try simp [catF]) <;> (try exact fun j _ => Bd_nth (by simp [BdL, Bd]) j) <;> (try exact bd_setL (by simp [bdAs, BdL, Bd])) <;> (try exact nestF_bd _ _ _ _ _ _ _ _ _)) <;> rfl) ?_
      rintro ⟨i, hi⟩
      simp only [within_eq, errorOf_eq, reuse_eq, p25_6, Try.f46, Try.f47, Try.f25, go_sem, ↓reduceIte, Nat.reduceAdd, Nat.reduceSub, Nat.reduceMul, Nat.reduceEqDiff, Nat.reduceLT, Nat.reduceLeDiff, Int.reduceToNat, Int.reduceLE, Int.reduceLT, Int.reduceEq, Int.reduceNeg, reduceCtorEq]
      refine ⟨fun e1 => ?_, fun e1 => ?_⟩
      · simp only [decide_eq_true_eq] at e1
        have ik : i < n := by omega
        have h1 := boR_bd p3 p4 p5 p6' i ik
        have h2 := suR_bd p3 p4 p5 p6' i hi
        have w1 : IntKind.i64.wrap (suR (fun i => c i 0) (fun i => d i 0) (s + (x : Int)) s i + boR (fun i => c i 0) (fun i => d i 0) (s + (x : Int)) s i) = suR (fun i => c i 0) (fun i => d i 0) (s + (x : Int)) s (i + 1) := by rw [wrap_id (by omega) (by omega)]; rfl
        refine ⟨⟨by omega, by omega⟩, ik, ⟨i + 1, by omega⟩, by simp only []; omega, ?_⟩
        apply sub_of <;> simp only [wrap_s ik (by omega), Int.toNat_natCast, w1, go_sem, ↓reduceIte, Nat.reduceAdd, Nat.reduceSub, Nat.reduceMul, Nat.reduceEqDiff, Nat.reduceLT, Nat.reduceLeDiff, Int.reduceToNat, Int.reduceLE, Int.reduceLT, Int.reduceEq, Int.reduceNeg, reduceCtorEq] <;> (try simp) <;> (try exact fun j _ => Bd_nth (by simp [BdL, Bd]) j) <;> (try exact bd_setL (by simp [bdAs, BdL, Bd])) <;> (try exact nestF_bd _ _ _ _ _ _ _ _ _)
      · simp only [decide_eq_false_iff_not] at e1
        obtain rfl : i = n := by omega
        have hen : enM i (fun i => c i 0) (fun i => d i 0) s lim x = decide (suR (fun i => c i 0) (fun i => d i 0) (s + (x : Int)) s i ≤ lim) := rfl
        simp only [← hen]
        cases hq : enM i (fun i => c i 0) (fun i => d i 0) s lim x with
        | true =>
          have hS := hxk.1 hq
          simp only [within_eq, errorOf_eq, reuse_eq, p25_6, Try.f46, Try.f47, Try.f25, go_sem, ↓reduceIte, Nat.reduceAdd, Nat.reduceSub, Nat.reduceMul, Nat.reduceEqDiff, Nat.reduceLT, Nat.reduceLeDiff, Int.reduceToNat, Int.reduceLE, Int.reduceLT, Int.reduceEq, Int.reduceNeg, reduceCtorEq]
          refine ⟨⟨(a, x), by simp only []; omega, by simp only []; omega, by simp only []; omega⟩, by simp only []; omega, ?_⟩
          apply sub_of <;> simp only [go_sem, ↓reduceIte, Nat.reduceAdd, Nat.reduceSub, Nat.reduceMul, Nat.reduceEqDiff, Nat.reduceLT, Nat.reduceLeDiff, Int.reduceToNat, Int.reduceLE, Int.reduceLT, Int.reduceEq, Int.reduceNeg, reduceCtorEq] <;> (try simp) <;> (try exact fun j _ => Bd_nth (by simp [BdL, Bd]) j) <;> (try exact bd_setL (by simp [bdAs, BdL, Bd])) <;> (try exact nestF_bd _ _ _ _ _ _ _ _ _)
        | false =>
          have hS : ¬ S ≤ x := fun h => by rw [hxk.2 h] at hq; cases hq
          simp only [within_eq, errorOf_eq, reuse_eq, p25_6, Try.f46, Try.f47, Try.f25, go_sem, ↓reduceIte, Nat.reduceAdd, Nat.reduceSub, Nat.reduceMul, Nat.reduceEqDiff, Nat.reduceLT, Nat.reduceLeDiff, Int.reduceToNat, Int.reduceLE, Int.reduceLT, Int.reduceEq, Int.reduceNeg, reduceCtorEq]
          refine ⟨⟨(x + 1, b), by simp only []; omega, by simp only []; omega, by simp only []; omega⟩, by simp only []; omega, ?_⟩
          apply sub_of <;> simp only [hw2, go_sem, ↓reduceIte, Nat.reduceAdd, Nat.reduceSub, Nat.reduceMul, Nat.reduceEqDiff, Nat.reduceLT, Nat.reduceLeDiff, Int.reduceToNat, Int.reduceLE, Int.reduceLT, Int.reduceEq, Int.reduceNeg, reduceCtorEq] <;> (try simp) <;> (try exact fun j _ => Bd_nth (by simp [BdL, Bd]) j) <;> (try exact bd_setL (by simp [bdAs, BdL, Bd])) <;> (try exact nestF_bd _ _ _ _ _ _ _ _ _)
    · simp only [decide_eq_false_iff_not] at d1
      obtain rfl : a = S := by omega
      have w3 : IntKind.i64.wrap (s + (a : Int)) = RM := by rw [hrm]; exact wrap_id (by omega) (by omega)
      simp only [w3]
      by_cases hR : RM ≤ 4294967296
      · have e : decide (4294967296 < RM) = false := decide_eq_false (by omega)
        simp only [if_pos hR, e, go_sem, ↓reduceIte, Nat.reduceAdd, Nat.reduceSub, Nat.reduceMul, Nat.reduceEqDiff, Nat.reduceLT, Nat.reduceLeDiff, Int.reduceToNat, Int.reduceLE, Int.reduceLT, Int.reduceEq, Int.reduceNeg, reduceCtorEq]
      · have e : decide (4294967296 < RM) = true := decide_eq_true (by omega)
        simp only [if_neg hR, e, go_sem, ↓reduceIte, Nat.reduceAdd, Nat.reduceSub, Nat.reduceMul, Nat.reduceEqDiff, Nat.reduceLT, Nat.reduceLeDiff, Int.reduceToNat, Int.reduceLE, Int.reduceLT, Int.reduceEq, Int.reduceNeg, reduceCtorEq]
end Go.Eng
end

/- brine: Room of the reference. -/
section
namespace Go.Eng
open Go Go.RowKit Go.Proofs
set_option maxRecDepth 100000
set_option maxHeartbeats 4000000
attribute [local irreducible] OwnT DefS
attribute [local irreducible] lstN
def RoomRBase : BaseF := fun args => match args with
  | [.row n sz_c f_c, .row m sz_d f_d, .int .i64 s, .int .i64 lim] => some ((sz_c = 1 ∧ IntR n 1 f_c) ∧ (sz_d = 1 ∧ IntR m 1 f_d), .tup [.int .i64 (roM n (fun i => (ivf f_c) i 0) m (fun i => (ivf f_d) i 0) s lim).2, .int .i64 (roM n (fun i => (ivf f_c) i 0) m (fun i => (ivf f_d) i 0) s lim).1])
  | _ => none
theorem RoomR_eq (n : Nat) (sz_c : Nat) (f_c : Nat → Nat → SV) (m : Nat) (sz_d : Nat) (f_d : Nat → Nat → SV) (s : Int) (lim : Int) : RoomRBase [.row n sz_c f_c, .row m sz_d f_d, .int .i64 s, .int .i64 lim] = some ((sz_c = 1 ∧ IntR n 1 f_c) ∧ (sz_d = 1 ∧ IntR m 1 f_d), .tup [.int .i64 (roM n (fun i => (ivf f_c) i 0) m (fun i => (ivf f_d) i 0) s lim).2, .int .i64 (roM n (fun i => (ivf f_c) i 0) m (fun i => (ivf f_d) i 0) s lim).1]) := rfl
theorem RoomR_base : Base Try.prog 26 RoomRBase := by
  intro args p v hq hp
  unfold RoomRBase at hq
  split at hq
  rotate_left
  · cases hq
  rename_i n sz_c f_c m sz_d f_d s lim
  cases hq
  obtain ⟨⟨rfl, i_c⟩, ⟨rfl, i_d⟩⟩ := hp
  refine base_of (C := cx [] [] [(37, inBase), (44, errorsBase), (48, enoughBase)] [] none) (cx_ok trivial ⟨in_base, errors_base, enough_base, trivial⟩) rfl (g := 26) (fn := Try.f26)
    (args' := [.row n 1 (rowF .i64 (ivf f_c)), .row m 1 (rowF .i64 (ivf f_d)), .int .i64 s, .int .i64 lim]) (fn_26) rfl 1000 (by
    simp only [BdL, Bd, and_self, and_true, true_and]
    exact ⟨(fun i j hi hj => by rw [i_c i j hi hj]; trivial), (fun i j hi hj => by rw [i_d i j hi hj]; trivial)⟩) ⟨SameD.int i_c, SameD.int i_d, SameD.rfl' _, SameD.rfl' _, trivial⟩ ?_
  generalize ivf f_c = c
  generalize ivf f_d = d
  simp only [rowF_eq]
  unfold roM
  by_cases he : erR n (fun i => c i 0) m (fun i => d i 0) s s = 0
  rotate_left
  · have hd : decide (erR n (fun i => c i 0) m (fun i => d i 0) s s = 0) = false := decide_eq_false he
    simp only [hd, if_neg he, in_eq, errors_eq, enough_eq, Try.f26, go_sem, ↓reduceIte, Nat.reduceAdd, Nat.reduceSub, Nat.reduceMul, Nat.reduceEqDiff, Nat.reduceLT, Nat.reduceLeDiff, Int.reduceToNat, Int.reduceLE, Int.reduceLT, Int.reduceEq, Int.reduceNeg, reduceCtorEq]
  have hd : decide (erR n (fun i => c i 0) m (fun i => d i 0) s s = 0) = true := decide_eq_true he
  cases hl : in3 lim 0 1099511627776 with
  | false =>
    simp only [hd, hl, if_pos he, in_eq, errors_eq, enough_eq, Try.f26, go_sem, ↓reduceIte, Nat.reduceAdd, Nat.reduceSub, Nat.reduceMul, Nat.reduceEqDiff, Nat.reduceLT, Nat.reduceLeDiff, Int.reduceToNat, Int.reduceLE, Int.reduceLT, Int.reduceEq, Int.reduceNeg, reduceCtorEq]
    done
  | true =>
    obtain ⟨p1, p2, p3, p4, p5, p6, p7⟩ := er_ok he
    obtain ⟨l1, l2⟩ := in3_iff.1 hl
    have hN : (4294967296 - s + 1).toNat ≤ 4294967297 := by omega
    have hN2 : s + (((4294967296 - s + 1).toNat : Nat) : Int) = 4294967297 := by omega
    have hsp := fun x (hx : x < (4294967296 - s + 1).toNat) => lstN_iff (p := enM n (fun i => c i 0) (fun i => d i 0) s lim) (enM_mono) hx
    have hle := (lstN_spec (enM n (fun i => c i 0) (fun i => d i 0) s lim) (4294967296 - s + 1).toNat).1
    have hrm : rmM n (fun i => c i 0) (fun i => d i 0) s lim = s + (lstN (enM n (fun i => c i 0) (fun i => d i 0) s lim) (4294967296 - s + 1).toNat : Nat) := rfl
    generalize rmM n (fun i => c i 0) (fun i => d i 0) s lim = RM at *
    generalize lstN (enM n (fun i => c i 0) (fun i => d i 0) s lim) (4294967296 - s + 1).toNat = S at *
    generalize (4294967296 - s + 1).toNat = N at *
    have hen : ∀ r, s ≤ r → r ≤ 4294967296 → (suR (fun i => c i 0) (fun i => d i 0) r s n ≤ lim ↔ RM ≤ r) := fun r h1 h2 => by
      have := hsp (r - s).toNat (by omega)
      rw [show enM n (fun i => c i 0) (fun i => d i 0) s lim (r - s).toNat = decide (suR (fun i => c i 0) (fun i => d i 0) r s n ≤ lim) by
        simp only [enM]; rw [show s + (((r - s).toNat : Nat) : Int) = r by omega]] at this
      rw [decide_eq_true_eq] at this
      omega
    by_cases h0 : suR (fun i => c i 0) (fun i => d i 0) 4294967296 s n ≤ lim
    · have hq := (hen 4294967296 p7 (Int.le_refl _)).1 h0
      have e0 : decide (suR (fun i => c i 0) (fun i => d i 0) 4294967296 s n ≤ lim) = true := decide_eq_true h0
      simp only [hd, hl, if_pos he, if_pos hq, e0, in_eq, errors_eq, enough_eq, Try.f26, go_sem, ↓reduceIte, Nat.reduceAdd, Nat.reduceSub, Nat.reduceMul, Nat.reduceEqDiff, Nat.reduceLT, Nat.reduceLeDiff, Int.reduceToNat, Int.reduceLE, Int.reduceLT, Int.reduceEq, Int.reduceNeg, reduceCtorEq]
      refine ⟨⟨p1, p2, p3, p4, p5, p7⟩, ?_⟩
      change spl (!decide (suR (fun i => c i 0) (fun i => d i 0) 4294967296 s n ≤ lim)) _ _
      simp only [e0, go_sem, ↓reduceIte, Nat.reduceAdd, Nat.reduceSub, Nat.reduceMul, Nat.reduceEqDiff, Nat.reduceLT, Nat.reduceLeDiff, Int.reduceToNat, Int.reduceLE, Int.reduceLT, Int.reduceEq, Int.reduceNeg, reduceCtorEq]
      refine loop_ofH { q : Int × Int // s ≤ q.1 ∧ q.1 ≤ RM ∧ RM ≤ q.2 ∧ q.2 ≤ 4294967296 } (fun q => [(12, .int .i64 q.1.2), (11, .int .i64 q.1.1), (3, .int .i64 lim), (2, .int .i64 s), (1, .row m 1 fun i j => .int .i64 (d i j)), (0, .row n 1 fun i j => .int .i64 (c i j))]) (fun h _ => h) (fun q => (q.1.2 - q.1.1).toNat) (fun _ => ⟨rfl, rfl⟩) ⟨(s, 4294967296), by omega, by omega, by omega, by omega⟩ (by (apply sub_of <;> simp only [go_sem, ↓reduceIte, Nat.reduceAdd, Nat.reduceSub, Nat.reduceMul, Nat.reduceEqDiff, Nat.reduceLT, Nat.reduceLeDiff, Int.reduceToNat, Int.reduceLE, Int.reduceLT, Int.reduceEq, Int.reduceNeg, reduceCtorEq] <;> (try simp [catF]) <;> (try exact fun j _ => Bd_nth (by simp [BdL, Bd]) j) <;> (try exact bd_setL (by simp [bdAs, BdL, Bd])) <;> (try exact nestF_bd _ _ _ _ _ _ _ _ _))) ?_
      rintro ⟨⟨a, b⟩, q0, q1, q2, q3⟩
      simp only [] at q0 q1 q2 q3
      simp only [in_eq, errors_eq, enough_eq, Try.f26, go_sem, ↓reduceIte, Nat.reduceAdd, Nat.reduceSub, Nat.reduceMul, Nat.reduceEqDiff, Nat.reduceLT, Nat.reduceLeDiff, Int.reduceToNat, Int.reduceLE, Int.reduceLT, Int.reduceEq, Int.reduceNeg, reduceCtorEq]
      refine ⟨fun d1 => ?_, fun d1 => ?_⟩
      · simp only [decide_eq_true_eq] at d1
        have w : IntKind.i64.wrap ((IntKind.i64.wrap (a + b)).tdiv 2) = (a + b) / 2 := by rw [wrap_id (x := a + b) (by omega) (by omega), Int.tdiv_eq_ediv_of_nonneg (by omega), wrap_id (by omega) (by omega)]
        simp only [w]
        generalize hm : (a + b) / 2 = x
        have hx : a ≤ x ∧ x < b := by omega
        have hxk := hen x (by omega) (by omega)
        have w2 : IntKind.i64.wrap (x + 1) = x + 1 := wrap_id (by omega) (by omega)
        refine ⟨by decide, ⟨p1, p2, p3, p4, p5, by omega, by omega⟩, fun d2 => ?_, fun d2 => ?_⟩
        · simp only [decide_eq_true_eq] at d2
          have := hxk.1 d2
          refine ⟨⟨(a, x), by simp only []; omega, by simp only []; omega, by simp only []; omega, by simp only []; omega⟩, by simp only []; omega, ?_⟩
          apply sub_of <;> simp only [go_sem, ↓reduceIte, Nat.reduceAdd, Nat.reduceSub, Nat.reduceMul, Nat.reduceEqDiff, Nat.reduceLT, Nat.reduceLeDiff, Int.reduceToNat, Int.reduceLE, Int.reduceLT, Int.reduceEq, Int.reduceNeg, reduceCtorEq] <;> (try simp) <;> (try exact fun j _ => Bd_nth (by simp [BdL, Bd]) j) <;> (try exact bd_setL (by simp [bdAs, BdL, Bd])) <;> (try exact nestF_bd _ _ _ _ _ _ _ _ _)
        · simp only [decide_eq_false_iff_not] at d2
          have : ¬ RM ≤ x := fun h => d2 (hxk.2 h)
          refine ⟨⟨(x + 1, b), by simp only []; omega, by simp only []; omega, by simp only []; omega, by simp only []; omega⟩, by simp only []; omega, ?_⟩
          apply sub_of <;> simp only [w2, go_sem, ↓reduceIte, Nat.reduceAdd, Nat.reduceSub, Nat.reduceMul, Nat.reduceEqDiff, Nat.reduceLT, Nat.reduceLeDiff, Int.reduceToNat, Int.reduceLE, Int.reduceLT, Int.reduceEq, Int.reduceNeg, reduceCtorEq] <;> (try simp) <;> (try exact fun j _ => Bd_nth (by simp [BdL, Bd]) j) <;> (try exact bd_setL (by simp [bdAs, BdL, Bd])) <;> (try exact nestF_bd _ _ _ _ _ _ _ _ _)
      · simp only [decide_eq_false_iff_not] at d1
        obtain rfl : a = RM := by omega
        rfl
    · have hq : ¬ RM ≤ 4294967296 := fun h => h0 ((hen 4294967296 p7 (Int.le_refl _)).2 h)
      have e0 : decide (suR (fun i => c i 0) (fun i => d i 0) 4294967296 s n ≤ lim) = false := decide_eq_false h0
      simp only [hd, hl, if_pos he, if_neg hq, e0, in_eq, errors_eq, enough_eq, Try.f26, go_sem, ↓reduceIte, Nat.reduceAdd, Nat.reduceSub, Nat.reduceMul, Nat.reduceEqDiff, Nat.reduceLT, Nat.reduceLeDiff, Int.reduceToNat, Int.reduceLE, Int.reduceLT, Int.reduceEq, Int.reduceNeg, reduceCtorEq]
      refine ⟨⟨p1, p2, p3, p4, p5, p7⟩, ?_⟩
      change spl (!decide (suR (fun i => c i 0) (fun i => d i 0) 4294967296 s n ≤ lim)) _ _
      simp only [e0, go_sem, ↓reduceIte, Nat.reduceAdd, Nat.reduceSub, Nat.reduceMul, Nat.reduceEqDiff, Nat.reduceLT, Nat.reduceLeDiff, Int.reduceToNat, Int.reduceLE, Int.reduceLT, Int.reduceEq, Int.reduceNeg, reduceCtorEq]
end Go.Eng
end

/- brine: what is bought with some room. -/
section
namespace Go.Eng
open Go Go.RowKit Go.Proofs
set_option maxRecDepth 100000
set_option maxHeartbeats 4000000
attribute [local irreducible] OwnT DefS
theorem er_same {n m : Nat} {c d : Nat → Int} {s r : Int} (h : erR n c m d s s = 0) (h1 : s ≤ r) (h2 : r ≤ 4294967296) : erR n c m d s r = 0 := by
  have e : erR n c m d s s = 0 := h
  unfold erR at h ⊢
  split at h
  · cases h
  · split at h
    · cases h
    · split at h
      · rename_i q1 q2 q3
        have q4 := er_ok e
        simp only [Bool.and_eq_true] at q3
        rw [if_neg q1, if_neg q2, if_pos]
        simp only [Bool.and_eq_true, in3_iff]
        exact ⟨q3.1, q3.2.1, ⟨by omega, by omega⟩, by omega, by omega⟩
      · cases h
theorem er_four (n m : Nat) (c d : Nat → Int) (s r : Int) : erR n c m d s r ≠ 4 := by
  unfold erR
  split
  · omega
  · split
    · omega
    · split <;> omega
def buM (n : Nat) (c : Nat → Int) (m : Nat) (d : Nat → Int) (s r : Int) : Int := if erR n c m d s r = 0 then suR c d r s n else -1
def b3 (n : Nat) (c : Nat → Nat → Int) (m : Nat) (d : Nat → Nat → Int) (s : Int) : HS := ⟨[.live 42 [.row n 1 fun i j => .int .i64 (c i j)], .live 42 [.row m 1 fun i j => .int .i64 (d i j)], .live 3 [.int .i64 s]], []⟩
theorem buys_calls (n : Nat) (c : Nat → Nat → Int) (m : Nat) (d : Nat → Nat → Int) (s r : Int) :
    CallsS Try.prog 28 [.int .i64 r, .ptr 0 0, .ptr 1 0, .ptr 2 0] (b3 n c m d s) (fun o h' => o = .ret (.int .i64 (buM n (fun i => c i 0) m (fun i => d i 0) s r)) ∧ h' = b3 n c m d s) := by
  unfold b3
  refine calls_of_run (C := cx [] [] [(19, ReuseBase)] [] none) (cx_ok trivial ⟨Reuse_base, trivial⟩) rfl (g := 28) (fn := Try.f28) (fn_28) rfl 1000 ?_
  by_cases he : erR n (fun i => c i 0) m (fun i => d i 0) s r = 0
  rotate_left
  · have hd : decide (erR n (fun i => c i 0) m (fun i => d i 0) s r = 0) = false := decide_eq_false he
    simp only [hd, buM, if_neg he, Try.f28, Reuse_eq, go_sem, ↓reduceIte, Nat.reduceAdd, Nat.reduceSub, Nat.reduceMul, Nat.reduceEqDiff, Nat.reduceLT, Nat.reduceLeDiff, Int.reduceToNat, Int.reduceLE, Int.reduceLT, Int.reduceEq, Int.reduceNeg, reduceCtorEq]
  have hd : decide (erR n (fun i => c i 0) m (fun i => d i 0) s r = 0) = true := decide_eq_true he
  obtain ⟨p1, p2, p3, p4, p5, p6, p7⟩ := er_ok he
  subst p2
  simp only [hd, buM, if_pos he, Try.f28, Reuse_eq, go_sem, ↓reduceIte, Nat.reduceAdd, Nat.reduceSub, Nat.reduceMul, Nat.reduceEqDiff, Nat.reduceLT, Nat.reduceLeDiff, Int.reduceToNat, Int.reduceLE, Int.reduceLT, Int.reduceEq, Int.reduceNeg, reduceCtorEq]
  simp only [he, if_true]
  refine loop_ofH { i : Nat // i ≤ m } (fun i => [(27, .int .i64 (i.1 : Int)), (26, .int .i64 (m : Int)), (25, .row m 1 fun i _ => .int .i64 (boR (fun i => c i 0) (fun i => d i 0) r s i)), (10, .int .i64 (suR (fun i => c i 0) (fun i => d i 0) r s i.1))]) (fun h _ => h) (fun i => m - i.1) (fun _ => ⟨rfl, rfl⟩) ⟨0, by omega⟩ (by (apply sub_of <;> simp only [go_sem, ↓reduceIte, Nat.reduceAdd, Nat.reduceSub, Nat.reduceMul, Nat.reduceEqDiff, Nat.reduceLT, Nat.reduceLeDiff, Int.reduceToNat, Int.reduceLE, Int.reduceLT, Int.reduceEq, Int.reduceNeg, reduceCtorEq] <;> (try simp [catF]) <;> (try exact fun j _ => Bd_nth (by simp [BdL, Bd]) j) <;> (try exact bd_setL (by simp [bdAs, BdL, Bd])) <;> (try exact nestF_bd _ _ _ _ _ _ _ _ _)) <;> rfl) ?_
  rintro ⟨i, hi⟩
  simp only [Try.f28, go_sem, ↓reduceIte, Nat.reduceAdd, Nat.reduceSub, Nat.reduceMul, Nat.reduceEqDiff, Nat.reduceLT, Nat.reduceLeDiff, Int.reduceToNat, Int.reduceLE, Int.reduceLT, Int.reduceEq, Int.reduceNeg, reduceCtorEq]
  refine ⟨fun e1 => ?_, fun e1 => ?_⟩
  · simp only [decide_eq_true_eq] at e1
    have ik : i < m := by omega
    have h1 := boR_bd p3 p4 p5 p6 i ik
    have h2 := suR_bd p3 p4 p5 p6 i hi
    have w1 : IntKind.i64.wrap (suR (fun i => c i 0) (fun i => d i 0) r s i + boR (fun i => c i 0) (fun i => d i 0) r s i) = suR (fun i => c i 0) (fun i => d i 0) r s (i + 1) := by rw [wrap_id (by omega) (by omega)]; rfl
    refine ⟨⟨by omega, by omega⟩, ⟨i + 1, by omega⟩, by simp only []; omega, ?_⟩
    apply sub_of <;> simp only [wrap_s ik (by omega), Int.toNat_natCast, w1, go_sem, ↓reduceIte, Nat.reduceAdd, Nat.reduceSub, Nat.reduceMul, Nat.reduceEqDiff, Nat.reduceLT, Nat.reduceLeDiff, Int.reduceToNat, Int.reduceLE, Int.reduceLT, Int.reduceEq, Int.reduceNeg, reduceCtorEq] <;> (try simp) <;> (try exact fun j _ => Bd_nth (by simp [BdL, Bd]) j) <;> (try exact bd_setL (by simp [bdAs, BdL, Bd])) <;> (try exact nestF_bd _ _ _ _ _ _ _ _ _)
  · simp only [decide_eq_false_iff_not] at e1
    obtain rfl : i = m := by omega
    rfl
end Go.Eng
end

/- brine: Room is enough, and less is not. -/
section
namespace Go.Eng
open Go Go.RowKit Go.Proofs
set_option maxRecDepth 100000
set_option maxHeartbeats 4000000
attribute [local irreducible] OwnT DefS
/-- Room, said by what is bought. -/
theorem rm_fact {n : Nat} {c d : Nat → Int} {s lim : Int} (p5 : 0 ≤ s) (p7 : s ≤ 4294967296) : s ≤ rmM n c d s lim ∧ ∀ r, s ≤ r → r ≤ 4294967296 → (suR c d r s n ≤ lim ↔ rmM n c d s lim ≤ r) := by
  have hsp := fun x (hx : x < (4294967296 - s + 1).toNat) => lstN_iff (p := enM n c d s lim) (enM_mono) hx
  have hle := (lstN_spec (enM n c d s lim) (4294967296 - s + 1).toNat).1
  have hrm : rmM n c d s lim = s + (lstN (enM n c d s lim) (4294967296 - s + 1).toNat : Nat) := rfl
  have hN2 : s + (((4294967296 - s + 1).toNat : Nat) : Int) = 4294967297 := by omega
  generalize rmM n c d s lim = RM at *
  generalize lstN (enM n c d s lim) (4294967296 - s + 1).toNat = S at *
  generalize (4294967296 - s + 1).toNat = N at *
  refine ⟨by omega, fun r h1 h2 => ?_⟩
  have := hsp (r - s).toNat (by omega)
  rw [show enM n c d s lim (r - s).toNat = decide (suR c d r s n ≤ lim) by
    simp only [enM]; rw [show s + (((r - s).toNat : Nat) : Int) = r by omega]] at this
  rw [decide_eq_true_eq] at this
  omega
attribute [local irreducible] lstN
def brineRoomBase : BaseF := fun args => match args with
  | [.row n sz_c f_c, .row m sz_d f_d, .int .i64 s, .int .i64 lim, .int .u32 mo] => some ((sz_c = 1 ∧ IntR n 1 f_c) ∧ (sz_d = 1 ∧ IntR m 1 f_d) ∧ ((Lit.int .u32 mo).wf = true), .bool true)
  | _ => none
theorem brineRoom_eq (n : Nat) (sz_c : Nat) (f_c : Nat → Nat → SV) (m : Nat) (sz_d : Nat) (f_d : Nat → Nat → SV) (s : Int) (lim : Int) (mo : Int) : brineRoomBase [.row n sz_c f_c, .row m sz_d f_d, .int .i64 s, .int .i64 lim, .int .u32 mo] = some ((sz_c = 1 ∧ IntR n 1 f_c) ∧ (sz_d = 1 ∧ IntR m 1 f_d) ∧ ((Lit.int .u32 mo).wf = true), .bool true) := rfl
theorem brineRoom_base : Base Try.prog 10 brineRoomBase := by
  intro args p v hq hp
  unfold brineRoomBase at hq
  split at hq
  rotate_left
  · cases hq
  rename_i n sz_c f_c m sz_d f_d s lim mo
  cases hq
  obtain ⟨⟨rfl, i_c⟩, ⟨rfl, i_d⟩, wf_mo⟩ := hp
  refine base_of (C := cx [28] [] [(13, aliveBase), (25, RoomBase)] [] none) (cx_ok trivial ⟨alive_base, Room_base, trivial⟩) rfl (g := 10) (fn := Try.f10)
    (args' := [.row n 1 (rowF .i64 (ivf f_c)), .row m 1 (rowF .i64 (ivf f_d)), .int .i64 s, .int .i64 lim, .int .u32 mo]) (fn_10) rfl 1000 (by
    simp only [BdL, Bd, and_self, and_true, true_and]
    exact ⟨(fun i j hi hj => by rw [i_c i j hi hj]; trivial), (fun i j hi hj => by rw [i_d i j hi hj]; trivial)⟩) ⟨SameD.int i_c, SameD.int i_d, SameD.rfl' _, SameD.rfl' _, SameD.rfl' _, trivial⟩ ?_
  generalize ivf f_c = c
  generalize ivf f_d = d
  simp only [rowF_eq]
  have hmo := wf_u32 wf_mo
  by_cases g1 : 60 < n
  · have e1 : decide (60 < (n : Int)) = true := decide_eq_true (by omega)
    simp only [e1, alive_eq, Room_eq, Try.f10, go_sem, ↓reduceIte, Nat.reduceAdd, Nat.reduceSub, Nat.reduceMul, Nat.reduceEqDiff, Nat.reduceLT, Nat.reduceLeDiff, Int.reduceToNat, Int.reduceLE, Int.reduceLT, Int.reduceEq, Int.reduceNeg, reduceCtorEq]
  have e1 : decide (60 < (n : Int)) = false := decide_eq_false (by omega)
  by_cases g2 : 210 < m
  · have e2 : decide (210 < (m : Int)) = true := decide_eq_true (by omega)
    simp only [e1, e2, alive_eq, Room_eq, Try.f10, go_sem, ↓reduceIte, Nat.reduceAdd, Nat.reduceSub, Nat.reduceMul, Nat.reduceEqDiff, Nat.reduceLT, Nat.reduceLeDiff, Int.reduceToNat, Int.reduceLE, Int.reduceLT, Int.reduceEq, Int.reduceNeg, reduceCtorEq]
  have e2 : decide (210 < (m : Int)) = false := decide_eq_false (by omega)
  by_cases he : erR n (fun i => c i 0) m (fun i => d i 0) s s = 0
  rotate_left
  · have hr : roM n (fun i => c i 0) m (fun i => d i 0) s lim = (erR n (fun i => c i 0) m (fun i => d i 0) s s, 0) := by simp only [roM, if_neg he]
    have h1 : decide (erR n (fun i => c i 0) m (fun i => d i 0) s s = 0) = false := decide_eq_false he
    have h4 : decide (erR n (fun i => c i 0) m (fun i => d i 0) s s = 4) = false := decide_eq_false (er_four _ _ _ _ _ _)
    simp only [e1, e2, hr, h1, h4, alive_eq, Room_eq, Try.f10, go_sem, ↓reduceIte, Nat.reduceAdd, Nat.reduceSub, Nat.reduceMul, Nat.reduceEqDiff, Nat.reduceLT, Nat.reduceLeDiff, Int.reduceToNat, Int.reduceLE, Int.reduceLT, Int.reduceEq, Int.reduceNeg, reduceCtorEq]
  obtain ⟨p1, p2, p3, p4, p5, p6, p7⟩ := er_ok he
  have hbu : ∀ r, s ≤ r → r ≤ 4294967296 → buM n (fun i => c i 0) m (fun i => d i 0) s r = suR (fun i => c i 0) (fun i => d i 0) r s n ∧ 0 ≤ suR (fun i => c i 0) (fun i => d i 0) r s n := fun r h1 h2 =>
    ⟨by simp only [buM, if_pos (er_same he h1 h2)], (suR_bd p3 p4 p5 h1 n (Nat.le_refl _)).1⟩
  cases hl : in3 lim 0 1099511627776 with
  | false =>
    have hr : roM n (fun i => c i 0) m (fun i => d i 0) s lim = (2, 0) := by simp [roM, if_pos he, hl]
    simp only [e1, e2, hr, alive_eq, Room_eq, Try.f10, go_sem, ↓reduceIte, Nat.reduceAdd, Nat.reduceSub, Nat.reduceMul, Nat.reduceEqDiff, Nat.reduceLT, Nat.reduceLeDiff, Int.reduceToNat, Int.reduceLE, Int.reduceLT, Int.reduceEq, Int.reduceNeg, reduceCtorEq]
  | true =>
    obtain ⟨r0, hen⟩ := rm_fact (n := n) (c := fun i => c i 0) (d := fun i => d i 0) (lim := lim) p5 p7
    by_cases hR : rmM n (fun i => c i 0) (fun i => d i 0) s lim ≤ 4294967296
    rotate_left
    · have hr : roM n (fun i => c i 0) m (fun i => d i 0) s lim = (4, 0) := by simp [roM, if_pos he, hl, if_neg hR]
      simp only [e1, e2, hr, alive_eq, Room_eq, Try.f10, go_sem, ↓reduceIte, Nat.reduceAdd, Nat.reduceSub, Nat.reduceMul, Nat.reduceEqDiff, Nat.reduceLT, Nat.reduceLeDiff, Int.reduceToNat, Int.reduceLE, Int.reduceLT, Int.reduceEq, Int.reduceNeg, reduceCtorEq]
      have h0 : ¬ suR (fun i => c i 0) (fun i => d i 0) 4294967296 s n ≤ lim := fun h => hR ((hen 4294967296 p7 (Int.le_refl _)).1 h)
      have h1 := (hbu 4294967296 p7 (Int.le_refl _)).1
      have h2 : decide (lim < suR (fun i => c i 0) (fun i => d i 0) 4294967296 s n) = true := decide_eq_true (by omega)
      unfold callS
      refine calls_mono ?_ (buys_calls n c m d s 4294967296)
      rintro _ _ ⟨rfl, rfl⟩
      simp only [b3, h1, h2, alive_eq, Room_eq, Try.f10, go_sem, ↓reduceIte, Nat.reduceAdd, Nat.reduceSub, Nat.reduceMul, Nat.reduceEqDiff, Nat.reduceLT, Nat.reduceLeDiff, Int.reduceToNat, Int.reduceLE, Int.reduceLT, Int.reduceEq, Int.reduceNeg, reduceCtorEq]
    · have hr : roM n (fun i => c i 0) m (fun i => d i 0) s lim = (0, rmM n (fun i => c i 0) (fun i => d i 0) s lim) := by simp [roM, if_pos he, hl, if_pos hR]
      simp only [e1, e2, hr, alive_eq, Room_eq, Try.f10, go_sem, ↓reduceIte, Nat.reduceAdd, Nat.reduceSub, Nat.reduceMul, Nat.reduceEqDiff, Nat.reduceLT, Nat.reduceLeDiff, Int.reduceToNat, Int.reduceLE, Int.reduceLT, Int.reduceEq, Int.reduceNeg, reduceCtorEq]
      generalize rmM n (fun i => c i 0) (fun i => d i 0) s lim = RM at *
      have h1 := hbu RM r0 hR
      have f1 : decide (RM < s) = false := decide_eq_false (by omega)
      have f2 : decide (4294967296 < RM) = false := decide_eq_false (by omega)
      have f3 : decide (suR (fun i => c i 0) (fun i => d i 0) RM s n < 0) = false := decide_eq_false (by omega)
      have f4 : decide (lim < suR (fun i => c i 0) (fun i => d i 0) RM s n) = false := decide_eq_false (by have := (hen RM r0 hR).2 (Int.le_refl _); omega)
      simp only [f1, f2, go_sem, ↓reduceIte, Nat.reduceAdd, Nat.reduceSub, Nat.reduceMul, Nat.reduceEqDiff, Nat.reduceLT, Nat.reduceLeDiff, Int.reduceToNat, Int.reduceLE, Int.reduceLT, Int.reduceEq, Int.reduceNeg, reduceCtorEq]
      unfold callS
      refine calls_mono ?_ (buys_calls n c m d s RM)
      rintro _ _ ⟨rfl, rfl⟩
      simp only [b3, h1.1, f3, alive_eq, Room_eq, Try.f10, go_sem, ↓reduceIte, Nat.reduceAdd, Nat.reduceSub, Nat.reduceMul, Nat.reduceEqDiff, Nat.reduceLT, Nat.reduceLeDiff, Int.reduceToNat, Int.reduceLE, Int.reduceLT, Int.reduceEq, Int.reduceNeg, reduceCtorEq]
      unfold callS
      refine calls_mono ?_ (buys_calls n c m d s RM)
      rintro _ _ ⟨rfl, rfl⟩
      simp only [b3, h1.1, f4, alive_eq, Room_eq, Try.f10, go_sem, ↓reduceIte, Nat.reduceAdd, Nat.reduceSub, Nat.reduceMul, Nat.reduceEqDiff, Nat.reduceLT, Nat.reduceLeDiff, Int.reduceToNat, Int.reduceLE, Int.reduceLT, Int.reduceEq, Int.reduceNeg, reduceCtorEq]
      have wm : IntKind.i64.wrap mo = mo := wrap_id (by omega) (by omega)
      have wr : IntKind.i64.wrap (RM + mo) = RM + mo := wrap_id (by omega) (by omega)
      have w1 : IntKind.i64.wrap (RM - 1) = RM - 1 := wrap_id (by omega) (by omega)
      have hmono := suR_mono (c := fun i => c i 0) (d := fun i => d i 0) (s := s) (r := RM) (r' := min 4294967296 (RM + mo)) (by omega) n
      have hW := hbu (min 4294967296 (RM + mo)) (by omega) (by omega)
      simp only [wm, wr, w1]
      have g1 : decide (0 ≤ suR (fun i => c i 0) (fun i => d i 0) (min 4294967296 (RM + mo)) s n) = true := decide_eq_true hW.2
      have g2 : decide (suR (fun i => c i 0) (fun i => d i 0) (min 4294967296 (RM + mo)) s n ≤ suR (fun i => c i 0) (fun i => d i 0) RM s n) = true := decide_eq_true hmono
      by_cases g : s < RM
      · have f5 : decide (s < RM) = true := decide_eq_true g
        have h2 := hbu (RM - 1) (by omega) (by omega)
        have f6 : decide (suR (fun i => c i 0) (fun i => d i 0) (RM - 1) s n ≤ lim) = false := decide_eq_false (by have := hen (RM - 1) (by omega) (by omega); omega)
        simp only [f5, wm, wr, w1, go_sem, ↓reduceIte, Nat.reduceAdd, Nat.reduceSub, Nat.reduceMul, Nat.reduceEqDiff, Nat.reduceLT, Nat.reduceLeDiff, Int.reduceToNat, Int.reduceLE, Int.reduceLT, Int.reduceEq, Int.reduceNeg, reduceCtorEq]
        unfold callS
        refine calls_mono ?_ (buys_calls n c m d s (RM - 1))
        rintro _ _ ⟨rfl, rfl⟩
        simp only [b3, h2.1, f6, wm, wr, alive_eq, Room_eq, Try.f10, go_sem, ↓reduceIte, Nat.reduceAdd, Nat.reduceSub, Nat.reduceMul, Nat.reduceEqDiff, Nat.reduceLT, Nat.reduceLeDiff, Int.reduceToNat, Int.reduceLE, Int.reduceLT, Int.reduceEq, Int.reduceNeg, reduceCtorEq]
        unfold callS
        refine calls_mono ?_ (buys_calls n c m d s (min 4294967296 (RM + mo)))
        rintro _ _ ⟨rfl, rfl⟩
        simp only [b3, hW.1, g1, alive_eq, Room_eq, Try.f10, go_sem, ↓reduceIte, Nat.reduceAdd, Nat.reduceSub, Nat.reduceMul, Nat.reduceEqDiff, Nat.reduceLT, Nat.reduceLeDiff, Int.reduceToNat, Int.reduceLE, Int.reduceLT, Int.reduceEq, Int.reduceNeg, reduceCtorEq]
        unfold callS
        refine calls_mono ?_ (buys_calls n c m d s (min 4294967296 (RM + mo)))
        rintro _ _ ⟨rfl, rfl⟩
        simp only [b3, hW.1, alive_eq, Room_eq, Try.f10, go_sem, ↓reduceIte, Nat.reduceAdd, Nat.reduceSub, Nat.reduceMul, Nat.reduceEqDiff, Nat.reduceLT, Nat.reduceLeDiff, Int.reduceToNat, Int.reduceLE, Int.reduceLT, Int.reduceEq, Int.reduceNeg, reduceCtorEq]
        unfold callS
        refine calls_mono ?_ (buys_calls n c m d s RM)
        rintro _ _ ⟨rfl, rfl⟩
        simp only [b3, h1.1, g2, alive_eq, Room_eq, Try.f10, go_sem, ↓reduceIte, Nat.reduceAdd, Nat.reduceSub, Nat.reduceMul, Nat.reduceEqDiff, Nat.reduceLT, Nat.reduceLeDiff, Int.reduceToNat, Int.reduceLE, Int.reduceLT, Int.reduceEq, Int.reduceNeg, reduceCtorEq]
      · have f5 : decide (s < RM) = false := decide_eq_false g
        simp only [f5, wm, wr, w1, go_sem, ↓reduceIte, Nat.reduceAdd, Nat.reduceSub, Nat.reduceMul, Nat.reduceEqDiff, Nat.reduceLT, Nat.reduceLeDiff, Int.reduceToNat, Int.reduceLE, Int.reduceLT, Int.reduceEq, Int.reduceNeg, reduceCtorEq]
        unfold callS
        refine calls_mono ?_ (buys_calls n c m d s (min 4294967296 (RM + mo)))
        rintro _ _ ⟨rfl, rfl⟩
        simp only [b3, hW.1, g1, alive_eq, Room_eq, Try.f10, go_sem, ↓reduceIte, Nat.reduceAdd, Nat.reduceSub, Nat.reduceMul, Nat.reduceEqDiff, Nat.reduceLT, Nat.reduceLeDiff, Int.reduceToNat, Int.reduceLE, Int.reduceLT, Int.reduceEq, Int.reduceNeg, reduceCtorEq]
        unfold callS
        refine calls_mono ?_ (buys_calls n c m d s (min 4294967296 (RM + mo)))
        rintro _ _ ⟨rfl, rfl⟩
        simp only [b3, hW.1, alive_eq, Room_eq, Try.f10, go_sem, ↓reduceIte, Nat.reduceAdd, Nat.reduceSub, Nat.reduceMul, Nat.reduceEqDiff, Nat.reduceLT, Nat.reduceLeDiff, Int.reduceToNat, Int.reduceLE, Int.reduceLT, Int.reduceEq, Int.reduceNeg, reduceCtorEq]
        unfold callS
        refine calls_mono ?_ (buys_calls n c m d s RM)
        rintro _ _ ⟨rfl, rfl⟩
        simp only [b3, h1.1, g2, alive_eq, Room_eq, Try.f10, go_sem, ↓reduceIte, Nat.reduceAdd, Nat.reduceSub, Nat.reduceMul, Nat.reduceEqDiff, Nat.reduceLT, Nat.reduceLeDiff, Int.reduceToNat, Int.reduceLE, Int.reduceLT, Int.reduceEq, Int.reduceNeg, reduceCtorEq]
end Go.Eng
end

/-
  BrineRoom: for every input the law returns true, and each argument reads afterwards as it read before. No condition.
-/
section
namespace Go.Proofs.Ytakbfbcfddcncaa.brineRoom
open Go.ChangeShapes Go.WideShapes Go.ChangeAt Go.RowKit Go.Eng
set_option linter.unusedVariables false
theorem own : ownKnob Try.prog.godebug = none := by kernel_rfl
theorem laid : laidOutB Try.prog = true := by kernel_rfl
set_option maxRecDepth 100000 in
theorem lifted (os : Os) (started : os.Started) (H : Type) (enc : TypeId × Value → H) :
    ReturnsInHanded {} Try.checked os 10 .any (Rows.brineRoomSpec.pre6 enc Try.prog Try.f10 Rows.brineRoomRow.domain false) (Rows.brineRoomSpec.post enc Try.prog Try.f10 false true false false) := by
  refine returnsInHanded_of_change (C := Try.checked) own started (by kernel_rfl) Try.func10
    (ChangeSpec.witness6 (enc := enc) (C := Try.checked) false ⟨#[], #[.slice none 0 0, .slice none 0 0, .int .i64 0, .int .i64 0, .int .u32 0], []⟩ 8 (by kernel_rfl) (by kernel_rfl) (by kernel_rfl) (by kernel_rfl)) ?_
  intro W base args ds gs before hval0 hW hcnd _
  have hval : ∀ (j : Nat) t v, Try.f10.params[j]? = some t → args[j]? = some v → Value.okWide Try.prog W .any base t v := hval0
  have hW' := hW
  obtain ⟨p, q, hA0, hV, rfl, hfz, hnd⟩ := hW
  have hA : DataW.TrodAll enc Try.prog W 0 (fun _ => true) true Try.f10.params.toList args.toList ds p := hA0
  rw [Try.params10] at hA hval
  obtain ⟨v0, vs0, d0, ds0, p0, q0, hargs, rfl, rfl, h0, r0⟩ := trodAll_cons hA
  obtain ⟨v1, vs1, d1, ds1, p1, q1, rfl, rfl, rfl, h1, r1⟩ := trodAll_cons r0
  obtain ⟨v2, vs2, d2, ds2, p2, q2, rfl, rfl, rfl, h2, r2⟩ := trodAll_cons r1
  obtain ⟨v3, vs3, d3, ds3, p3, q3, rfl, rfl, rfl, h3, r3⟩ := trodAll_cons r2
  obtain ⟨v4, vs4, d4, ds4, p4, q4, rfl, rfl, rfl, h4, r4⟩ := trodAll_cons r3
  obtain ⟨rfl, rfl, rfl⟩ := trodAll_nil r4
  obtain rfl : args = #[v0, v1, v2, v3, v4] := by cases args; simp_all
  obtain ⟨rfl, rfl⟩ := trodVars_none hV
  obtain ⟨n0, f0, e0, m0, t0⟩ := arg_row (s := [.int .i64]) Try.underlying42 (by kernel_rfl) (hval 0 42 v0 rfl rfl) h0
  obtain ⟨i0, b0⟩ := intK_of_typ (k := .i64) (c := 1) rfl t0
  obtain ⟨n1, f1, e1, m1, t1⟩ := arg_row (s := [.int .i64]) Try.underlying42 (by kernel_rfl) (hval 1 42 v1 rfl rfl) h1
  obtain ⟨i1, b1⟩ := intK_of_typ (k := .i64) (c := 1) rfl t1
  obtain ⟨x2, rfl, rfl, rfl, w2⟩ := open_int Try.underlying3 (hval 2 3 v2 rfl rfl) h2
  obtain ⟨x3, rfl, rfl, rfl, w3⟩ := open_int Try.underlying3 (hval 3 3 v3 rfl rfl) h3
  obtain ⟨x4, rfl, rfl, rfl, w4⟩ := open_int Try.underlying46 (hval 4 46 v4 rfl rfl) h4
  have hd : DenL Env.emp W [.row n0 1 f0, .row n1 1 f1, .int .i64 x2, .int .i64 x3, .int .u32 x4] [v0, v1, .int .i64 x2, .int .i64 x3, .int .u32 x4] := ⟨e0, e1, .int _ _, .int _ _, .int _ _, trivial⟩
  refine (law_calls brineRoom_base (args := [.row n0 1 f0, .row n1 1 f1, .int .i64 x2, .int .i64 x3, .int .u32 x4]) rfl ⟨⟨rfl, fun i j hi hj => i0 i j hi hj⟩, ⟨rfl, fun i j hi hj => i1 i j hi hj⟩, w4⟩ (denA_of hd)).mono fun e W' ⟨he, hb⟩ => ?_
  subst he
  exact ⟨_, rfl, law_end laid rfl Try.underlying4 (by kernel_rfl) rfl hW' rfl hb⟩
theorem over : Rows.brineRoomRow.holds Try.pinned (OpenSpec.ofChange Rows.brineRoomSpec) :=
  OpenClaim.holds_of_wide 10 Try.f10 rfl rfl rfl rfl rfl rfl rfl ⟨rfl, rfl, rfl, rfl, rfl⟩ rfl rfl rfl rfl rfl (by kernel_rfl) Try.func10 (by kernel_rfl)
    (of_decide_eq_true (by kernel_rfl)) (by unfold Func.isWrapper; first | (rw [if_pos (by decide +kernel)]; kernel_rfl) | (rw [if_neg (by decide +kernel)]; exact ⟨rfl, rfl⟩))
    (fun os started H enc _ => lifted os started H enc)
end Go.Proofs.Ytakbfbcfddcncaa.brineRoom
namespace Go.Proofs.Ytakbfbcfddcncaa
/-- The given statement. -/
theorem brineRoom_holds : Rows.BrineRoomSaid := brineRoom.over
#print axioms brineRoom_holds
end Go.Proofs.Ytakbfbcfddcncaa
end
