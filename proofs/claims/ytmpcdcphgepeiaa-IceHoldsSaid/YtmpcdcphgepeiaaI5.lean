/-
  A part of the symbolic machine, of its soundness, and of what functions compute. No condition.
-/
import Derived.Test.YtmpcdcphgepeiaaI4
set_option linter.unusedSimpArgs false
set_option linter.unusedVariables false
/- How long the ice keeps: the plain words. -/
section
namespace Go.Eng
def fstI (p : Nat → Bool) : Nat → Nat → Int
  | 0, _ => -1
  | c + 1, i => if p i = true then (i : Int) else fstI p c (i + 1)
theorem fstI_cons {p : Nat → Bool} {c i : Nat} (h : 0 < c) : fstI p c i = if p i = true then (i : Int) else fstI p (c - 1) (i + 1) := by
  cases c with
  | zero => omega
  | succ c => rfl
theorem fstI_range (p : Nat → Bool) : ∀ c i, fstI p c i = -1 ∨ ∃ k : Nat, fstI p c i = (k : Int) ∧ i ≤ k ∧ k < i + c ∧ p k = true ∧ ∀ j, i ≤ j → j < k → p j = false
  | 0, i => .inl rfl
  | c + 1, i => by
    unfold fstI
    split
    · rename_i h; exact .inr ⟨i, rfl, Nat.le_refl _, by omega, h, fun j h1 h2 => by omega⟩
    · rename_i h
      rcases fstI_range p c (i + 1) with h1 | ⟨k, h1, h2, h3, h4, h5⟩
      · exact .inl h1
      · exact .inr ⟨k, h1, by omega, by omega, h4, fun j h6 h7 => by
          rcases Nat.lt_or_ge i j with h8 | h8
          · exact h5 j h8 h7
          · obtain rfl : j = i := by omega
            simpa using h⟩
theorem fstI_none {p : Nat → Bool} : ∀ {c i}, fstI p c i = -1 → ∀ j, i ≤ j → j < i + c → p j = false
  | 0, i, _, j, h1, h2 => by omega
  | c + 1, i, h, j, h1, h2 => by
    unfold fstI at h
    split at h
    · omega
    · rename_i hp
      rcases Nat.lt_or_ge i j with h8 | h8
      · exact fstI_none h j h8 (by omega)
      · obtain rfl : j = i := by omega
        simpa using hp
def badP (least most : Int) (z : Nat → Nat → Int) : Nat → Bool := fun i => decide (z i 0 < least) || decide (most < z i 1)
def kRun (n m : Nat) (l : Nat → Nat → Int) (least most : Int) : Nat → Nat → (Nat → Nat → Int) → Int × Int × Int
  | 0, _, _ => (0, 0, 4)
  | c + 1, d, z => match evRun (n : Int) l m 0 ⟨z, fun _ => 0⟩ with
    | .inl q => (0, 0, q.2)
    | .inr y => if 0 ≤ fstI (badP least most y.z) n 0 then ((d : Int), fstI (badP least most y.z) n 0, 0) else kRun n m l least most c (d + 1) y.z
theorem kRun_cons {n m : Nat} {l : Nat → Nat → Int} {least most : Int} {c d : Nat} {z : Nat → Nat → Int} (h : 0 < c) : kRun n m l least most c d z = match evRun (n : Int) l m 0 ⟨z, fun _ => 0⟩ with
    | .inl q => (0, 0, q.2)
    | .inr y => if 0 ≤ fstI (badP least most y.z) n 0 then ((d : Int), fstI (badP least most y.z) n 0, 0) else kRun n m l least most (c - 1) (d + 1) y.z := by
  cases c with
  | zero => omega
  | succ c => rfl
def keepsO (n m : Nat) (z l : Nat → Nat → Int) (days least most : Int) : Int × Int × Int :=
  if rinkB n z = true then
    if in3 days 0 100 = true ∧ in3 most 0 20000 = true ∧ in3 least 0 most = true then
      if 0 < days ∧ 256 < m then (0, 0, 3) else kRun n m l least most days.toNat 0 z
    else (0, 0, 2)
  else (0, 0, 1)
def kTup (v : Int × Int × Int) : SV := .tup [.int .i64 v.1, .int .i64 v.2.1, .int .i64 v.2.2]
theorem zRun_shl (d : Nat → Int) (e : Nat → Int) : ∀ (c k : Nat) (x : PSt) (q : Int), zRun e c k x = .inl q → zRun e c k (addS d x) = .inl q
  | 0, k, x, q, h => by simp only [zRun] at h; cases h
  | c + 1, k, x, q, h => by
    simp only [zRun] at h ⊢
    split at h
    · rename_i h0
      rw [if_pos (show zErr e ((addS d x).z k) = 0 from h0), stepZ_sh]
      exact zRun_shl d e c (k + 1) _ q h
    · rename_i h0
      rw [if_neg (show ¬ zErr e ((addS d x).z k) = 0 from h0)]
      exact h
theorem evRun_shl (d : Nat → Int) (n : Int) (l : Nat → Nat → Int) : ∀ (c i : Nat) (x : PSt) (q : Nat × Int), evRun n l c i x = .inl q → evRun n l c i (addS d x) = .inl q
  | 0, i, x, q, h => by simp only [evRun] at h; cases h
  | c + 1, i, x, q, h => by
    simp only [evRun] at h ⊢
    split at h
    · rename_i h0
      rw [if_pos h0]
      split at h
      · rename_i e hx
        cases h
        rw [zRun_shl d _ _ _ _ _ hx]
      · rename_i x' hx
        rw [zRun_sh d _ _ _ _ _ hx]
        exact evRun_shl d n l c (i + 1) x' q h
    · rename_i h0
      rw [if_neg h0]
      exact h
/-- What was summed before makes no difference. -/
theorem evRun_any {n : Int} {l : Nat → Nat → Int} {c i : Nat} (x : PSt) : (∃ q, evRun n l c i ⟨x.z, fun _ => 0⟩ = .inl q ∧ evRun n l c i x = .inl q) ∨ ∃ y, evRun n l c i ⟨x.z, fun _ => 0⟩ = .inr y ∧ evRun n l c i x = .inr (addS x.s y) := by
  have e : addS x.s ⟨x.z, fun _ => 0⟩ = x := by
    obtain ⟨z, s⟩ := x
    simp only [addS]
    congr 1
    funext j
    omega
  cases h : evRun n l c i ⟨x.z, fun _ => 0⟩ with
  | inl q => exact .inl ⟨q, rfl, by have := evRun_shl x.s n l c i _ q h; rw [e] at this; exact this⟩
  | inr y => exact .inr ⟨y, rfl, by have := evRun_sh x.s n l c i _ y h; rw [e] at this; exact this⟩
end Go.Eng
end

/- rink.play, called from Keeps: the program's. -/
section
namespace Go.Eng
open Go Go.RowKit Go.Proofs
set_option maxRecDepth 100000
set_option maxHeartbeats 4000000
attribute [local irreducible] OwnT DefS
/-- What rink.play does, where it is called from K. -/
def plKK (n m ver : Nat) (x : PSt) (l : Nat → Nat → Int) (least most : Int) (o : Out) (h' : HS) : Prop :=
  match evRun (n : Int) l m 0 x with
  | .inr y => o = .ret (.tup [.int .i64 m, .int .i64 0]) ∧ h' = ⟨[.live 3 [.int .i64 least], .live 3 [.int .i64 most], .live 96 [.vec 0 ver, .int .i64 (y.s 0), .int .i64 (y.s 1), .int .i64 (y.s 2), .int .i64 (y.s 3), .int .i64 (y.s 4), .int .i64 (y.s 5)]], [.live ver 93 4 n fun i j => .int .i64 (y.z i j)]⟩
  | .inl (i, e) => o = .ret (.tup [.int .i64 i, .int .i64 e]) ∧ h' = ⟨[.live 3 [.int .i64 least], .live 3 [.int .i64 most], .dead], [.dead]⟩
def plKJ (n m ver : Nat) (x : PSt) (l : Nat → Nat → Int) (least most : Int) (o : Out) (h' : HS) : Prop :=
  match evRun (n : Int) l m 0 x with
  | .inr y => o = .ret (.tup [.int .i64 m, .int .i64 0]) ∧ ∃ tr : List Blk, h' = ⟨.live 3 [.int .i64 least] :: .live 3 [.int .i64 most] :: .live 96 [.vec 0 ver, .int .i64 (y.s 0), .int .i64 (y.s 1), .int .i64 (y.s 2), .int .i64 (y.s 3), .int .i64 (y.s 4), .int .i64 (y.s 5)] :: tr, [.live ver 93 4 n fun i j => .int .i64 (y.z i j)]⟩
  | .inl (i, e) => o = .ret (.tup [.int .i64 i, .int .i64 e]) ∧ ∃ (c : List SV) (f : Nat → Nat → SV) (tr : List Blk), h' = ⟨.live 3 [.int .i64 least] :: .live 3 [.int .i64 most] :: .live 96 c :: tr, [.live ver 93 4 n f]⟩
theorem plK (n m ver : Nat) (x : PSt) (l : Nat → Nat → Int) (least most : Int) (hn : 1 ≤ n ∧ n ≤ 24) (hm : m ≤ 256) (hx : AllOk n x) (b : Int) (hb : 0 ≤ b ∧ b ≤ 100000000000) (hs : SumB b x) :
    CallsS Try.prog 52 [.ptr 2 0, .row m 5 (fun i j => .int .i64 (l i j))] ⟨[.live 3 [.int .i64 least], .live 3 [.int .i64 most], .live 96 [.vec 0 ver, .int .i64 (x.s 0), .int .i64 (x.s 1), .int .i64 (x.s 2), .int .i64 (x.s 3), .int .i64 (x.s 4), .int .i64 (x.s 5)]], [.live ver 93 4 n fun i j => .int .i64 (x.z i j)]⟩ (plKK n m ver x l least most) := by
  refine calls_trim (K := plKJ n m ver x l least most) (calls_of_defer (C := cx [] [] [(39, inBase), (38, validBase), (44, lessBase), (45, moreBase), (90, takenBase)] [(52, 11, p52_11), (71, 1, p71_1), (81, 1, p81_1), (81, 2, p81_2), (82, 1, p82_1), (83, 1, p83_1), (83, 2, p83_2), (84, 1, p84_1), (85, 1, p85_1), (85, 2, p85_2)] (some [4, 5])) (cx_ok trivial ⟨in2_base, valid_base, less_base, more_base, taken_base, trivial⟩) (g := 52) (fn := Try.f52) fn_52 rfl rfl 1000 1000 ?_) ?_
  rotate_left
  · intro o h' hk
    unfold plKJ at hk
    unfold plKK
    split at hk
    · rename_i y hy
      obtain ⟨rfl, tr, rfl⟩ := hk
      exact ⟨_, _, _, ⟨rfl, ⟨rfl, rfl⟩⟩, by constructor <;> simp only [go_sem, ↓reduceIte, Nat.reduceAdd, Nat.reduceSub, Nat.reduceMul, Nat.reduceEqDiff, Nat.reduceLT, Nat.reduceLeDiff, Int.reduceToNat, Int.reduceLE, Int.reduceLT, Int.reduceEq, Int.reduceNeg, reduceCtorEq] <;> (try simp), by simp [lenB], by simp [lenV]⟩
    · rename_i i e hy
      obtain ⟨rfl, c, f, tr, rfl⟩ := hk
      exact ⟨_, _, _, ⟨rfl, ⟨rfl, rfl⟩⟩, by constructor <;> simp only [go_sem, ↓reduceIte, Nat.reduceAdd, Nat.reduceSub, Nat.reduceMul, Nat.reduceEqDiff, Nat.reduceLT, Nat.reduceLeDiff, Int.reduceToNat, Int.reduceLE, Int.reduceLT, Int.reduceEq, Int.reduceNeg, reduceCtorEq] <;> (try simp), by simp [lenB], by simp [lenV]⟩
  · simp only [in_eq, valid_eq, less_eq, more_eq, taken_eq, Try.f52, Try.f69, Try.f70, Try.f71, Try.f53, Try.f72, Try.f81, Try.f82, Try.f83, Try.f84, Try.f85, Try.f86, p52_11, p71_1, p81_1, p81_2, p82_1, p83_1, p83_2, p84_1, p85_1, p85_2, go_sem, ↓reduceIte, Nat.reduceAdd, Nat.reduceSub, Nat.reduceMul, Nat.reduceEqDiff, Nat.reduceLT, Nat.reduceLeDiff, Int.reduceToNat, Int.reduceLE, Int.reduceLT, Int.reduceEq, Int.reduceNeg, reduceCtorEq]
    refine loop_of { q : Nat × PSt // q.1 ≤ m ∧ AllOk n q.2 ∧ SumB (b + 480000 * q.1) q.2 ∧ evRun (n : Int) l (m - q.1) q.1 q.2 = evRun (n : Int) l m 0 x }
      (fun q => [(15, .int .i64 (q.1.1 : Int)), (14, .int .i64 m), (13, .row m 5 fun i j => .int .i64 (l i j)), (6, .ptr 6 0), (5, .ptr 3 0), (4, .int .i64 (q.1.1 : Int)), (0, .ptr 2 0)])
      (fun q => ⟨[.live 3 [.int .i64 least], .live 3 [.int .i64 most], .live 96 [.vec 0 ver, .int .i64 (q.1.2.s 0), .int .i64 (q.1.2.s 1), .int .i64 (q.1.2.s 2), .int .i64 (q.1.2.s 3), .int .i64 (q.1.2.s 4), .int .i64 (q.1.2.s 5)], .live 26 [.int .i64 0], .live 85 [.ptr 2 0], .live 112 [.func 81 [.ptr 4 0], .func 82 [.ptr 4 0], .func 84 [.ptr 4 0], .func 85 [], .func 86 []], .live 112 [.func 81 [.ptr 4 0], .func 82 [.ptr 4 0], .func 84 [.ptr 4 0], .func 85 [], .func 86 []]], [.live ver 93 4 n fun i j => .int .i64 (q.1.2.z i j)]⟩)
      (fun q => m - q.1.1) (fun _ => ⟨rfl, rfl⟩) ⟨(0, x), by omega, hx, by simpa using hs, rfl⟩ (by (apply sub_of <;> simp only [go_sem, ↓reduceIte, Nat.reduceAdd, Nat.reduceSub, Nat.reduceMul, Nat.reduceEqDiff, Nat.reduceLT, Nat.reduceLeDiff, Int.reduceToNat, Int.reduceLE, Int.reduceLT, Int.reduceEq, Int.reduceNeg, reduceCtorEq] <;> (try simp [catF]))) ?_
    rintro ⟨⟨i, y⟩, hi, hok, hsum, hrun⟩
    simp only [] at hi hok hsum hrun
    simp only [in_eq, valid_eq, less_eq, more_eq, taken_eq, Try.f52, Try.f69, Try.f70, Try.f71, Try.f53, Try.f72, Try.f81, Try.f82, Try.f83, Try.f84, Try.f85, Try.f86, p52_11, p71_1, p81_1, p81_2, p82_1, p83_1, p83_2, p84_1, p85_1, p85_2, go_sem, ↓reduceIte, Nat.reduceAdd, Nat.reduceSub, Nat.reduceMul, Nat.reduceEqDiff, Nat.reduceLT, Nat.reduceLeDiff, Int.reduceToNat, Int.reduceLE, Int.reduceLT, Int.reduceEq, Int.reduceNeg, reduceCtorEq]
    have hwn : IntKind.i64.wrap ((n : Int) - 1) = (n : Int) - 1 := wrap_id (by omega) (by omega)
    simp only [hwn]
    repeat' (first | refine And.intro ?_ ?_ | intro _)
    all_goals try (first | (show planOk _ _ = true; kernel_rfl) | (show keepOk _ _ = true; kernel_rfl) | trivial)
    all_goals try (simp only [decide_eq_true_eq, decide_eq_false_iff_not, Bool.not_eq_true', Bool.not_eq_false'] at *; omega)
    all_goals simp only [decide_eq_true_eq, decide_eq_false_iff_not, Bool.not_eq_true', Bool.not_eq_false', ← Bool.not_eq_true, in3_iff, sp3_iff, not_and, Int.not_le] at *
    all_goals try omega
    all_goals first
      | (have hf : ¬ (evOk (n : Int) (l i) = true) := by
           intro hc
           have h1 := evOk_iff.1 hc
           unfold toOf EvB at h1
           split at h1 <;> omega
         refine defS_mono (def68_some _ 3 1 0 rfl) ?_
         rintro p' h' ⟨rfl, rfl⟩
         simp only [go_sem, ↓reduceIte, Nat.reduceAdd, Nat.reduceSub, Nat.reduceMul, Nat.reduceEqDiff, Nat.reduceLT, Nat.reduceLeDiff, Int.reduceToNat, Int.reduceLE, Int.reduceLT, Int.reduceEq, Int.reduceNeg, reduceCtorEq]
         have e1 : evRun (n : Int) l m 0 x = .inl (i, 1) := by
           rw [← hrun, evRun_cons (by omega), if_neg hf]
         unfold plKJ
         rw [e1]
         exact ⟨rfl, _, _, _, rfl⟩)
      | (refine defS_mono (def68_none _ 3) ?_
         rintro p' h' ⟨rfl, rfl⟩
         simp only [go_sem, ↓reduceIte, Nat.reduceAdd, Nat.reduceSub, Nat.reduceMul, Nat.reduceEqDiff, Nat.reduceLT, Nat.reduceLeDiff, Int.reduceToNat, Int.reduceLE, Int.reduceLT, Int.reduceEq, Int.reduceNeg, reduceCtorEq]
         have e0 : m - i = 0 := by omega
         have e1 : evRun (n : Int) l m 0 x = .inr y := by rw [← hrun, e0]; rfl
         have e2 : i = m := by omega
         subst e2
         unfold plKJ
         rw [e1]
         exact ⟨rfl, _, rfl⟩)
      | skip
    all_goals
      have hev : evOk (n : Int) (l i) = true := by
        refine evOk_iff.2 ?_
        unfold toOf EvB
        split <;> omega
      obtain ⟨⟨a1, a2, a3⟩, hEv⟩ := evOk_iff.1 hev
      have hfr : ((l i 1).toNat : Int) = l i 1 := by omega
      have hto : toOf (l i) = if l i 0 = 3 then l i 1 else l i 2 := rfl
      refine loop_ofH { r : Nat × PSt // (l i 1).toNat ≤ r.1 ∧ (r.1 : Int) ≤ toOf (l i) + 1 ∧ AllOk n r.2 ∧ SumB (b + 480000 * i + 20000 * (r.1 - l i 1)) r.2 ∧ zRun (l i) (toOf (l i) + 1 - r.1).toNat r.1 r.2 = zRun (l i) (toOf (l i) - l i 1 + 1).toNat (l i 1).toNat y }
        (fun r => [(5, .int .i64 (r.1.1 : Int)), (3, .ptr 9 0), (2, .ptr 11 0), (1, .ptr 10 0), (0, .yield 12)])
        (fun h r => ⟨[.live 3 [.int .i64 least], .live 3 [.int .i64 most], .live 96 [.vec 0 ver, .int .i64 (r.1.2.s 0), .int .i64 (r.1.2.s 1), .int .i64 (r.1.2.s 2), .int .i64 (r.1.2.s 3), .int .i64 (r.1.2.s 4), .int .i64 (r.1.2.s 5)], .live 26 [.int .i64 0], .live 85 [.ptr 2 0], .live 112 [.func 81 [.ptr 4 0], .func 82 [.ptr 4 0], .func 84 [.ptr 4 0], .func 85 [], .func 86 []], .live 112 [.func 81 [.ptr 4 0], .func 82 [.ptr 4 0], .func 84 [.ptr 4 0], .func 85 [], .func 86 []], .live 41 [.int .i64 (l i 0), .int .i64 (l i 1), .int .i64 (toOf (l i)), .int .i64 (l i 3), .int .i64 (l i 4)], .dead, .live 85 [.ptr 2 0], .live 3 [.int .i64 (l i 1)], .live 3 [.int .i64 (toOf (l i))], getB h.blks 12], [.live ver 93 4 n fun i j => .int .i64 (r.1.2.z i j)]⟩)
        (fun r => (toOf (l i) + 1 - r.1.1).toNat) (fun _ => ⟨rfl, rfl⟩) ⟨((l i 1).toNat, y), by omega, by omega, hok, by simpa [hfr] using hsum, by rw [hfr]; congr 1; omega⟩ (by apply sub_of <;> simp only [go_sem, ↓reduceIte, Nat.reduceAdd, Nat.reduceSub, Nat.reduceMul, Nat.reduceEqDiff, Nat.reduceLT, Nat.reduceLeDiff, Int.reduceToNat, Int.reduceLE, Int.reduceLT, Int.reduceEq, Int.reduceNeg, reduceCtorEq] <;> (try simp [hto, hfr, *]) <;> (try (refine bd_setL ?_; simp only [go_sem, ↓reduceIte, Nat.reduceAdd, Nat.reduceSub, Nat.reduceMul, Nat.reduceEqDiff, Nat.reduceLT, Nat.reduceLeDiff, Int.reduceToNat, Int.reduceLE, Int.reduceLT, Int.reduceEq, Int.reduceNeg, reduceCtorEq]; try simp))) ?_
      rintro ⟨⟨k, w⟩, hk1, hk2, hwok, hwsum, hwrun⟩
      simp only [] at hk1 hk2 hwok hwsum hwrun
      have hkind : l i 0 = 0 ∨ l i 0 = 1 ∨ l i 0 = 2 ∨ l i 0 = 3 ∨ l i 0 = 4 := by omega
      rcases hkind with hk | hk | hk | hk | hk <;> (try (exfalso; omega))
    all_goals
      simp only [hk, in_eq, valid_eq, less_eq, more_eq, taken_eq, Try.f52, Try.f69, Try.f70, Try.f71, Try.f53, Try.f72, Try.f81, Try.f82, Try.f83, Try.f84, Try.f85, Try.f86, p52_11, p71_1, p81_1, p81_2, p82_1, p83_1, p83_2, p84_1, p85_1, p85_2, go_sem, ↓reduceIte, Nat.reduceAdd, Nat.reduceSub, Nat.reduceMul, Nat.reduceEqDiff, Nat.reduceLT, Nat.reduceLeDiff, Int.reduceToNat, Int.reduceLE, Int.reduceLT, Int.reduceEq, Int.reduceNeg, reduceCtorEq]
      have hev2 : evRun (n : Int) l (m - i) i y = _ := evRun_cons (by omega)
      rw [if_pos hev] at hev2
      refine ⟨fun d1 => ?_, fun d1 => ?_⟩
      · simp only [decide_eq_true_eq] at d1
        have hkn : k < n := by omega
        have hz := hwok k hkn
        have hzr := zRun_cons (e := l i) (c := (toOf (l i) + 1 - (k : Int)).toNat) (k := k) (x := w) (by omega)
        have hzz := okZ_iff.1 hz
        have hE1 := hEv.2
        have hst : ∀ j, (stepZ (l i) k w).s j = w.s j + dS (l i) (w.z k) j := fun _ => rfl
        have hwv : ∀ v j, 0 ≤ v → v ≤ 20000 → IntKind.i64.wrap (w.s j + v) = w.s j + v := fun v j h1 h2 => by
          have := hwsum j
          exact wrap_id (by omega) (by omega)
        have hw2 : IntKind.i64.wrap ((k : Int) + 1) = ((k + 1 : Nat) : Int) := by rw [wrap_id (by omega) (by omega)]; omega
        repeat' (first | refine And.intro ?_ ?_ | intro _)
        all_goals try (first | (show planOk _ _ = true; kernel_rfl) | (show keepOk _ _ = true; kernel_rfl) | trivial)
        all_goals try omega
        all_goals try (rename_i f1; simp only [Bool.not_eq_true', Bool.not_eq_false', decide_eq_true_eq, decide_eq_false_iff_not] at f1)
        all_goals first
          | (have hze : zErr (l i) (w.z k) = 6 := by
               unfold zErr dErr
               rw [hk]
               try rw [wrap_id (by omega) (by omega)] at f1
               simp
               omega
             refine defS_mono (def68_some _ 3 6 0 rfl) ?_
             rintro p' h' ⟨rfl, rfl⟩
             simp only [go_sem, ↓reduceIte, Nat.reduceAdd, Nat.reduceSub, Nat.reduceMul, Nat.reduceEqDiff, Nat.reduceLT, Nat.reduceLeDiff, Int.reduceToNat, Int.reduceLE, Int.reduceLT, Int.reduceEq, Int.reduceNeg, reduceCtorEq]
             have e1 : evRun (n : Int) l m 0 x = .inl (i, 6) := by
               rw [← hrun, hev2, ← hwrun, hzr, hze]; rfl
             unfold plKJ
             rw [e1]
             exact ⟨rfl, _, _, _, rfl⟩)
          | (have hze : zErr (l i) (w.z k) = 12 := by
               unfold zErr dErr
               rw [hk]
               try rw [wrap_id (by omega) (by omega)] at f1
               simp
               omega
             refine defS_mono (def68_some _ 3 12 0 rfl) ?_
             rintro p' h' ⟨rfl, rfl⟩
             simp only [go_sem, ↓reduceIte, Nat.reduceAdd, Nat.reduceSub, Nat.reduceMul, Nat.reduceEqDiff, Nat.reduceLT, Nat.reduceLeDiff, Int.reduceToNat, Int.reduceLE, Int.reduceLT, Int.reduceEq, Int.reduceNeg, reduceCtorEq]
             have e1 : evRun (n : Int) l m 0 x = .inl (i, 12) := by
               rw [← hrun, hev2, ← hwrun, hzr, hze]; rfl
             unfold plKJ
             rw [e1]
             exact ⟨rfl, _, _, _, rfl⟩)
          | (have h0 : zErr (l i) (w.z k) = 0 := by
               unfold zErr dErr
               rw [hk]
               try rw [wrap_id (by omega) (by omega)] at f1
               simp
               try omega
             rw [if_pos h0] at hzr
             refine ⟨⟨(k + 1, stepZ (l i) k w), by simp only []; omega, by simp only []; omega, step_ok hEv hwok hkn h0, ?_, ?_⟩, by simp only []; omega, ?_⟩
             · have := step_sum hEv hwok hkn hwsum
               intro j; have := this j; simp only []; omega
             · simp only []; rw [← hwrun, hzr]; congr 1; omega
             · apply sub_of <;> simp only [hw2, hst, dS, hk, go_sem, ↓reduceIte, Nat.reduceAdd, Nat.reduceSub, Nat.reduceMul, Nat.reduceEqDiff, Nat.reduceLT, Nat.reduceLeDiff, Int.reduceToNat, Int.reduceLE, Int.reduceLT, Int.reduceEq, Int.reduceNeg, reduceCtorEq] <;> (try simp)
               all_goals first
                 | exact ⟨hwv _ _ (by omega) (by omega), hwv _ _ (by omega) (by omega)⟩
                 | (refine bd_setL ?_
                    simp only [go_sem, ↓reduceIte, Nat.reduceAdd, Nat.reduceSub, Nat.reduceMul, Nat.reduceEqDiff, Nat.reduceLT, Nat.reduceLeDiff, Int.reduceToNat, Int.reduceLE, Int.reduceLT, Int.reduceEq, Int.reduceNeg, reduceCtorEq]
                    simp; done)
                 | (intro a c ha hc
                    by_cases hak : a = k
                    · subst hak
                      have hc4 : c = 0 ∨ c = 1 ∨ c = 2 ∨ c = 3 := by omega
                      rcases hc4 with rfl | rfl | rfl | rfl <;> simp [stepZ, dZ, dA, dB, hk, nth] <;> (try (rw [wrap_id (by omega) (by omega)]))
                    · simp [stepZ, hak]))
      · simp only [decide_eq_false_iff_not] at d1
        have e0 : (toOf (l i) + 1 - (k : Int)).toNat = 0 := by omega
        rw [e0, zRun] at hwrun
        rw [← hwrun] at hev2
        have hw2 : IntKind.i64.wrap ((i : Int) + 1) = ((i + 1 : Nat) : Int) := by rw [wrap_id (by omega) (by omega)]; omega
        refine ⟨⟨(i + 1, w), by simp only []; omega, hwok, fun j => by have := hwsum j; simp only []; omega, ?_⟩, by simp only []; omega, ?_⟩
        · simp only []; rw [← hrun, hev2]; congr 1
        · apply sub_of <;> simp only [hw2, go_sem, ↓reduceIte, Nat.reduceAdd, Nat.reduceSub, Nat.reduceMul, Nat.reduceEqDiff, Nat.reduceLT, Nat.reduceLeDiff, Int.reduceToNat, Int.reduceLE, Int.reduceLT, Int.reduceEq, Int.reduceNeg, reduceCtorEq] <;> (try simp)
end Go.Eng
end

/- ice.Keeps and its twin. -/
section
namespace Go.Eng
open Go Go.RowKit Go.Proofs
set_option maxRecDepth 100000
set_option maxHeartbeats 4000000
attribute [local irreducible] OwnT DefS
def keepsBase : BaseF := fun args => match args with
  | [.row n sz_z f_z, .row m sz_l f_l, .int .i64 days, .int .i64 least, .int .i64 most] => some ((sz_z = 4 ∧ IntR n 4 f_z) ∧ (sz_l = 5 ∧ IntR m 5 f_l), kTup (keepsO n m (fun i j => iv (f_z i j)) (fun i j => iv (f_l i j)) days least most))
  | _ => none
theorem keeps_eq (n : Nat) (z : Nat → Nat → Int) (m : Nat) (l : Nat → Nat → Int) (days : Int) (least : Int) (most : Int) : keepsBase [.row n 4 (fun i j => .int .i64 (z i j)), .row m 5 (fun i j => .int .i64 (l i j)), .int .i64 days, .int .i64 least, .int .i64 most] = some ((4 = 4 ∧ IntR n 4 (fun i j => .int .i64 (z i j))) ∧ (5 = 5 ∧ IntR m 5 (fun i j => .int .i64 (l i j))), kTup (keepsO n m z l days least most)) := rfl
theorem keeps_base : Base Try.prog 32 keepsBase := by
  intro args p v hq hp
  unfold keepsBase at hq
  split at hq
  rotate_left
  · cases hq
  rename_i n sz_z f_z m sz_l f_l days least most
  cases hq
  obtain ⟨⟨rfl, i_z⟩, ⟨rfl, i_l⟩⟩ := hp
  refine base_of (C := cx [52] [] [(37, rinkBase), (39, inBase), (40, boundBase)] [] none) (cx_ok trivial ⟨isRink_base, in2_base, bound_base, trivial⟩) rfl (g := 32) (fn := Try.f32)
    (args' := [.row n 4 (rowF .i64 (fun i j => iv (f_z i j))), .row m 5 (rowF .i64 (fun i j => iv (f_l i j))), .int .i64 days, .int .i64 least, .int .i64 most]) (fn_32) rfl 1000 (by simp only [BdL, Bd, and_self, and_true, true_and]; exact ⟨fun i j hi hj => by rw [i_z i j hi hj]; trivial, fun i j hi hj => by rw [i_l i j hi hj]; trivial⟩) ⟨SameD.int i_z, SameD.int i_l, SameD.rfl' _, SameD.rfl' _, SameD.rfl' _, trivial⟩ ?_
  generalize (fun i j => iv (f_z i j)) = z
  generalize (fun i j => iv (f_l i j)) = l
  simp only [rowF_eq]
  simp only [rink_eq, in_eq, bound_eq, kTup, Try.f51, Try.f55, Try.f56, Try.f32, go_sem, ↓reduceIte, Nat.reduceAdd, Nat.reduceSub, Nat.reduceMul, Nat.reduceEqDiff, Nat.reduceLT, Nat.reduceLeDiff, Int.reduceToNat, Int.reduceLE, Int.reduceLT, Int.reduceEq, Int.reduceNeg, reduceCtorEq]
  refine ⟨fun c1 => ?_, fun c1 => ⟨fun c2 => ?_, fun c2 => ⟨fun c3 => ?_, fun c3 => ?_⟩⟩⟩
  · rw [show keepsO n m z l days least most = (0, 0, 1) by simp at c1; simp [keepsO, c1]]
  · rw [show keepsO n m z l days least most = (0, 0, 2) by simp at c1 c2; simp [keepsO, c1, c2]]
  · rw [show keepsO n m z l days least most = (0, 0, 2) by
      simp only [Bool.not_eq_false'] at c1 c2
      simp only [Bool.not_eq_true', Bool.and_eq_false_iff] at c3
      unfold keepsO
      rw [if_pos c1, if_neg]
      rintro ⟨h1, h2, h3⟩
      rw [h2, h3] at c3
      simp at c3]
  simp only [Bool.not_eq_false', Bool.and_eq_true] at c1 c2 c3
  have hb := rinkB_iff.1 c1
  have hd := in3_iff.1 c2
  have hK : (days ≤ 0 ∨ m ≤ 256) → keepsO n m z l days least most = kRun n m l least most days.toNat 0 z := fun h => by
    unfold keepsO
    rw [if_pos c1, if_pos ⟨c2, c3.1, c3.2⟩, if_neg (by omega)]
  have hn3 : 0 < days → 256 < m → keepsO n m z l days least most = (0, 0, 3) := fun h h' => by
    unfold keepsO
    rw [if_pos c1, if_pos ⟨c2, c3.1, c3.2⟩, if_pos ⟨h, h'⟩]
  refine ⟨fun c4 => ⟨fun c5 => ?_, fun c5 => ?_⟩, fun c4 => ?_⟩
  · simp only [decide_eq_true_eq] at c4 c5
    rw [hn3 c4 (by omega)]
  all_goals
    have hdm : days ≤ 0 ∨ m ≤ 256 := by simp only [decide_eq_true_eq, decide_eq_false_iff_not] at *; omega
    rw [hK hdm]
    refine loop_of { i : Nat // i ≤ n }
      (fun i => [(8, .int .i64 (i.1 : Int)), (7, .int .i64 (n : Int)), (6, .row n 4 fun i j => .int .i64 (z i j)), (3, .ptr 2 0)])
      (fun i => ⟨[.live 3 [.int .i64 least], .live 3 [.int .i64 most], .live 96 [.vec 0 i.1, .int .i64 0, .int .i64 0, .int .i64 0, .int .i64 0, .int .i64 0, .int .i64 0]],
         [.live i.1 93 4 i.1 fun i j => .int .i64 (z i j)]⟩) (fun i => n - i.1) (fun _ => ⟨rfl, rfl⟩) ⟨0, by omega⟩ (by (apply sub_of <;> simp only [go_sem, ↓reduceIte, Nat.reduceAdd, Nat.reduceSub, Nat.reduceMul, Nat.reduceEqDiff, Nat.reduceLT, Nat.reduceLeDiff, Int.reduceToNat, Int.reduceLE, Int.reduceLT, Int.reduceEq, Int.reduceNeg, reduceCtorEq] <;> (try simp [catF]))) ?_
    rintro ⟨i, hi⟩
    simp only [rink_eq, in_eq, bound_eq, kTup, Try.f51, Try.f55, Try.f56, Try.f32, go_sem, ↓reduceIte, Nat.reduceAdd, Nat.reduceSub, Nat.reduceMul, Nat.reduceEqDiff, Nat.reduceLT, Nat.reduceLeDiff, Int.reduceToNat, Int.reduceLE, Int.reduceLT, Int.reduceEq, Int.reduceNeg, reduceCtorEq]
    refine ⟨fun d1 => ⟨⟨by omega, by simpa using d1⟩, ⟨by simp at d1; omega, by simp at d1; omega⟩, ⟨⟨i + 1, by simp at d1; omega⟩, by simp at d1; simp only []; omega, ?_⟩⟩, fun d1 => ?_⟩
    · simp at d1
      have hw2 : IntKind.i64.wrap ((i : Int) + 1) = ((i + 1 : Nat) : Int) := by rw [wrap_id (by omega) (by omega)]; omega
      apply sub_of <;> simp only [hw2, go_sem, ↓reduceIte, Nat.reduceAdd, Nat.reduceSub, Nat.reduceMul, Nat.reduceEqDiff, Nat.reduceLT, Nat.reduceLeDiff, Int.reduceToNat, Int.reduceLE, Int.reduceLT, Int.reduceEq, Int.reduceNeg, reduceCtorEq] <;> (try simp)
      exact fun a c ha hc => row_snoc ha hc
    · simp at d1
      have e : i = n := by omega
      subst e
      refine loop_of { q : Nat × PSt // q.1 ≤ days.toNat ∧ AllOk i q.2 ∧ SumB (122880000 * q.1) q.2 ∧ kRun i m l least most (days.toNat - q.1) q.1 q.2.z = kRun i m l least most days.toNat 0 z }
        (fun q => [(43, .int .i64 (q.1.1 : Int)), (42, .int .i64 days), (13, .ptr 2 0), (9, .ptr 1 0), (8, .ptr 0 0), (1, .row m 5 fun i j => .int .i64 (l i j))])
        (fun q => ⟨[.live 3 [.int .i64 least], .live 3 [.int .i64 most], .live 96 [.vec 0 i, .int .i64 (q.1.2.s 0), .int .i64 (q.1.2.s 1), .int .i64 (q.1.2.s 2), .int .i64 (q.1.2.s 3), .int .i64 (q.1.2.s 4), .int .i64 (q.1.2.s 5)]],
          [.live i 93 4 i fun i j => .int .i64 (q.1.2.z i j)]⟩) (fun q => days.toNat - q.1.1) (fun _ => ⟨rfl, rfl⟩) ⟨(0, ⟨z, fun _ => 0⟩), by omega, hb.2, (fun j => by simp), rfl⟩ (by (apply sub_of <;> simp only [go_sem, ↓reduceIte, Nat.reduceAdd, Nat.reduceSub, Nat.reduceMul, Nat.reduceEqDiff, Nat.reduceLT, Nat.reduceLeDiff, Int.reduceToNat, Int.reduceLE, Int.reduceLT, Int.reduceEq, Int.reduceNeg, reduceCtorEq] <;> (try simp [catF]))) ?_
      rintro ⟨⟨d, x⟩, hdl, hok, hsum, hrun⟩
      simp only [] at hdl hok hsum hrun
      simp only [rink_eq, in_eq, bound_eq, kTup, Try.f51, Try.f55, Try.f56, Try.f32, go_sem, ↓reduceIte, Nat.reduceAdd, Nat.reduceSub, Nat.reduceMul, Nat.reduceEqDiff, Nat.reduceLT, Nat.reduceLeDiff, Int.reduceToNat, Int.reduceLE, Int.reduceLT, Int.reduceEq, Int.reduceNeg, reduceCtorEq]
      refine ⟨fun d2 => ?_, fun d2 => ?_⟩
      · simp only [decide_eq_true_eq] at d2
        unfold callS
        refine calls_mono ?_ (plK i m i x l least most hb.1 (by omega) hok (122880000 * d) (by omega) hsum)
        intro o h' hk
        unfold plKK at hk
        rw [kRun_cons (by omega)] at hrun
        rcases evRun_any (n := (i : Int)) (l := l) (c := m) (i := 0) x with ⟨q, q1, q2⟩ | ⟨y, q1, q2⟩
        · rw [q2] at hk
          rw [q1] at hrun
          obtain ⟨rfl, rfl⟩ := hk
          have hq := evRun_err q2
          simp only [] at hrun
          simp only [rink_eq, in_eq, bound_eq, kTup, Try.f51, Try.f55, Try.f56, Try.f32, go_sem, ↓reduceIte, Nat.reduceAdd, Nat.reduceSub, Nat.reduceMul, Nat.reduceEqDiff, Nat.reduceLT, Nat.reduceLeDiff, Int.reduceToNat, Int.reduceLE, Int.reduceLT, Int.reduceEq, Int.reduceNeg, reduceCtorEq]
          exact ⟨fun _ => by rw [← hrun], fun h => absurd (by simpa using h) hq⟩
        · rw [q2] at hk
          rw [q1] at hrun
          have hwz : (addS x.s y).z = y.z := rfl
          generalize addS x.s y = w at *
          simp only [← hwz] at hrun
          obtain ⟨rfl, rfl⟩ := hk
          have hnm : 20000 * (i : Int) * (m : Int) ≤ 20000 * 24 * 256 := Int.mul_le_mul (by omega) (by omega) (by omega) (by omega)
          obtain ⟨hok2, hsum2⟩ := evRun_inv m 0 x w (122880000 * d) hok hsum q2
          simp only [rink_eq, in_eq, bound_eq, kTup, Try.f51, Try.f55, Try.f56, Try.f32, go_sem, ↓reduceIte, Nat.reduceAdd, Nat.reduceSub, Nat.reduceMul, Nat.reduceEqDiff, Nat.reduceLT, Nat.reduceLeDiff, Int.reduceToNat, Int.reduceLE, Int.reduceLT, Int.reduceEq, Int.reduceNeg, reduceCtorEq]
          refine loop_of { a : Nat // a ≤ i ∧ fstI (badP least most w.z) (i - a) a = fstI (badP least most w.z) i 0 }
            (fun a => [(8, .int .i64 (a.1 : Int)), (7, .int .i64 (i : Int)), (6, .vec 0 i), (1, .func 56 [.ptr 0 0, .ptr 1 0]), (0, .vec 0 i)])
            (fun _ => ⟨[.live 3 [.int .i64 least], .live 3 [.int .i64 most], .live 96 [.vec 0 i, .int .i64 (w.s 0), .int .i64 (w.s 1), .int .i64 (w.s 2), .int .i64 (w.s 3), .int .i64 (w.s 4), .int .i64 (w.s 5)]],
              [.live i 93 4 i fun i j => .int .i64 (w.z i j)]⟩) (fun a => i - a.1) (fun _ => ⟨rfl, rfl⟩) ⟨0, by omega, rfl⟩ (by (apply sub_of <;> simp only [go_sem, ↓reduceIte, Nat.reduceAdd, Nat.reduceSub, Nat.reduceMul, Nat.reduceEqDiff, Nat.reduceLT, Nat.reduceLeDiff, Int.reduceToNat, Int.reduceLE, Int.reduceLT, Int.reduceEq, Int.reduceNeg, reduceCtorEq] <;> (try simp [catF]))) ?_
          rintro ⟨a, ha, hfa⟩
          simp only [rink_eq, in_eq, bound_eq, kTup, Try.f51, Try.f55, Try.f56, Try.f32, go_sem, ↓reduceIte, Nat.reduceAdd, Nat.reduceSub, Nat.reduceMul, Nat.reduceEqDiff, Nat.reduceLT, Nat.reduceLeDiff, Int.reduceToNat, Int.reduceLE, Int.reduceLT, Int.reduceEq, Int.reduceNeg, reduceCtorEq]
          have hw3 : IntKind.i64.wrap ((a : Int) + 1) = ((a + 1 : Nat) : Int) := by rw [wrap_id (by omega) (by omega)]; omega
          have hw4 : IntKind.i64.wrap ((d : Int) + 1) = ((d + 1 : Nat) : Int) := by rw [wrap_id (by omega) (by omega)]; omega
          refine ⟨fun e1 => ?_, fun e1 => ?_⟩
          · simp only [decide_eq_true_eq] at e1
            rw [fstI_cons (by omega)] at hfa
            refine ⟨⟨by omega, by omega⟩, by omega, fun e2 => ⟨fun e3 => ?_, fun e3 => ?_⟩, fun e2 => ⟨fun e3 => ⟨fun e4 => ?_, fun e4 => ?_⟩, fun e3 => ?_⟩⟩
            · rw [if_pos (by simp only [decide_eq_true_eq] at e2; simp [badP, e2])] at hfa
              rw [← hfa, if_pos (by omega)] at hrun
              rw [← hrun]
            · simp only [decide_eq_false_iff_not] at e3; omega
            · rw [if_pos (by simp only [decide_eq_true_eq] at e3; simp [badP, e3])] at hfa
              rw [← hfa, if_pos (by omega)] at hrun
              rw [← hrun]
            · simp only [decide_eq_false_iff_not] at e4; omega
            · rw [if_neg (by simp only [decide_eq_false_iff_not] at e2 e3; simp [badP, e2, e3])] at hfa
              refine ⟨⟨a + 1, by omega, by rw [← hfa]; congr 1⟩, by simp only []; omega, ?_⟩
              apply sub_of <;> simp only [hw3, go_sem, ↓reduceIte, Nat.reduceAdd, Nat.reduceSub, Nat.reduceMul, Nat.reduceEqDiff, Nat.reduceLT, Nat.reduceLeDiff, Int.reduceToNat, Int.reduceLE, Int.reduceLT, Int.reduceEq, Int.reduceNeg, reduceCtorEq] <;> (try simp)
          · simp only [decide_eq_false_iff_not] at e1
            have e0 : i - a = 0 := by omega
            rw [e0] at hfa
            simp only [fstI] at hfa
            rw [← hfa, if_neg (by omega)] at hrun
            refine ⟨⟨(d + 1, w), by omega, hok2, fun j => ?_, by rw [← hrun]; congr 1⟩, by simp only []; omega, ?_⟩
            · have := hsum2 j
              simp only []
              omega
            · apply sub_of <;> simp only [hw4, go_sem, ↓reduceIte, Nat.reduceAdd, Nat.reduceSub, Nat.reduceMul, Nat.reduceEqDiff, Nat.reduceLT, Nat.reduceLeDiff, Int.reduceToNat, Int.reduceLE, Int.reduceLT, Int.reduceEq, Int.reduceNeg, reduceCtorEq] <;> (try simp)
      · simp only [decide_eq_false_iff_not] at d2
        have e0 : days.toNat - d = 0 := by omega
        rw [e0] at hrun
        simp only [kRun] at hrun
        rw [← hrun]
end Go.Eng
end

/- Keeps of the reference. -/
section
namespace Go.Eng
open Go Go.RowKit Go.Proofs
set_option maxRecDepth 100000
set_option maxHeartbeats 4000000
attribute [local irreducible] OwnT DefS
def rbadBase : BaseF := fun args => match args with
  | [.row n sz_z f_z, .int .i64 least, .int .i64 most] => some ((sz_z = 4 ∧ IntR n 4 f_z) ∧ (n ≤ 1000000), .int .i64 (fstI (badP least most (fun i j => iv (f_z i j))) n 0))
  | _ => none
theorem rbad_eq (n : Nat) (z : Nat → Nat → Int) (least : Int) (most : Int) : rbadBase [.row n 4 (fun i j => .int .i64 (z i j)), .int .i64 least, .int .i64 most] = some ((4 = 4 ∧ IntR n 4 (fun i j => .int .i64 (z i j))) ∧ (n ≤ 1000000), .int .i64 (fstI (badP least most z) n 0)) := rfl
theorem rbad_base : Base Try.prog 64 rbadBase := by
  intro args p v hq hp
  unfold rbadBase at hq
  split at hq
  rotate_left
  · cases hq
  rename_i n sz_z f_z least most
  cases hq
  obtain ⟨⟨rfl, i_z⟩, pre⟩ := hp
  refine base_of (C := cx [] [] [] [] none) (cx_ok trivial trivial) rfl (g := 64) (fn := Try.f64)
    (args' := [.row n 4 (rowF .i64 (fun i j => iv (f_z i j))), .int .i64 least, .int .i64 most]) (fn_64) rfl 1000 (by simp only [BdL, Bd, and_self, and_true, true_and]; exact fun i j hi hj => by rw [i_z i j hi hj]; trivial) ⟨SameD.int i_z, SameD.rfl' _, SameD.rfl' _, trivial⟩ ?_
  generalize (fun i j => iv (f_z i j)) = z at *
  simp only [rowF_eq]
  simp only [Try.f64, go_sem, ↓reduceIte, Nat.reduceAdd, Nat.reduceSub, Nat.reduceMul, Nat.reduceEqDiff, Nat.reduceLT, Nat.reduceLeDiff, Int.reduceToNat, Int.reduceLE, Int.reduceLT, Int.reduceEq, Int.reduceNeg, reduceCtorEq]
  refine loop_of { a : Nat // a ≤ n ∧ fstI (badP least most z) (n - a) a = fstI (badP least most z) n 0 }
    (fun a => [(7, .int .i64 (a.1 : Int)), (0, .row n 4 fun i j => .int .i64 (z i j)), (1, .int .i64 least), (2, .int .i64 most)]) (fun _ => ⟨[], []⟩) (fun a => n - a.1) (fun _ => ⟨rfl, rfl⟩) ⟨0, by omega, rfl⟩ (by (apply sub_of <;> simp only [go_sem, ↓reduceIte, Nat.reduceAdd, Nat.reduceSub, Nat.reduceMul, Nat.reduceEqDiff, Nat.reduceLT, Nat.reduceLeDiff, Int.reduceToNat, Int.reduceLE, Int.reduceLT, Int.reduceEq, Int.reduceNeg, reduceCtorEq] <;> (try simp [catF]))) ?_
  rintro ⟨a, ha, hfa⟩
  simp only [Try.f64, go_sem, ↓reduceIte, Nat.reduceAdd, Nat.reduceSub, Nat.reduceMul, Nat.reduceEqDiff, Nat.reduceLT, Nat.reduceLeDiff, Int.reduceToNat, Int.reduceLE, Int.reduceLT, Int.reduceEq, Int.reduceNeg, reduceCtorEq]
  have hw3 : IntKind.i64.wrap ((a : Int) + 1) = ((a + 1 : Nat) : Int) := by rw [wrap_id (by omega) (by omega)]; omega
  refine ⟨fun e1 => ?_, fun e1 => ?_⟩
  · simp only [decide_eq_true_eq] at e1
    rw [fstI_cons (by omega)] at hfa
    refine ⟨⟨by omega, by omega⟩, fun e2 => ?_, fun e2 => ⟨⟨by omega, by omega⟩, fun e3 => ?_, fun e3 => ?_⟩⟩
    · rw [if_pos (by simp only [decide_eq_true_eq] at e2; simp [badP, e2])] at hfa
      rw [← hfa]
    · rw [if_pos (by simp only [decide_eq_true_eq] at e3; simp [badP, e3])] at hfa
      rw [← hfa]
    · rw [if_neg (by simp only [decide_eq_false_iff_not] at e2 e3; simp [badP, e2, e3])] at hfa
      refine ⟨⟨a + 1, by omega, by rw [← hfa]; congr 1⟩, by simp only []; omega, ?_⟩
      apply sub_of <;> simp only [hw3, go_sem, ↓reduceIte, Nat.reduceAdd, Nat.reduceSub, Nat.reduceMul, Nat.reduceEqDiff, Nat.reduceLT, Nat.reduceLeDiff, Int.reduceToNat, Int.reduceLE, Int.reduceLT, Int.reduceEq, Int.reduceNeg, reduceCtorEq] <;> (try simp)
  · simp only [decide_eq_false_iff_not] at e1
    have e0 : n - a = 0 := by omega
    rw [e0] at hfa
    simp only [fstI] at hfa
    rw [← hfa]
theorem rbad_at (n : Nat) (z : Nat → Nat → Int) (least most : Int) : rbadBase [.row n 4 (fun i j => .int .i64 (z i j)), .int .i64 least, .int .i64 most] = some ((4 = 4 ∧ IntR n 4 (fun i j => .int .i64 (z i j))) ∧ n ≤ 1000000, .int .i64 (fstI (badP least most z) n 0)) := rfl
theorem keepsO_eq {n m : Nat} {z l : Nat → Nat → Int} {days least most : Int} (c1 : rinkB n z = true) (c2 : in3 days 0 100 = true) (c3 : in3 most 0 20000 = true) (c4 : in3 least 0 most = true) :
    keepsO n m z l days least most = if 0 < days ∧ 256 < m then (0, 0, 3) else kRun n m l least most days.toNat 0 z := by
  unfold keepsO
  rw [if_pos c1, if_pos ⟨c2, c3, c4⟩]
/-- A day of the reference. -/
theorem keep_day {n m : Nat} {z l x : Nat → Nat → Int} {days least most : Int} {d : Nat} (hK : keepsO n m z l days least most = if 0 < days ∧ 256 < m then (0, 0, 3) else kRun n m l least most days.toNat 0 z) (hr : rinkB n x = true) (hd : d < days.toNat)
    (hm : d = 0 ∨ m ≤ 256) (hrun : m ≤ 256 → kRun n m l least most (days.toNat - d) d x = kRun n m l least most days.toNat 0 z) :
    ((playT n m x l).e ≠ 0 → keepsO n m z l days least most = (0, 0, (playT n m x l).e)) ∧
    ((playT n m x l).e = 0 → (playT n m x l).n = n ∧ m ≤ 256 ∧ (∀ i, i < n → okZ ((playT n m x l).z i) = true) ∧
      (0 ≤ fstI (badP least most (playT n m x l).z) n 0 → keepsO n m z l days least most = ((d : Int), fstI (badP least most (playT n m x l).z) n 0, 0)) ∧
      (¬ 0 ≤ fstI (badP least most (playT n m x l).z) n 0 → kRun n m l least most (days.toNat - (d + 1)) (d + 1) (playT n m x l).z = kRun n m l least most days.toNat 0 z)) := by
  have hb := rinkB_iff.1 hr
  by_cases h : m ≤ 256
  · have hr2 := hrun h
    rw [kRun_cons (by omega)] at hr2
    rw [if_neg (by omega)] at hK
    have hP : playT n m x l = pRes n m (evRun (n : Int) l m 0 ⟨x, fun _ => 0⟩) := by
      unfold playT playO; rw [if_pos hr, if_pos h]
    cases hx : evRun (n : Int) l m 0 ⟨x, fun _ => 0⟩ with
    | inl q =>
      rw [hx] at hr2 hP
      rw [hP]
      have := evRun_err hx
      exact ⟨fun _ => by rw [hK, ← hr2]; rfl, fun h => absurd h this⟩
    | inr y =>
      rw [hx] at hr2 hP
      rw [hP]
      obtain ⟨k1, _⟩ := evRun_inv m 0 ⟨x, fun _ => 0⟩ y 0 hb.2 (fun j => ⟨Int.le_refl _, Int.le_refl _⟩) hx
      refine ⟨fun h => absurd rfl h, fun _ => ⟨rfl, h, k1, fun h2 => ?_, fun h2 => ?_⟩⟩
      · simp only [pRes] at h2 ⊢
        simp only [] at hr2
        rw [if_pos h2] at hr2
        rw [hK, ← hr2]
      · simp only [pRes] at h2 ⊢
        simp only [] at hr2
        rw [if_neg h2] at hr2
        rw [← hr2]
        congr 1
  · have hP : playT n m x l = pErr 0 3 := by
      unfold playT; rw [if_pos hr, if_neg h]
    rw [hP]
    rw [if_pos (by omega)] at hK
    exact ⟨fun _ => hK, fun h => by simp [pErr] at h⟩
def rkeepsBase : BaseF := fun args => match args with
  | [.row n sz_z f_z, .row m sz_l f_l, .int .i64 days, .int .i64 least, .int .i64 most] => some ((sz_z = 4 ∧ IntR n 4 f_z) ∧ (sz_l = 5 ∧ IntR m 5 f_l), kTup (keepsO n m (fun i j => iv (f_z i j)) (fun i j => iv (f_l i j)) days least most))
  | _ => none
theorem rkeeps_eq (n : Nat) (z : Nat → Nat → Int) (m : Nat) (l : Nat → Nat → Int) (days : Int) (least : Int) (most : Int) : rkeepsBase [.row n 4 (fun i j => .int .i64 (z i j)), .row m 5 (fun i j => .int .i64 (l i j)), .int .i64 days, .int .i64 least, .int .i64 most] = some ((4 = 4 ∧ IntR n 4 (fun i j => .int .i64 (z i j))) ∧ (5 = 5 ∧ IntR m 5 (fun i j => .int .i64 (l i j))), kTup (keepsO n m z l days least most)) := rfl
theorem rkeeps_base : Base Try.prog 35 rkeepsBase := by
  intro args p v hq hp
  unfold rkeepsBase at hq
  split at hq
  rotate_left
  · cases hq
  rename_i n sz_z f_z m sz_l f_l days least most
  cases hq
  obtain ⟨⟨rfl, i_z⟩, ⟨rfl, i_l⟩⟩ := hp
  refine base_of (C := cx [] [(28, 37, tplayBase)] [(16, rinkBase), (49, inBase), (64, rbadBase)] [] none) (cx_ok ⟨tplay_base, trivial⟩ ⟨rink_base, in_base, rbad_base, trivial⟩) rfl (g := 35) (fn := Try.f35)
    (args' := [.row n 4 (rowF .i64 (fun i j => iv (f_z i j))), .row m 5 (rowF .i64 (fun i j => iv (f_l i j))), .int .i64 days, .int .i64 least, .int .i64 most]) (fn_35) rfl 1000 (by simp only [BdL, Bd, and_self, and_true, true_and]; exact ⟨fun i j hi hj => by rw [i_z i j hi hj]; trivial, fun i j hi hj => by rw [i_l i j hi hj]; trivial⟩) ⟨SameD.int i_z, SameD.int i_l, SameD.rfl' _, SameD.rfl' _, SameD.rfl' _, trivial⟩ ?_
  generalize (fun i j => iv (f_z i j)) = z
  generalize (fun i j => iv (f_l i j)) = l
  simp only [rowF_eq]
  simp only [rink_eq, in_eq, kTup, tplay_at, rbad_at, pTup, Try.f35, go_sem, ↓reduceIte, Nat.reduceAdd, Nat.reduceSub, Nat.reduceMul, Nat.reduceEqDiff, Nat.reduceLT, Nat.reduceLeDiff, Int.reduceToNat, Int.reduceLE, Int.reduceLT, Int.reduceEq, Int.reduceNeg, reduceCtorEq]
  refine ⟨fun c1 => ?_, fun c1 => ⟨fun c2 => ?_, fun c2 => ⟨fun c3 => ?_, fun c3 => ⟨fun c3' => ?_, fun c3' => ?_⟩⟩⟩⟩
  · rw [show keepsO n m z l days least most = (0, 0, 1) by simp at c1; simp [keepsO, c1]]
  · rw [show keepsO n m z l days least most = (0, 0, 2) by simp at c1 c2; simp [keepsO, c1, c2]]
  · rw [show keepsO n m z l days least most = (0, 0, 2) by simp at c1 c2 c3; simp [keepsO, c1, c2, c3]]
  · rw [show keepsO n m z l days least most = (0, 0, 2) by simp at c1 c2 c3 c3'; simp [keepsO, c1, c2, c3, c3']]
  simp only [Bool.not_eq_false'] at c1 c2 c3 c3'
  have hb := rinkB_iff.1 c1
  have hd := in3_iff.1 c2
  refine loop_mk [(37, 4)] { q : Nat × (Nat → Nat → Int) // q.1 ≤ days.toNat ∧ (∀ i, i < n → okZ (q.2 i) = true) ∧ (q.1 = 0 ∨ m ≤ 256) ∧ (m ≤ 256 → kRun n m l least most (days.toNat - q.1) q.1 q.2 = kRun n m l least most days.toNat 0 z) }
    (fun q => [(13, .int .i64 (q.1.1 : Int)), (4, .int .i64 most), (3, .int .i64 least), (2, .int .i64 days), (1, .row m 5 fun i j => .int .i64 (l i j)), (0, match q.1.1 with | 0 => .row n 4 fun i j => .int .i64 (q.1.2 i j) | d + 1 => .vec 0 (d + 1))])
    (fun q => ⟨[], [.live q.1.1 37 4 (match q.1.1 with | 0 => 0 | _ + 1 => n) fun i j => .int .i64 (q.1.2 i j)]⟩) (fun q => days.toNat - q.1.1) (by simp) (fun _ => ⟨rfl, rfl⟩) ⟨(0, z), by omega, hb.2, .inl rfl, fun _ => rfl⟩ (by apply sub_of <;> simp only [mkH, go_sem, ↓reduceIte, Nat.reduceAdd, Nat.reduceSub, Nat.reduceMul, Nat.reduceEqDiff, Nat.reduceLT, Nat.reduceLeDiff, Int.reduceToNat, Int.reduceLE, Int.reduceLT, Int.reduceEq, Int.reduceNeg, reduceCtorEq] <;> (try simp)) ?_
  rintro ⟨⟨d, x⟩, hdl, hok, hm, hrun⟩
  simp only [] at hdl hok hm hrun
  have hw4 : IntKind.i64.wrap ((d : Int) + 1) = ((d + 1 : Nat) : Int) := by rw [wrap_id (by omega) (by omega)]; omega
  have hrx : rinkB n x = true := rinkB_iff.2 ⟨hb.1, hok⟩
  have hK := keepsO_eq (m := m) (l := l) c1 c2 c3 c3'
  rcases d with _ | d
  · simp only [rink_eq, in_eq, kTup, tplay_at, rbad_at, pTup, Try.f35, go_sem, ↓reduceIte, Nat.reduceAdd, Nat.reduceSub, Nat.reduceMul, Nat.reduceEqDiff, Nat.reduceLT, Nat.reduceLeDiff, Int.reduceToNat, Int.reduceLE, Int.reduceLT, Int.reduceEq, Int.reduceNeg, reduceCtorEq]
    refine ⟨fun e1 => ?_, fun e1 => ?_⟩
    · simp only [decide_eq_true_eq] at e1
      obtain ⟨k1, k2⟩ := keep_day hK hrx (d := 0) (by omega) hm hrun
      refine ⟨fun e2 => ?_, fun e2 => ?_⟩
      · rw [k1 (by simpa using e2)]
      · simp only [Bool.not_eq_false', decide_eq_true_eq] at e2
        obtain ⟨k3, k4, k5, k6, k7⟩ := k2 e2
        rw [k3]
        refine ⟨by omega, fun e3 => ⟨by omega, ?_⟩, fun e3 => ?_⟩
        · rw [k6 (by simpa using e3)]
        · simp only [decide_eq_false_iff_not] at e3
          refine ⟨⟨(0 + 1, (playT n m x l).z), by omega, k5, .inr k4, fun _ => k7 e3⟩, by simp only []; omega, ?_⟩
          refine sub_mv 0 1 0 rfl rfl (by omega) (by simp only [go_sem, ↓reduceIte, Nat.reduceAdd, Nat.reduceSub, Nat.reduceMul, Nat.reduceEqDiff, Nat.reduceLT, Nat.reduceLeDiff, Int.reduceToNat, Int.reduceLE, Int.reduceLT, Int.reduceEq, Int.reduceNeg, reduceCtorEq]) ?_
          apply sub_of <;> simp only [hw4, go_sem, ↓reduceIte, Nat.reduceAdd, Nat.reduceSub, Nat.reduceMul, Nat.reduceEqDiff, Nat.reduceLT, Nat.reduceLeDiff, Int.reduceToNat, Int.reduceLE, Int.reduceLT, Int.reduceEq, Int.reduceNeg, reduceCtorEq] <;> (try simp)
    · simp only [decide_eq_false_iff_not] at e1
      have h4 : keepsO n m z l days least most = (0, 0, 4) := by
        rw [hK]
        have e0 : days.toNat - 0 = 0 := by omega
        by_cases h : m ≤ 256
        · rw [if_neg (by omega), ← hrun h, e0]; rfl
        · rw [if_neg (by omega), show days.toNat = 0 by omega]; rfl
      rw [h4]
  · simp only [rink_eq, in_eq, kTup, tplay_at, rbad_at, pTup, Try.f35, go_sem, ↓reduceIte, Nat.reduceAdd, Nat.reduceSub, Nat.reduceMul, Nat.reduceEqDiff, Nat.reduceLT, Nat.reduceLeDiff, Int.reduceToNat, Int.reduceLE, Int.reduceLT, Int.reduceEq, Int.reduceNeg, reduceCtorEq]
    refine ⟨fun e1 => ?_, fun e1 => ?_⟩
    · simp only [decide_eq_true_eq] at e1
      obtain ⟨k1, k2⟩ := keep_day hK hrx (d := (d + 1)) (by omega) hm hrun
      refine ⟨fun e2 => ?_, fun e2 => ?_⟩
      · rw [k1 (by simpa using e2)]
      · simp only [Bool.not_eq_false', decide_eq_true_eq] at e2
        obtain ⟨k3, k4, k5, k6, k7⟩ := k2 e2
        rw [k3]
        refine ⟨by omega, fun e3 => ⟨by omega, ?_⟩, fun e3 => ?_⟩
        · rw [k6 (by simpa using e3)]
        · simp only [decide_eq_false_iff_not] at e3
          refine ⟨⟨((d + 1) + 1, (playT n m x l).z), by omega, k5, .inr k4, fun _ => k7 e3⟩, by simp only []; omega, ?_⟩
          refine sub_mv 0 1 0 rfl rfl (by omega) (by simp only [go_sem, ↓reduceIte, Nat.reduceAdd, Nat.reduceSub, Nat.reduceMul, Nat.reduceEqDiff, Nat.reduceLT, Nat.reduceLeDiff, Int.reduceToNat, Int.reduceLE, Int.reduceLT, Int.reduceEq, Int.reduceNeg, reduceCtorEq]) ?_
          apply sub_of <;> simp only [hw4, go_sem, ↓reduceIte, Nat.reduceAdd, Nat.reduceSub, Nat.reduceMul, Nat.reduceEqDiff, Nat.reduceLT, Nat.reduceLeDiff, Int.reduceToNat, Int.reduceLE, Int.reduceLT, Int.reduceEq, Int.reduceNeg, reduceCtorEq] <;> (try simp)
    · simp only [decide_eq_false_iff_not] at e1
      have h4 : keepsO n m z l days least most = (0, 0, 4) := by
        rw [hK]
        have e0 : days.toNat - (d + 1) = 0 := by omega
        by_cases h : m ≤ 256
        · rw [if_neg (by omega), ← hrun h, e0]; rfl
        · rw [if_neg (by omega), show days.toNat = 0 by omega]; rfl
      rw [h4]
end Go.Eng
end
