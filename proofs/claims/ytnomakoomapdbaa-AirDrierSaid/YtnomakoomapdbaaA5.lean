/-
  A part of the symbolic machine, of its soundness, and of what functions compute. No condition.
-/
import Derived.Test.YtnomakoomapdbaaA4
set_option linter.unusedSimpArgs false
set_option linter.unusedVariables false
/- air: AirParts: the plain words. -/
section
namespace Go.Eng
open Go Go.RowKit Go.Proofs
set_option maxRecDepth 100000
set_option maxHeartbeats 4000000
attribute [local irreducible] OwnT DefS
/-- A span within another one, by remainders. -/
def nar (lo hi : Int) (y : Nat → Nat → Int) (m : Nat) (z : Nat) : Int × Int := (min (pkv lo hi (y (z % m) 0)) (pkv lo hi (y ((z + 1) % m) 0)), max (pkv lo hi (y (z % m) 0)) (pkv lo hi (y ((z + 1) % m) 0)))
theorem nar_in {lo hi : Int} {y : Nat → Nat → Int} {m z : Nat} (h : lo ≤ hi) : lo ≤ (nar lo hi y m z).1 ∧ (nar lo hi y m z).1 ≤ (nar lo hi y m z).2 ∧ (nar lo hi y m z).2 ≤ hi := by
  have h1 := pkv_in (b := y (z % m) 0) h
  have h2 := pkv_in (b := y ((z + 1) % m) 0) h
  simp only [nar]
  omega
def fin (l y : Nat → Nat → Int) (m : Nat) : Nat → Nat → Int := fun i j =>
  if j = 3 then (nar (l i 3) (l i 4) y m (3 * i + 2)).1 else if j = 4 then (nar (l i 3) (l i 4) y m (3 * i + 2)).2 else
  if j = 5 then (nar (l i 5) (l i 6) y m (3 * i + 4)).1 else if j = 6 then (nar (l i 5) (l i 6) y m (3 * i + 4)).2 else l i j
def narrowBase : BaseF := fun args => match args with
  | [.agg [.int .i64 lo, .int .i64 hi], .row m sz_y f_y, .int .i64 z] => some ((sz_y = 1 ∧ IntK .u32 m 1 f_y) ∧ ((0 ≤ lo ∧ lo ≤ hi ∧ hi ≤ 1000000000000) ∧ 0 < m ∧ (0 ≤ z ∧ z ≤ 1000000) ∧ ∀ i, i < m → (Lit.int .u32 ((ivf f_y) i 0)).wf = true), .agg [.int .i64 (nar lo hi (ivf f_y) m z.toNat).1, .int .i64 (nar lo hi (ivf f_y) m z.toNat).2])
  | _ => none
theorem narrow_eq (lo : Int) (hi : Int) (m : Nat) (sz_y : Nat) (f_y : Nat → Nat → SV) (z : Int) : narrowBase [.agg [.int .i64 lo, .int .i64 hi], .row m sz_y f_y, .int .i64 z] = some ((sz_y = 1 ∧ IntK .u32 m 1 f_y) ∧ ((0 ≤ lo ∧ lo ≤ hi ∧ hi ≤ 1000000000000) ∧ 0 < m ∧ (0 ≤ z ∧ z ≤ 1000000) ∧ ∀ i, i < m → (Lit.int .u32 ((ivf f_y) i 0)).wf = true), .agg [.int .i64 (nar lo hi (ivf f_y) m z.toNat).1, .int .i64 (nar lo hi (ivf f_y) m z.toNat).2]) := rfl
theorem narrow_base : Base Try.prog 26 narrowBase := by
  intro args p v hq hp
  unfold narrowBase at hq
  split at hq
  rotate_left
  · cases hq
  rename_i lo hi m sz_y f_y z
  cases hq
  obtain ⟨⟨rfl, i_y⟩, pre⟩ := hp
  refine base_of (C := cx [] [] [(22, pickBase)] [(26, 1, p26_1)] none) (cx_ok trivial ⟨pick_base, trivial⟩) rfl (g := 26) (fn := Try.f26)
    (args' := [.agg [.int .i64 lo, .int .i64 hi], .row m 1 (rowF .u32 (ivf f_y)), .int .i64 z]) (fn_26) rfl 1000 (by
    simp only [BdL, Bd, and_self, and_true, true_and]
    exact (fun i j hi hj => by rw [i_y i j hi hj]; trivial)) ⟨SameD.rfl' _, SameD.intK i_y, SameD.rfl' _, trivial⟩ ?_
  generalize ivf f_y = y at *
  simp only [rowF_eq]
  simp only [pick_eq, p26_1, Try.f26, go_sem, ↓reduceIte, Nat.reduceAdd, Nat.reduceSub, Nat.reduceMul, Nat.reduceEqDiff, Nat.reduceLT, Nat.reduceLeDiff, Int.reduceToNat, Int.reduceLE, Int.reduceLT, Int.reduceEq, Int.reduceNeg, reduceCtorEq]
  obtain ⟨h1, h2, h3, h4⟩ := pre
  obtain ⟨i, rfl⟩ : ∃ i : Nat, z = i := ⟨z.toNat, by omega⟩
  have hm : (m : Int) ≠ 0 := by omega
  have r0 : ((i : Int).tmod (m : Int)).toNat = i % m ∧ (0 ≤ (i : Int).tmod (m : Int) ∧ (i : Int).tmod (m : Int) < m) := by
    rw [Int.tmod_eq_emod_of_nonneg (by omega), ← Int.natCast_emod]
    have := Nat.mod_lt i h2
    omega
  have r1 : ((IntKind.i64.wrap ((i : Int) + 1)).tmod (m : Int)).toNat = (i + 1) % m ∧ (0 ≤ (IntKind.i64.wrap ((i : Int) + 1)).tmod (m : Int) ∧ (IntKind.i64.wrap ((i : Int) + 1)).tmod (m : Int) < m) := by
    rw [wrap_id (by omega) (by omega), show (i : Int) + 1 = ((i + 1 : Nat) : Int) by omega, Int.tmod_eq_emod_of_nonneg (by omega), ← Int.natCast_emod]
    have := Nat.mod_lt (i + 1) h2
    omega
  have P := fun a => And.intro (h4 _ (Nat.mod_lt a h2)) h1
  simp only [r0.1, r1.1]
  refine ⟨⟨by kernel_rfl, by kernel_rfl⟩, ?_⟩
  repeat' with_reducible refine And.intro ?_ ?_
  all_goals first | exact hm | exact r0.2 | exact r1.2 | exact P _ | exact h1.1 | exact h1.2.1 | exact h1.2.2 | exact h4 _ (Nat.mod_lt _ h2) | omega | rfl
section
variable {R : Int} {n m : Nat} {T H : Nat → Nat → Int} {bl bh : Int}
/-- In two parts. -/
theorem atL_add (l : Nat → Nat → Int) (w : Int) (c : Nat) : ∀ j, atL R n T H bl l w (c + j) = ⟨(atL R n T H bl (fun i => l (c + i)) (atL R n T H bl l w c).w j).w, (atL R n T H bl l w c).ca + (atL R n T H bl (fun i => l (c + i)) (atL R n T H bl l w c).w j).ca,
    (atL R n T H bl l w c).ou + (atL R n T H bl (fun i => l (c + i)) (atL R n T H bl l w c).w j).ou, (atL R n T H bl l w c).dr + (atL R n T H bl (fun i => l (c + i)) (atL R n T H bl l w c).w j).dr, (atL R n T H bl l w c).de + (atL R n T H bl (fun i => l (c + i)) (atL R n T H bl l w c).w j).de⟩
  | 0 => by simp [atL]
  | j + 1 => by
    rw [show c + (j + 1) = (c + j) + 1 by omega]
    simp only [atL, stL, atL_add l w c j, Int.add_assoc]
theorem atH_add (l : Nat → Nat → Int) (w : Int) (c : Nat) : ∀ j, atH R n T H bh l w (c + j) = ⟨(atH R n T H bh (fun i => l (c + i)) (atH R n T H bh l w c).w j).w, (atH R n T H bh l w c).ca + (atH R n T H bh (fun i => l (c + i)) (atH R n T H bh l w c).w j).ca,
    (atH R n T H bh l w c).ou + (atH R n T H bh (fun i => l (c + i)) (atH R n T H bh l w c).w j).ou, (atH R n T H bh l w c).dr + (atH R n T H bh (fun i => l (c + i)) (atH R n T H bh l w c).w j).dr, (atH R n T H bh l w c).de + (atH R n T H bh (fun i => l (c + i)) (atH R n T H bh l w c).w j).de⟩
  | 0 => by simp [atH]
  | j + 1 => by
    rw [show c + (j + 1) = (c + j) + 1 by omega]
    simp only [atH, stH, atH_add l w c j, Int.add_assoc]
/-- The least course is a true one. -/
theorem atL_T (l : Nat → Nat → Int) (w : Int) : ∀ i, atL R n T H bl l w i = atT R n T H l (fun i => l i 3) (fun i => l i 1 * bl) (fun i => l i 5) w i
  | 0 => rfl
  | i + 1 => by simp only [atL, atT, stL, stT, lowF, atL_T l w i]
theorem atH_T (l : Nat → Nat → Int) (w : Int) : ∀ i, atH R n T H bh l w i = atT R n T H l (fun i => l i 4) (fun i => l i 1 * bh) (fun i => l i 6) w i
  | 0 => rfl
  | i + 1 => by simp only [atH, atT, stH, stT, lowF, atH_T l w i]
theorem atT_congr {l l' : Nat → Nat → Int} {o b st : Nat → Int} {w : Int} : ∀ {k : Nat}, (∀ i, i < k → l i 0 = l' i 0 ∧ l i 2 = l' i 2 ∧ l i 7 = l' i 7) → atT R n T H l o b st w k = atT R n T H l' o b st w k
  | 0, _ => rfl
  | k + 1, h => by
    have ih := atT_congr (k := k) (o := o) (b := b) (st := st) (w := w) (fun i hi => h i (by omega))
    obtain ⟨e0, e2, e7⟩ := h k (by omega)
    simp only [atT, stT, ih, e0, e2, e7]
/-- Narrower spans leave spans that are not wider. -/
theorem run_narrow {l l' : Nat → Nat → Int} {k : Nat} {wl wh bl' bh' wl' wh' : Int} (hv : validB R n m T H bl bh wl wh k l = true)
    (hl' : ∀ i, i < k → l' i 0 = l i 0 ∧ l' i 1 = l i 1 ∧ l' i 2 = l i 2 ∧ l' i 7 = l i 7 ∧ (l i 3 ≤ l' i 3 ∧ l' i 3 ≤ l' i 4 ∧ l' i 4 ≤ l i 4) ∧ (l i 5 ≤ l' i 5 ∧ l' i 5 ≤ l' i 6 ∧ l' i 6 ≤ l i 6))
    (hb : bl ≤ bl' ∧ bl' ≤ bh' ∧ bh' ≤ bh) (hw : wl ≤ wl' ∧ wl' ≤ wh' ∧ wh' ≤ wh) :
    validB R n m T H bl' bh' wl' wh' k l' = true ∧ leC (atL R n T H bl l wl k) (atL R n T H bl' l' wl' k) ∧ leC (atL R n T H bl' l' wl' k) (atH R n T H bh' l' wh' k) ∧ leC (atH R n T H bh' l' wh' k) (atH R n T H bh l wh k) := by
  obtain ⟨v1, v2, v3, v4⟩ := valid_iff.1 hv
  have hA := (airB_iff.1 v1).1
  have v1' : airB R n m T H bl' bh' = true := airB_iff.2 ⟨⟨hA.1, hA.2.1, hA.2.2.1, by omega⟩, (airB_iff.1 v1).2⟩
  have hp : ∀ i, i < k → 0 ≤ l i 1 := fun i hi => (okS_sp (R := R) (bl := bl) (bh := bh) (v4 i hi) (w := 0) (by omega)).2.2.1.1
  have v4' : ∀ i, i < k → okS (T 0 0) (T (n - 1) 0) (l' i) = true := fun i hi => by
    obtain ⟨e0, e1, e2, e7, h3, h5⟩ := hl' i hi
    have := v4 i hi
    simp only [okS, Bool.and_eq_true, sp3_iff, e0, e1, e2, e7] at this ⊢
    obtain ⟨q1, q2, q3, q4, q5, q6⟩ := this
    exact ⟨q1, q2, q3, by omega, by omega, q6⟩
  have hv' : validB R n m T H bl' bh' wl' wh' k l' = true := valid_iff.2 ⟨v1', by omega, v3, v4'⟩
  have mb : ∀ {a b c : Int}, 0 ≤ c → a ≤ b → c * a ≤ c * b := fun hc h => Int.mul_le_mul_of_nonneg_left h hc
  have trL : ∀ i, i < k → trB bl bh (l i) (l' i 3) (l i 1 * bl') (l' i 5) := fun i hi => by
    obtain ⟨e0, e1, e2, e7, h3, h5⟩ := hl' i hi
    exact ⟨by omega, ⟨mb (hp i hi) (by omega), mb (hp i hi) (by omega)⟩, by omega⟩
  have trH : ∀ i, i < k → trB bl bh (l i) (l' i 4) (l i 1 * bh') (l' i 6) := fun i hi => by
    obtain ⟨e0, e1, e2, e7, h3, h5⟩ := hl' i hi
    exact ⟨by omega, ⟨mb (hp i hi) (by omega), mb (hp i hi) (by omega)⟩, by omega⟩
  have trLH : ∀ i, i < k → trB bl' bh' (l' i) (l' i 4) (l' i 1 * bh') (l' i 6) := fun i hi => by
    obtain ⟨e0, e1, e2, e7, h3, h5⟩ := hl' i hi
    have := hp i hi
    exact ⟨by omega, ⟨mb (by omega) (by omega), Int.le_refl _⟩, by omega⟩
  have eb : ∀ {b : Int} {i : Nat}, i < k → l' i 1 * b = l i 1 * b := fun hi => by rw [(hl' _ hi).2.1]
  have c1 := (atT_in v1 v4 trL (wl := wl) (w := wl') (wh := wh) (by omega) k (Nat.le_refl _)).1
  have c2 := (atT_in v1 v4 trH (wl := wl) (w := wh') (wh := wh) (by omega) k (Nat.le_refl _)).2.1
  have c3 := (atT_in v1' v4' trLH (wl := wl') (w := wh') (wh := wh') (by omega) k (Nat.le_refl _)).1
  have ebs : ∀ {b : Int} {o st : Nat → Int} {w : Int} {j : Nat}, j ≤ k → atT R n T H l' o (fun i => l' i 1 * b) st w j = atT R n T H l o (fun i => l i 1 * b) st w j := by
    intro b o st w j
    induction j with
    | zero => intro _; rfl
    | succ j ih =>
      intro hj
      obtain ⟨e0, e1, e2, e7, h3, h5⟩ := hl' j (by omega)
      simp only [atT, stT, ih (by omega), e0, e1, e2, e7]
  rw [atL_T l' wl' k, atH_T l' wh' k] at *
  rw [ebs (Nat.le_refl _)] at *
  rw [ebs (Nat.le_refl _)] at *
  exact ⟨hv', c1, c3, c2⟩
end
end Go.Eng
end
