/-
  A part of the symbolic machine, of its soundness, and of what functions compute. No condition.
-/
import Derived.Test.YtnomakoomapdbaaA3
set_option linter.unusedSimpArgs false
set_option linter.unusedVariables false
/- air: what is true within the spans: the plain words. -/
section
namespace Go.Eng
def pkv (lo hi b : Int) : Int := lo + b % (hi - lo + 1)
theorem pkv_in {lo hi b : Int} (h : lo ≤ hi) : lo ≤ pkv lo hi b ∧ pkv lo hi b ≤ hi := by
  have h1 := Int.emod_nonneg b (show hi - lo + 1 ≠ 0 by omega)
  have h2 := Int.emod_lt_of_pos b (show 0 < hi - lo + 1 by omega)
  unfold pkv
  omega
section
variable (R : Int) (n : Nat) (T H : Nat → Nat → Int)
def stT (s : Nat → Int) (o b st : Int) (c : Cr) : Cr := ⟨(flow (holdV R n T H (s 0)) R c.w (s 2) (s 7) o b st).water, c.ca + (flow (holdV R n T H (s 0)) R c.w (s 2) (s 7) o b st).came, c.ou + (flow (holdV R n T H (s 0)) R c.w (s 2) (s 7) o b st).out,
  c.dr + (flow (holdV R n T H (s 0)) R c.w (s 2) (s 7) o b st).dried, c.de + (flow (holdV R n T H (s 0)) R c.w (s 2) (s 7) o b st).dew⟩
def atT (l : Nat → Nat → Int) (o b st : Nat → Int) (w : Int) : Nat → Cr
  | 0 => ⟨w, 0, 0, 0, 0⟩
  | i + 1 => stT R n T H (l i) (o i) (b i) (st i) (atT l o b st w i)
end
/-- What is true of a step is within its spans. -/
def trB (bl bh : Int) (s : Nat → Int) (o b st : Int) : Prop := (s 3 ≤ o ∧ o ≤ s 4) ∧ (s 1 * bl ≤ b ∧ b ≤ s 1 * bh) ∧ (s 5 ≤ st ∧ st ≤ s 6)
def leC (a c : Cr) : Prop := a.w ≤ c.w ∧ a.ca ≤ c.ca ∧ a.ou ≤ c.ou ∧ a.dr ≤ c.dr ∧ a.de ≤ c.de
section
variable {R : Int} {n m : Nat} {T H : Nat → Nat → Int} {bl bh : Int}
theorem trB_fl (h : airB R n m T H bl bh = true) {s : Nat → Int} (hs : okS (T 0 0) (T (n - 1) 0) s = true) {o b st w : Int} (ht : trB bl bh s o b st) (hw : 0 ≤ w ∧ w ≤ 274877906944) : flB w R (s 2) (s 7) o b st := by
  have sp := okS_sp (R := R) (bl := bl) (bh := bh) hs hw
  obtain ⟨_, f1, f2⟩ := sp_fl h sp
  obtain ⟨t1, t2, t3⟩ := ht
  obtain ⟨g1, g2, g3, g4, g5, g6, g7⟩ := f1
  obtain ⟨k1, k2, k3, k4, k5, k6, k7⟩ := f2
  exact ⟨g1, g2, g3, g4, by omega, by omega, by omega⟩
theorem hold_bd (h : airB R n m T H bl bh = true) {s : Nat → Int} (hs : okS (T 0 0) (T (n - 1) 0) s = true) : 0 ≤ holdV R n T H (s 0) ∧ holdV R n T H (s 0) ≤ 104857600000 := by
  have sp := okS_sp (R := R) (bl := bl) (bh := bh) hs (w := 0) (by omega)
  obtain ⟨v, hv, w1, w2, w3, w4, w5, w6⟩ := holdV_bd h sp.2.1
  omega
/-- The true course lies between the least and the greatest one; nothing is lost. -/
theorem atT_in (h : airB R n m T H bl bh = true) {l : Nat → Nat → Int} {k : Nat} (hl : ∀ i, i < k → okS (T 0 0) (T (n - 1) 0) (l i) = true) {o b st : Nat → Int} (ht : ∀ i, i < k → trB bl bh (l i) (o i) (b i) (st i))
    {wl w wh : Int} (hw : 0 ≤ wl ∧ wl ≤ w ∧ w ≤ wh ∧ wh ≤ 274877906944) : ∀ i, i ≤ k → leC (atL R n T H bl l wl i) (atT R n T H l o b st w i) ∧ leC (atT R n T H l o b st w i) (atH R n T H bh l wh i) ∧
      (atT R n T H l o b st w i).w + (atT R n T H l o b st w i).ou + (atT R n T H l o b st w i).dr + (atT R n T H l o b st w i).de = w + (atT R n T H l o b st w i).ca
  | 0, _ => by simp only [leC, atL, atH, atT]; omega
  | i + 1, hi => by
    obtain ⟨i1, i2, i3⟩ := atT_in h hl ht hw i (by omega)
    obtain ⟨c1, _⟩ := atL_bd h hl (w := wl) (by omega) i (by omega)
    obtain ⟨c2, _⟩ := atH_bd h hl (w := wh) (by omega) i (by omega)
    have c3 : 0 ≤ (atT R n T H l o b st w i).w ∧ (atT R n T H l o b st w i).w ≤ 274877906944 := by unfold leC at i1 i2; omega
    have s1 := (sp_fl h (okS_sp (R := R) (bl := bl) (bh := bh) (hl i (by omega)) c1)).2.1
    have s2 := (sp_fl h (okS_sp (R := R) (bl := bl) (bh := bh) (hl i (by omega)) c2)).2.2
    have t := ht i (by omega)
    have s3 := trB_fl h (hl i (by omega)) t c3
    obtain ⟨t1, t2, t3⟩ := t
    have m1 := flow_mono (hold := holdV R n T H (l i 0)) s1 s3 i1.1 (Int.le_refl _) t1.1 t2.1 t3.1
    have m2 := flow_mono (hold := holdV R n T H (l i 0)) s3 s2 i2.1 (Int.le_refl _) t1.2 t2.2 t3.2
    have m1d := m1.2.2.2.1 rfl
    have m2d := m2.2.2.2.1 rfl
    have e : (flow (holdV R n T H (l i 0)) R (atT R n T H l o b st w i).w (l i 2) (l i 7) (o i) (b i) (st i)).water + (flow (holdV R n T H (l i 0)) R (atT R n T H l o b st w i).w (l i 2) (l i 7) (o i) (b i) (st i)).out + (flow (holdV R n T H (l i 0)) R (atT R n T H l o b st w i).w (l i 2) (l i 7) (o i) (b i) (st i)).dried + (flow (holdV R n T H (l i 0)) R (atT R n T H l o b st w i).w (l i 2) (l i 7) (o i) (b i) (st i)).dew
        = (atT R n T H l o b st w i).w + (flow (holdV R n T H (l i 0)) R (atT R n T H l o b st w i).w (l i 2) (l i 7) (o i) (b i) (st i)).came := by simp only [flow]; omega
    simp only [leC, atL, atH, atT, stL, stH, stT, lowF] at *
    omega
end
theorem fogA_spec (p : Nat → Bool) : ∀ k, (fogA p k < 0 ∧ ∀ j, j < k → p j = false) ∨ ∃ j, j < k ∧ fogA p k = (j : Int) ∧ p j = true ∧ ∀ j', j' < j → p j' = false
  | 0 => .inl ⟨by simp [fogA], fun j hj => by omega⟩
  | k + 1 => by
    rcases fogA_spec p k with ⟨h1, h2⟩ | ⟨j, h1, h2, h3, h4⟩
    · cases hp : p k with
      | true => exact .inr ⟨k, by omega, by simp only [fogA]; rw [if_pos ⟨h1, hp⟩], hp, h2⟩
      | false =>
        refine .inl ⟨by simp only [fogA]; rw [if_neg (by simp [hp])]; exact h1, fun j hj => ?_⟩
        rcases Nat.lt_or_ge j k with h | h
        · exact h2 j h
        · obtain rfl : j = k := by omega
          exact hp
    · exact .inr ⟨j, by omega, by simp only [fogA]; rw [if_neg (by omega)]; exact h2, h3, h4⟩
/-- The sum is above 0 first where what is added is. -/
theorem cum_first {d e : Nat → Int} (h0 : d 0 = 0) {k : Nat} (hs : ∀ i, i < k → d (i + 1) = d i + e i ∧ 0 ≤ e i) : ∀ i, i ≤ k → (0 ≤ d i) ∧ (0 < d i → ∃ j, j < i ∧ 0 < e j) ∧ (∀ j, j < i → e j ≤ d i)
  | 0, _ => ⟨by omega, fun h => by omega, fun j hj => by omega⟩
  | i + 1, hi => by
    obtain ⟨a1, a2, a3⟩ := cum_first h0 hs i (by omega)
    obtain ⟨b1, b2⟩ := hs i (by omega)
    refine ⟨by omega, fun h => ?_, fun j hj => ?_⟩
    · rcases (show 0 < d i ∨ d i ≤ 0 by omega) with h' | h'
      · obtain ⟨j, q1, q2⟩ := a2 h'; exact ⟨j, by omega, q2⟩
      · exact ⟨i, by omega, by omega⟩
    · rcases Nat.lt_or_ge j i with h | h
      · have := a3 j h; omega
      · obtain rfl : j = i := by omega
        omega
theorem cntP_mono {p q : Nat → Bool} : ∀ {k : Nat}, (∀ i, i < k → p i = true → q i = true) → cntP p k ≤ cntP q k
  | 0, _ => Int.le_refl _
  | k + 1, h => by
    have ih := cntP_mono (k := k) (fun i hi => h i (by omega))
    have := h k (by omega)
    simp only [cntP]
    cases hp : p k <;> cases hq : q k <;> simp_all <;> omega
end Go.Eng
end
