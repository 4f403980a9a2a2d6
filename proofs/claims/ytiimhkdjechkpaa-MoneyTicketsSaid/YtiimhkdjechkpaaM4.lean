/-
  A part of the symbolic machine, of its soundness, and of what functions compute. No condition.
-/
import Derived.Test.YtiimhkdjechkpaaM3
set_option linter.unusedSimpArgs false
set_option linter.unusedVariables false
/- money: the best choice is best. -/
section
namespace Go.Eng
open Go Go.RowKit Go.Proofs
set_option maxRecDepth 100000
set_option maxHeartbeats 4000000
attribute [local irreducible] OwnT DefS
def Ans.le (a b : Ans) : Prop := a.price < b.price ∨ (a.price = b.price ∧ a.num ≤ b.num)
def Ans.lt (a b : Ans) : Prop := a.price < b.price ∨ (a.price = b.price ∧ a.num < b.num)
theorem better_iff {a b : Ans} : a.better b = true ↔ a.is = true ∧ (b.is = false ∨ a.lt b) := by
  unfold Ans.better Ans.lt
  simp only [Bool.and_eq_true, Bool.or_eq_true, Bool.not_eq_true', decide_eq_true_eq]
  constructor
  · rintro ⟨h1, (h2 | h2) | h2⟩
    · exact ⟨h1, .inl h2⟩
    · exact ⟨h1, .inr (.inl h2)⟩
    · exact ⟨h1, .inr (.inr h2)⟩
  · rintro ⟨h1, h2 | h2 | h2⟩
    · exact ⟨h1, .inl (.inl h2)⟩
    · exact ⟨h1, .inl (.inr h2)⟩
    · exact ⟨h1, .inr h2⟩
theorem pick_spec (f : Int → Ans) : ∀ M : Nat, ((pickA f M).is = false ∧ ∀ i : Nat, i < M → (f i).is = false) ∨
    ∃ j : Nat, j < M ∧ pickA f M = f j ∧ (f j).is = true ∧ (∀ i : Nat, i < M → (f i).is = true → (f j).le (f i)) ∧ ∀ i : Nat, i < j → (f i).is = true → (f j).lt (f i)
  | 0 => .inl ⟨rfl, fun i hi => absurd hi (by omega)⟩
  | M + 1 => by
    have ih := pick_spec f M
    simp only [pickA]
    cases hb : (f M).better (pickA f M) with
    | true =>
      rw [if_pos rfl]
      obtain ⟨h1, h2⟩ := better_iff.1 hb
      right
      refine ⟨M, by omega, rfl, h1, fun i hi his => ?_, fun i hi his => ?_⟩
      · rcases Nat.lt_or_ge i M with h | h
        · rcases ih with ⟨_, h4⟩ | ⟨j, hj, h4, h5, h6, h7⟩
          · rw [h4 i h] at his; cases his
          · rcases h2 with h2 | h2
            · rw [h4, h5] at h2; cases h2
            · rw [h4] at h2
              have := h6 i h his
              unfold Ans.lt at h2; unfold Ans.le at this ⊢; omega
        · obtain rfl : i = M := by omega
          exact .inr ⟨rfl, Int.le_refl _⟩
      · rcases ih with ⟨_, h4⟩ | ⟨j, hj, h4, h5, h6, h7⟩
        · rw [h4 i hi] at his; cases his
        · rcases h2 with h2 | h2
          · rw [h4, h5] at h2; cases h2
          · rw [h4] at h2
            have := h6 i hi his
            unfold Ans.lt at h2 ⊢; unfold Ans.le at this; omega
    | false =>
      rw [if_neg (by simp)]
      have hnb : ¬ ((f M).is = true ∧ ((pickA f M).is = false ∨ (f M).lt (pickA f M))) := fun h => by rw [better_iff.2 h] at hb; cases hb
      rcases ih with ⟨h3, h4⟩ | ⟨j, hj, h4, h5, h6, h7⟩
      · left
        refine ⟨h3, fun i hi => ?_⟩
        rcases Nat.lt_or_ge i M with h | h
        · exact h4 i h
        · obtain rfl : i = M := by omega
          cases hc : (f i).is with
          | false => rfl
          | true => exact absurd ⟨hc, .inl h3⟩ hnb
      · right
        refine ⟨j, by omega, h4, h5, fun i hi his => ?_, h7⟩
        rcases Nat.lt_or_ge i M with h | h
        · exact h6 i h his
        · obtain rfl : i = M := by omega
          have : ¬ (f i).lt (pickA f i) := fun h => hnb ⟨his, .inr h⟩
          rw [h4] at this
          unfold Ans.lt at this; unfold Ans.le; omega
/-- A sum over the last k kinds. -/
def sumT (g : Nat → Int) (n : Nat) : Nat → Int
  | 0 => 0
  | k + 1 => g (n - (k + 1)) + sumT g n k
theorem sumT_K (g : Nat → Int) (n : Nat) : ∀ k, k ≤ n → sumK g n = sumK g (n - k) + sumT g n k
  | 0, _ => by simp [sumT]
  | k + 1, h => by
    rw [sumT_K g n k (by omega)]
    have : n - k = (n - (k + 1)) + 1 := by omega
    rw [this]
    simp only [sumK, sumT]
    omega
theorem sumT_all (g : Nat → Int) (n : Nat) : sumT g n n = sumK g n := by
  rw [sumT_K g n n (Nat.le_refl _)]
  simp [sumK]
theorem sumT_nn {g : Nat → Int} {n : Nat} (h : ∀ i, i < n → 0 ≤ g i) : ∀ k, k ≤ n → 0 ≤ sumT g n k
  | 0, _ => by simp [sumT]
  | k + 1, hk => by
    have := sumT_nn h k (by omega)
    have := h (n - (k + 1)) (by omega)
    simp only [sumT]; omega
theorem sumT_congr {g g' : Nat → Int} {n : Nat} : ∀ k, k ≤ n → (∀ i, n - k ≤ i → i < n → g i = g' i) → sumT g n k = sumT g' n k
  | 0, _, _ => rfl
  | k + 1, hk, h => by
    simp only [sumT]
    rw [h _ (by omega) (by omega), sumT_congr k (by omega) (fun i h1 h2 => h i (by omega) h2)]
/-- No choice that admits is better. -/
theorem best_opt {l : Nat → Nat → Int} {n : Nat} (hl : ∀ i, i < n → tkB (l i) = true) (c : Nat → Int) (hc : ∀ i, i < n → 0 ≤ c i) : ∀ (k : Nat) (a p : Int), k ≤ n → (0 ≤ a ∧ a ≤ 24) → (0 ≤ p ∧ p ≤ 24) →
    a ≤ sumT (fun i => c i * l i 0) n k → p ≤ sumT (fun i => c i * (l i 0 + l i 1)) n k →
    (best l n k a p).is = true ∧ (best l n k a p).le ⟨true, 0, sumT (fun i => c i * l i 2) n k, sumT c n k⟩
  | 0, a, p, _, ha, hp, h1, h2 => by
    simp only [sumT] at h1 h2
    simp only [best, sumT, Ans.le]
    have : a = 0 := by omega
    have : p = 0 := by omega
    subst_vars
    simp
  | k + 1, a, p, hk, ha, hp, h1, h2 => by
    simp only [sumT] at h1 h2 ⊢
    simp only [best]
    generalize hi : n - (k + 1) = i at *
    have hin : i < n := by omega
    obtain ⟨t1, t2, t3⟩ := tkB_iff.1 (hl i hin)
    have hci := hc i hin
    generalize hM : max a p = M at *
    have n1 := sumT_nn (g := fun i => c i * l i 0) (n := n) (fun i hi => Int.mul_nonneg (hc i hi) (tkB_iff.1 (hl i hi)).1.1) k (by omega)
    have n2 := sumT_nn (g := fun i => c i * (l i 0 + l i 1)) (n := n) (fun i hi => Int.mul_nonneg (hc i hi) (by have := tkB_iff.1 (hl i hi); omega)) k (by omega)
    -- the same kind, no more often than needed
    have key : ∀ (t x w S : Int), 0 ≤ t → 0 ≤ x → 0 ≤ w → w ≤ M → w ≤ x * t + S → 0 ≤ S → 0 ≤ max 0 (w - min x M * t) ∧ max 0 (w - min x M * t) ≤ S := by
      intro t x w S h1 h2 h3 h4 h5 h6
      refine ⟨by omega, ?_⟩
      rcases Int.le_total x M with h | h
      · rw [Int.min_eq_left h]; omega
      · rw [Int.min_eq_right h]
        rcases Int.lt_or_le 0 t with h7 | h7
        · have : M * 1 ≤ M * t := Int.mul_le_mul_of_nonneg_left (by omega) (by omega)
          omega
        · obtain rfl : t = 0 := by omega
          simp at h5 ⊢; omega
    obtain ⟨a1, a2⟩ := key (l i 0) (c i) a _ t1.1 hci ha.1 (by omega) h1 n1
    obtain ⟨p1, p2⟩ := key (l i 0 + l i 1) (c i) p _ (by omega) hci hp.1 (by omega) h2 n2
    have hm0 : 0 ≤ min (c i) M := by omega
    have q1 := Int.mul_nonneg hm0 t1.1
    have q2 := Int.mul_nonneg hm0 (show 0 ≤ l i 0 + l i 1 by omega)
    obtain ⟨b1, b2⟩ := best_opt hl c hc k _ _ (by omega) ⟨a1, by omega⟩ ⟨p1, by omega⟩ a2 p2
    have hown : ((min (c i) M).toNat : Int) = min (c i) M := by omega
    have hlt : (min (c i) M).toNat < (M + 1).toNat := by omega
    have hq3 : min (c i) M * l i 2 ≤ c i * l i 2 := Int.mul_le_mul_of_nonneg_right (by omega) t3.1
    rcases pick_spec (fun own => candA (l i 2) own (best l n k (max 0 (a - own * l i 0)) (max 0 (p - own * (l i 0 + l i 1))))) (M + 1).toNat with ⟨_, h4⟩ | ⟨j, hj, h4, h5, h6, _⟩
    · have := h4 _ hlt
      simp only [hown, candA] at this
      rw [b1] at this; cases this
    · rw [h4]
      refine ⟨h5, ?_⟩
      have h7 := h6 _ hlt (by simp only [hown, candA]; exact b1)
      simp only [hown] at h7
      generalize candA (l i 2) (j : Int) _ = Z at h7 ⊢
      simp only [Ans.le, candA] at h7 b2 ⊢
      omega
/-- The choice admits, and has its price and number. -/
theorem best_is {l : Nat → Nat → Int} {n : Nat} (hl : ∀ i, i < n → tkB (l i) = true) {a p : Int} (ha : 0 ≤ a ∧ a ≤ 24) (hp : 0 ≤ p ∧ p ≤ 24) : ∀ k, k ≤ n →
    (best l n k (wkA l n a p (n - k)).1 (wkA l n a p (n - k)).2).is = true →
    (wkA l n a p (n - k)).1 ≤ sumT (fun i => chA l n a p i * l i 0) n k ∧ (wkA l n a p (n - k)).2 ≤ sumT (fun i => chA l n a p i * (l i 0 + l i 1)) n k ∧
      (best l n k (wkA l n a p (n - k)).1 (wkA l n a p (n - k)).2).price = sumT (fun i => chA l n a p i * l i 2) n k ∧ (best l n k (wkA l n a p (n - k)).1 (wkA l n a p (n - k)).2).num = sumT (chA l n a p) n k
  | 0, _, h => by
    obtain ⟨h1, h2⟩ := wkA_bd hl ha hp n (Nat.le_refl _)
    simp only [Nat.sub_zero] at h ⊢
    have h3 : (wkA l n a p n).1 = 0 ∧ (wkA l n a p n).2 = 0 := by simpa [best] using h
    refine ⟨?_, ?_, rfl, rfl⟩
    · simp only [sumT]; omega
    · simp only [sumT]; omega
  | k + 1, hk, h => by
    generalize hi : n - (k + 1) = i at *
    have hnk : n - k = i + 1 := by omega
    have hni : n - i = k + 1 := by omega
    obtain ⟨h1, h2⟩ := wkA_bd hl ha hp i (by omega)
    have ih := best_is hl ha hp k (by omega)
    rw [hnk] at ih
    have hch : chA l n a p i = (best l n (k + 1) (wkA l n a p i).1 (wkA l n a p i).2).own := by unfold chA; rw [hni]
    have hw : wkA l n a p (i + 1) = (max 0 ((wkA l n a p i).1 - chA l n a p i * l i 0), max 0 ((wkA l n a p i).2 - chA l n a p i * (l i 0 + l i 1))) := rfl
    rw [hw] at ih
    simp only at ih
    simp only [best, hi] at h hch ⊢
    rcases pick_spec (fun own => candA (l i 2) own (best l n k (max 0 ((wkA l n a p i).1 - own * l i 0)) (max 0 ((wkA l n a p i).2 - own * (l i 0 + l i 1))))) (max (wkA l n a p i).1 (wkA l n a p i).2 + 1).toNat with ⟨h3, _⟩ | ⟨j, hj, h4, h5, h6, _⟩
    · rw [h3] at h; cases h
    · rw [h4] at hch ⊢
      have hj' : chA l n a p i = (j : Int) := hch
      rw [hj'] at ih
      obtain ⟨c1, c2, c3, c4⟩ := ih h5
      simp only [sumT, hi, hj', candA]
      omega
/-- Of choices that are as good it is the first. -/
theorem best_first {l : Nat → Nat → Int} {n : Nat} (hl : ∀ i, i < n → tkB (l i) = true) {a p : Int} (ha : 0 ≤ a ∧ a ≤ 24) (hp : 0 ≤ p ∧ p ≤ 24) (hb : (best l n n a p).is = true) {c : Nat → Int} (hc : ∀ i, i < n → 0 ≤ c i)
    (h1 : a ≤ sumT (fun i => c i * l i 0) n n) (h2 : p ≤ sumT (fun i => c i * (l i 0 + l i 1)) n n) (h3 : sumT (fun i => c i * l i 2) n n = sumT (fun i => chA l n a p i * l i 2) n n) (h4 : sumT c n n = sumT (chA l n a p) n n) :
    ∀ i, i < n → (∀ j, j < i → c j = chA l n a p j) → ¬ c i < chA l n a p i := by
  -- what is left behind the first ones
  have left : ∀ i, i ≤ n → (∀ j, j < i → c j = chA l n a p j) →
      (best l n (n - i) (wkA l n a p i).1 (wkA l n a p i).2).is = true ∧ (wkA l n a p i).1 ≤ sumT (fun i => c i * l i 0) n (n - i) ∧ (wkA l n a p i).2 ≤ sumT (fun i => c i * (l i 0 + l i 1)) n (n - i) ∧
      sumT (fun i => c i * l i 2) n (n - i) = sumT (fun i => chA l n a p i * l i 2) n (n - i) ∧ sumT c n (n - i) = sumT (chA l n a p) n (n - i) := by
    intro i
    induction i with
    | zero => intro _ _; exact ⟨hb, h1, h2, h3, h4⟩
    | succ i ih =>
      intro hi hj
      obtain ⟨k1, k2, k3, k4, k5⟩ := ih (by omega) (fun j h => hj j (by omega))
      obtain ⟨b1, b2⟩ := wkA_bd hl ha hp i (by omega)
      have e1 : n - i = (n - (i + 1)) + 1 := by omega
      have e2 : n - (n - (i + 1) + 1) = i := by omega
      have n1 := sumT_nn (g := fun i => c i * l i 0) (n := n) (fun i hi => Int.mul_nonneg (hc i hi) (tkB_iff.1 (hl i hi)).1.1) (n - (i + 1)) (by omega)
      have n2 := sumT_nn (g := fun i => c i * (l i 0 + l i 1)) (n := n) (fun i hi => Int.mul_nonneg (hc i hi) (by have := tkB_iff.1 (hl i hi); omega)) (n - (i + 1)) (by omega)
      rw [e1] at k1 k2 k3 k4 k5
      simp only [sumT, e2, hj i (by omega)] at k2 k3 k4 k5
      have hch : chA l n a p i = (best l n (n - (i + 1) + 1) (wkA l n a p i).1 (wkA l n a p i).2).own := by unfold chA; rw [e1]
      have hw : wkA l n a p (i + 1) = (max 0 ((wkA l n a p i).1 - chA l n a p i * l i 0), max 0 ((wkA l n a p i).2 - chA l n a p i * (l i 0 + l i 1))) := rfl
      simp only [best, e2] at k1 hch
      rcases pick_spec (fun own => candA (l i 2) own (best l n (n - (i + 1)) (max 0 ((wkA l n a p i).1 - own * l i 0)) (max 0 ((wkA l n a p i).2 - own * (l i 0 + l i 1))))) (max (wkA l n a p i).1 (wkA l n a p i).2 + 1).toNat with ⟨h3, _⟩ | ⟨j, hj2, h4, h5, h6, _⟩
      · rw [h3] at k1; cases k1
      · rw [h4] at hch
        have hj' : chA l n a p i = (j : Int) := hch
        rw [hw, hj']
        rw [hj'] at k2 k3 k4 k5
        exact ⟨h5, by simp only; omega, by simp only; omega, by omega, by omega⟩
  intro i hi hj hlt
  obtain ⟨k1, k2, k3, k4, k5⟩ := left i (by omega) hj
  obtain ⟨b1, b2⟩ := wkA_bd hl ha hp i (by omega)
  have e1 : n - i = (n - (i + 1)) + 1 := by omega
  have e2 : n - (n - (i + 1) + 1) = i := by omega
  have hbs := best_is hl ha hp (n - i) (by omega)
  rw [show n - (n - i) = i by omega] at hbs
  obtain ⟨_, _, s3, s4⟩ := hbs k1
  have hch : chA l n a p i = (best l n (n - (i + 1) + 1) (wkA l n a p i).1 (wkA l n a p i).2).own := by unfold chA; rw [e1]
  have n1 := sumT_nn (g := fun i => c i * l i 0) (n := n) (fun i hi => Int.mul_nonneg (hc i hi) (tkB_iff.1 (hl i hi)).1.1) (n - (i + 1)) (by omega)
  have n2 := sumT_nn (g := fun i => c i * (l i 0 + l i 1)) (n := n) (fun i hi => Int.mul_nonneg (hc i hi) (by have := tkB_iff.1 (hl i hi); omega)) (n - (i + 1)) (by omega)
  have hci := hc i hi
  obtain ⟨t1, t2, t3⟩ := tkB_iff.1 (hl i hi)
  have q1 := Int.mul_nonneg hci t1.1
  have q2 := Int.mul_nonneg hci (show 0 ≤ l i 0 + l i 1 by omega)
  rw [e1] at k1 k2 k3 k4 k5 s3 s4
  rw [← k4] at s3
  rw [← k5] at s4
  simp only [best, e2] at k1 hch s3 s4
  simp only [sumT, e2] at k2 k3 s3 s4
  rcases pick_spec (fun own => candA (l i 2) own (best l n (n - (i + 1)) (max 0 ((wkA l n a p i).1 - own * l i 0)) (max 0 ((wkA l n a p i).2 - own * (l i 0 + l i 1))))) (max (wkA l n a p i).1 (wkA l n a p i).2 + 1).toNat with ⟨h3, _⟩ | ⟨j, hj2, h4, h5, h6, h7⟩
  · rw [h3] at k1; cases k1
  · rw [h4] at hch s3 s4
    have hj' : chA l n a p i = (j : Int) := hch
    have hcn : ((c i).toNat : Int) = c i := by omega
    have hop := best_opt hl c hc (n - (i + 1)) (max 0 ((wkA l n a p i).1 - c i * l i 0)) (max 0 ((wkA l n a p i).2 - c i * (l i 0 + l i 1))) (by omega) (by omega) (by omega) (by omega) (by omega)
    have := h7 (c i).toNat (by omega) (by simp only [hcn, candA]; exact hop.1)
    simp only [hcn] at this
    generalize candA (l i 2) (j : Int) _ = Z at this s3 s4
    have hop2 := hop.2
    simp only [Ans.lt, Ans.le, candA] at this hop2
    omega
/-- A choice that is returned. -/
theorem chp_ok {n : Nat} {l : Nat → Nat → Int} {a ch : Int} (h : chpE n l a ch = 0) : n ≤ 6 ∧ (∀ i, i < n → tkB (l i) = true) ∧ (0 ≤ a ∧ a ≤ 12) ∧ (0 ≤ ch ∧ ch ≤ 12) ∧ (best l n n a (a + ch)).is = true ∧ chpN n l a ch = n ∧ chpP n l a ch = (best l n n a (a + ch)).price := by
  have hN : chpN n l a ch = n := by simp [chpN, h]
  have hP : chpP n l a ch = (best l n n a (a + ch)).price := by simp [chpP, h]
  unfold chpE at h
  split at h
  · rename_i hv
    split at h
    · rename_i hr
      split at h
      · rename_i hb
        simp only [chpV, Bool.and_eq_true, decide_eq_true_eq, allU_iff] at hv
        simp only [Bool.and_eq_true, in3_iff] at hr
        exact ⟨hv.1, hv.2, hr.1, hr.2, hb, hN, hP⟩
      · cases h
    · cases h
  · cases h
theorem chp_of {n : Nat} {l : Nat → Nat → Int} {a ch : Int} (hn : n ≤ 6) (hl : ∀ i, i < n → tkB (l i) = true) (ha : 0 ≤ a ∧ a ≤ 12) (hc : 0 ≤ ch ∧ ch ≤ 12) (hb : (best l n n a (a + ch)).is = true) : chpE n l a ch = 0 := by
  have hv : chpV n l a ch = true := by simp only [chpV, Bool.and_eq_true, decide_eq_true_eq, allU_iff]; exact ⟨hn, hl⟩
  have hr : (in3 a 0 12 && in3 ch 0 12) = true := by simp only [Bool.and_eq_true, in3_iff]; exact ⟨ha, hc⟩
  simp [chpE, hv, hr, hb]
/-- What the returned choice sums up to. -/
theorem chp_sum {n : Nat} {l : Nat → Nat → Int} {a ch : Int} (h : chpE n l a ch = 0) : (∀ i, i < n → 0 ≤ chA l n a (a + ch) i ∧ chA l n a (a + ch) i ≤ 24) ∧ a ≤ sumT (fun i => chA l n a (a + ch) i * l i 0) n n ∧ a + ch ≤ sumT (fun i => chA l n a (a + ch) i * (l i 0 + l i 1)) n n ∧
    chpP n l a ch = sumT (fun i => chA l n a (a + ch) i * l i 2) n n ∧ (best l n n a (a + ch)).num = sumT (chA l n a (a + ch)) n n := by
  obtain ⟨h1, h2, h3, h4, h5, h6, h7⟩ := chp_ok h
  have hb := best_is h2 (a := a) (p := a + ch) (by omega) (by omega) n (Nat.le_refl _)
  rw [show n - n = 0 by omega] at hb
  obtain ⟨b1, b2, b3, b4⟩ := hb h5
  refine ⟨fun i hi => ?_, b1, b2, by rw [h7]; exact b3, b4⟩
  obtain ⟨w1, w2⟩ := wkA_bd h2 (a := a) (p := a + ch) (by omega) (by omega) i (by omega)
  exact (best_ok h2 (n - i) _ _ (by omega) w1 w2).1
theorem sumT_add {g h : Nat → Int} {n : Nat} : ∀ k, sumT (fun i => g i + h i) n k = sumT g n k + sumT h n k
  | 0 => rfl
  | k + 1 => by simp only [sumT, sumT_add k]; omega
/-- Who needs no more pays no more. -/
theorem chp_less {n : Nat} {l : Nat → Nat → Int} {a ch a' ch' : Int} (h : chpE n l a ch = 0) (ha : 0 ≤ a' ∧ a' ≤ a) (hc : 0 ≤ ch' ∧ ch' ≤ ch) : chpE n l a' ch' = 0 ∧ chpP n l a' ch' ≤ chpP n l a ch := by
  obtain ⟨h1, h2, h3, h4, h5, h6, h7⟩ := chp_ok h
  obtain ⟨s1, s2, s3, s4, s5⟩ := chp_sum h
  have hop := best_opt h2 (chA l n a (a + ch)) (fun i hi => (s1 i hi).1) n a' (a' + ch') (Nat.le_refl _) (by omega) (by omega) (by omega) (by omega)
  have hE := chp_of h1 h2 (a := a') (ch := ch') (by omega) (by omega) hop.1
  refine ⟨hE, ?_⟩
  have := (chp_ok hE).2.2.2.2.2.2
  have h8 := hop.2
  simp only [Ans.le] at h8
  omega
/-- Two groups together. -/
theorem chp_both {n : Nat} {l : Nat → Nat → Int} {a b c d : Int} (h : chpE n l a b = 0) (h' : chpE n l c d = 0) (h1 : a + c ≤ 12) (h2 : b + d ≤ 12) : chpE n l (a + c) (b + d) = 0 ∧ chpP n l (a + c) (b + d) ≤ chpP n l a b + chpP n l c d := by
  obtain ⟨k1, k2, k3, k4, k5, k6, k7⟩ := chp_ok h
  obtain ⟨_, _, k3', k4', _, _, _⟩ := chp_ok h'
  obtain ⟨s1, s2, s3, s4, s5⟩ := chp_sum h
  obtain ⟨t1, t2, t3, t4, t5⟩ := chp_sum h'
  have e : ∀ f : Nat → Int, sumT (fun i => (chA l n a (a + b) i + chA l n c (c + d) i) * f i) n n = sumT (fun i => chA l n a (a + b) i * f i) n n + sumT (fun i => chA l n c (c + d) i * f i) n n := fun f => by
    rw [← sumT_add]
    exact sumT_congr n (Nat.le_refl _) (fun i _ _ => by simp only [Int.add_mul])
  have hop := best_opt k2 (fun i => chA l n a (a + b) i + chA l n c (c + d) i) (fun i hi => by have := (s1 i hi).1; have := (t1 i hi).1; omega) n (a + c) (a + c + (b + d)) (Nat.le_refl _) (by omega) (by omega) (by rw [e]; omega) (by rw [e]; omega)
  have hE := chp_of k1 k2 (a := a + c) (ch := b + d) (by omega) (by omega) hop.1
  refine ⟨hE, ?_⟩
  have := (chp_ok hE).2.2.2.2.2.2
  have h8 := hop.2
  simp only [Ans.le, e] at h8
  omega
theorem chp_pos {n : Nat} {l : Nat → Nat → Int} {a ch : Int} (h : chpE n l a ch = 0) : 0 ≤ chpP n l a ch ∧ chpP n l a ch ≤ 1000000000 := by
  obtain ⟨h1, h2, h3, h4, h5, h6, h7⟩ := chp_ok h
  have := best_ok h2 n a (a + ch) (Nat.le_refl _) (by omega) (by omega)
  rw [h7]
  exact ⟨this.2.1.1, by have := this.2.1.2; omega⟩
end Go.Eng
end
