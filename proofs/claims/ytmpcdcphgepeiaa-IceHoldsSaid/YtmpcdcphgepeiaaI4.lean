/-
  A part of the symbolic machine, of its soundness, and of what functions compute. No condition.
-/
import Derived.Test.YtmpcdcphgepeiaaI3
set_option linter.unusedSimpArgs false
set_option linter.unusedVariables false
/- Both ends of what is told can be true: the plain law. -/
section
namespace Go.Eng
/-- The thin (s = 0) or the thick (s = 1) rink, and the events that make it so. -/
def zS (s : Nat) (z : Nat → Nat → Int) : Nat → Nat → Int := fun i j => if j < 2 then z i s else z i (2 + s)
def e1S (s : Nat) (e : Nat → Int) : Nat → Int := fun j => if j < 3 then e j else if e 0 = 0 then e (3 + s) else e (4 - s)
def eS (s : Nat) (l : Nat → Nat → Int) : Nat → Nat → Int := fun i => e1S s (l i)
def relS (s n : Nat) (x y : PSt) : Prop := ∀ i, i < n → y.z i 0 = x.z i s ∧ y.z i 1 = x.z i s ∧ y.z i 2 = x.z i (2 + s) ∧ y.z i 3 = x.z i (2 + s)
theorem e1S_0 (s : Nat) (e : Nat → Int) : e1S s e 0 = e 0 ∧ e1S s e 1 = e 1 ∧ e1S s e 2 = e 2 := ⟨rfl, rfl, rfl⟩
theorem evB_S {s : Nat} (hs : s < 2) {e : Nat → Int} (h : EvB e) : EvB (e1S s e) := by
  obtain ⟨h1, h2⟩ := h
  refine ⟨h1, fun h4 => ?_⟩
  have := h2 h4
  have hs' : s = 0 ∨ s = 1 := by omega
  rcases hs' with rfl | rfl <;> simp [e1S] <;> split <;> omega
theorem evOk_S {s : Nat} (hs : s < 2) {n : Int} {e : Nat → Int} (h : evOk n e = true) : evOk n (e1S s e) = true := by
  have h1 := evOk_iff.1 h
  exact evOk_iff.2 ⟨h1.1, evB_S hs h1.2⟩
theorem step_S {s n k : Nat} (hs : s < 2) {e : Nat → Int} (he : EvB e) (h3 : e 0 ≠ 3) {x y : PSt} (hx : AllOk n x) (hr : relS s n x y) (hk : k < n) (h0 : zErr e (x.z k) = 0) :
    zErr (e1S s e) (y.z k) = 0 ∧ relS s n (stepZ e k x) (stepZ (e1S s e) k y) := by
  obtain ⟨r0, r1, r2, r3⟩ := hr k hk
  have hz := okZ_iff.1 (hx k hk)
  obtain ⟨he1, he2⟩ := he
  have hs' : s = 0 ∨ s = 1 := by omega
  constructor
  · simp only [zErr, dErr] at h0 ⊢
    by_cases k0 : e 0 = 0
    · have := he2 (by omega)
      simp only [k0, if_true] at h0
      have hb : ¬ 20000 < x.z k 1 + e 4 := by intro hc; rw [if_pos hc] at h0; cases h0
      rcases hs' with rfl | rfl <;> simp [e1S, k0, r1] <;> omega
    · simp [e1S, k0, h3]
  · intro i hi
    by_cases hik : i = k
    · subst hik
      simp only [stepZ, if_true, dZ, dA, dB]
      by_cases k0 : e 0 = 0
      · have := he2 (by omega)
        rcases hs' with rfl | rfl <;> simp [e1S, k0, r0, r1, r2, r3, dZ, dA, dB]
      by_cases k1 : e 0 = 1
      · have := he2 (by omega)
        rcases hs' with rfl | rfl <;> simp [e1S, k1, r0, r1, r2, r3, dZ, dA, dB]
      by_cases k2 : e 0 = 2
      · have := he2 (by omega)
        rcases hs' with rfl | rfl <;> simp [e1S, k2, r0, r1, r2, r3, dZ, dA, dB]
      have k4 : e 0 = 4 := by omega
      rcases hs' with rfl | rfl <;> simp [e1S, k4, r0, r1, r2, r3, dZ, dA, dB]
    · have := hr i hi
      simpa [stepZ, hik] using this
theorem zRun_S {s n : Nat} (hs : s < 2) {e : Nat → Int} (he : EvB e) (h3 : e 0 ≠ 3) : ∀ {c k : Nat} {x y x' : PSt}, AllOk n x → relS s n x y → k + c ≤ n → zRun e c k x = .inr x' → ∃ y', zRun (e1S s e) c k y = .inr y' ∧ relS s n x' y' ∧ AllOk n x'
  | 0, k, x, y, x', hx, hr, hk, h => by simp only [zRun] at h ⊢; cases h; exact ⟨y, rfl, hr, hx⟩
  | c + 1, k, x, y, x', hx, hr, hk, h => by
    simp only [zRun] at h ⊢
    split at h
    · rename_i h0
      obtain ⟨q1, q2⟩ := step_S hs he h3 hx hr (by omega) h0
      rw [if_pos q1]
      exact zRun_S hs he h3 (step_ok he hx (by omega) h0) q2 (by omega) h
    · cases h
theorem evRun_S {s n : Nat} (hs : s < 2) {l : Nat → Nat → Int} : ∀ {c i : Nat} {x y x' : PSt}, AllOk n x → relS s n x y → (∀ j, i ≤ j → j < i + c → l j 0 ≠ 3) → evRun (n : Int) l c i x = .inr x' → ∃ y', evRun (n : Int) (eS s l) c i y = .inr y' ∧ relS s n x' y' ∧ AllOk n x'
  | 0, i, x, y, x', hx, hr, h3, h => by simp only [evRun] at h ⊢; cases h; exact ⟨y, rfl, hr, hx⟩
  | c + 1, i, x, y, x', hx, hr, h3, h => by
    simp only [evRun] at h ⊢
    split at h
    · rename_i hev
      have h1 := evOk_iff.1 hev
      have hne := h3 i (by omega) (by omega)
      rw [if_pos (show evOk (n : Int) (eS s l i) = true from evOk_S hs hev)]
      have ht : toOf (eS s l i) = toOf (l i) := rfl
      have ht1 : eS s l i 1 = l i 1 := rfl
      rw [ht, ht1]
      split at h
      · cases h
      · rename_i x1 hz
        obtain ⟨y1, q1, q2, q3⟩ := zRun_S (n := n) hs h1.2 hne hx hr (by omega) hz
        have q1' : zRun (eS s l i) (toOf (l i) - l i 1 + 1).toNat (l i 1).toNat y = .inr y1 := q1
        rw [q1']
        exact evRun_S hs q3 q2 (fun j hj1 hj2 => h3 j (by omega) (by omega)) h
    · cases h
theorem okZ_S {s : Nat} (hs : s < 2) {z : Nat → Nat → Int} {i : Nat} (h : okZ (z i) = true) : okZ (zS s z i) = true := by
  have := okZ_iff.1 h
  rw [okZ_iff]
  have hs' : s = 0 ∨ s = 1 := by omega
  rcases hs' with rfl | rfl <;> simp [zS] <;> omega
/-- The law: played from one end, the same end comes out. -/
theorem play_S {s n m : Nat} (hs : s < 2) {z l : Nat → Nat → Int} (h3 : ∀ j, j < m → l j 0 ≠ 3) (h : (playT n m z l).e = 0) :
    (playT n m (zS s z) (eS s l)).e = 0 ∧ (playT n m (zS s z) (eS s l)).n = n ∧ ∀ i, i < n → (playT n m (zS s z) (eS s l)).z i 0 = (playT n m z l).z i s ∧ (playT n m (zS s z) (eS s l)).z i 1 = (playT n m z l).z i s ∧
      (playT n m (zS s z) (eS s l)).z i 2 = (playT n m z l).z i (2 + s) ∧ (playT n m (zS s z) (eS s l)).z i 3 = (playT n m z l).z i (2 + s) := by
  unfold playT at h ⊢
  split at h
  · rename_i hr
    have hb := rinkB_iff.1 hr
    have hr' : rinkB n (zS s z) = true := rinkB_iff.2 ⟨hb.1, fun i hi => okZ_S hs (hb.2 i hi)⟩
    rw [if_pos hr']
    split at h
    · rename_i hm
      rw [if_pos hm, if_pos hr, if_pos hm]
      unfold playO at h ⊢
      cases hx : evRun (n : Int) l m 0 ⟨z, fun _ => 0⟩ with
      | inl q => rw [hx] at h; obtain ⟨i, e⟩ := q; exact absurd h (evRun_err hx)
      | inr x' =>
        obtain ⟨y', q1, q2, _⟩ := evRun_S (n := n) (x := ⟨z, fun _ => 0⟩) (y := ⟨zS s z, fun _ => 0⟩) hs hb.2 (fun i hi => ⟨rfl, rfl, rfl, rfl⟩) (fun j _ hj => h3 j (by omega)) hx
        rw [q1]
        exact ⟨rfl, rfl, fun i hi => q2 i hi⟩
    · simp [pErr] at h
  · simp [pErr] at h
theorem playT_ok {n m : Nat} {z l : Nat → Nat → Int} (h : (playT n m z l).e = 0) : rinkB n z = true ∧ m ≤ 256 ∧ (playT n m z l).n = n ∧ ∃ x, evRun (n : Int) l m 0 ⟨z, fun _ => 0⟩ = .inr x ∧ playT n m z l = ⟨n, x.z, x.s, m, 0⟩ := by
  unfold playT at h ⊢
  split at h
  · rename_i hr
    rw [if_pos hr]
    split at h
    · rename_i hm
      rw [if_pos hm]
      unfold playO at h ⊢
      cases hx : evRun (n : Int) l m 0 ⟨z, fun _ => 0⟩ with
      | inl q => rw [hx] at h; obtain ⟨i, e⟩ := q; exact absurd h (evRun_err hx)
      | inr x' => exact ⟨hr, hm, rfl, x', rfl, rfl⟩
    · simp [pErr] at h
  · simp [pErr] at h
theorem playT_bad {n m : Nat} {z l : Nat → Nat → Int} (h : (playT n m z l).e ≠ 0) : (playT n m z l).n = 0 ∧ 0 ≤ (playT n m z l).i ∧ (∀ j, (playT n m z l).s j = 0) := by
  unfold playT at h ⊢
  split
  · rename_i hr
    rw [if_pos hr] at h
    split
    · rename_i hm
      rw [if_pos hm] at h
      unfold playO at h ⊢
      cases hx : evRun (n : Int) l m 0 ⟨z, fun _ => 0⟩ with
      | inl q => obtain ⟨i, e⟩ := q; exact ⟨rfl, by simp [pRes, pErr], fun j => rfl⟩
      | inr x' => rw [hx] at h; exact absurd rfl h
    · exact ⟨rfl, by simp [pErr], fun j => rfl⟩
  · exact ⟨rfl, by simp [pErr], fun j => rfl⟩
end Go.Eng
end

/- Events in two parts, and each zone alone: the plain laws. -/
section
namespace Go.Eng
def addS (d : Nat → Int) (x : PSt) : PSt := ⟨x.z, fun j => x.s j + d j⟩
theorem stepZ_sh (d : Nat → Int) (e : Nat → Int) (k : Nat) (x : PSt) : stepZ e k (addS d x) = addS d (stepZ e k x) := by
  simp only [stepZ, addS]
  congr 1
  funext j
  omega
theorem zRun_sh (d : Nat → Int) (e : Nat → Int) : ∀ (c k : Nat) (x y : PSt), zRun e c k x = .inr y → zRun e c k (addS d x) = .inr (addS d y)
  | 0, k, x, y, h => by simp only [zRun] at h ⊢; cases h; rfl
  | c + 1, k, x, y, h => by
    simp only [zRun] at h ⊢
    split at h
    · rename_i h0
      rw [if_pos (show zErr e ((addS d x).z k) = 0 from h0), stepZ_sh]
      exact zRun_sh d e c (k + 1) _ y h
    · cases h
theorem evRun_sh (d : Nat → Int) (n : Int) (l : Nat → Nat → Int) : ∀ (c i : Nat) (x y : PSt), evRun n l c i x = .inr y → evRun n l c i (addS d x) = .inr (addS d y)
  | 0, i, x, y, h => by simp only [evRun] at h ⊢; cases h; rfl
  | c + 1, i, x, y, h => by
    simp only [evRun] at h ⊢
    split at h
    · rename_i h0
      rw [if_pos h0]
      split at h
      · cases h
      · rename_i x' hx
        rw [zRun_sh d _ _ _ _ _ hx]
        exact evRun_sh d n l c (i + 1) x' y h
    · cases h
theorem evRun_off (n : Int) (l : Nat → Nat → Int) (k : Nat) : ∀ (c i : Nat) (x y : PSt), evRun n l c (k + i) x = .inr y → evRun n (fun a => l (k + a)) c i x = .inr y
  | 0, i, x, y, h => by simp only [evRun] at h ⊢; exact h
  | c + 1, i, x, y, h => by
    simp only [evRun] at h ⊢
    split at h
    · rename_i h0
      rw [if_pos h0]
      split at h
      · cases h
      · rename_i x' hx
        exact evRun_off n l k c (i + 1) x' y h
    · cases h
theorem evRun_app (n : Int) (l : Nat → Nat → Int) (b : Nat) : ∀ (a i : Nat) (x y : PSt), evRun n l (a + b) i x = .inr y → ∃ w, evRun n l a i x = .inr w ∧ evRun n l b (i + a) w = .inr y
  | 0, i, x, y, h => ⟨x, rfl, by simpa using h⟩
  | a + 1, i, x, y, h => by
    rw [show a + 1 + b = a + b + 1 by omega] at h
    simp only [evRun] at h ⊢
    split at h
    · rename_i h0
      rw [if_pos h0]
      split at h
      · cases h
      · rename_i x' hx
        obtain ⟨w, h1, h2⟩ := evRun_app n l b a (i + 1) x' y h
        exact ⟨w, h1, by rw [show i + (a + 1) = i + 1 + a by omega]; exact h2⟩
    · cases h
theorem evRun_join (n : Int) (l : Nat → Nat → Int) (b : Nat) : ∀ (a i : Nat) (x w y : PSt), evRun n l a i x = .inr w → evRun n l b (i + a) w = .inr y → evRun n l (a + b) i x = .inr y
  | 0, i, x, w, y, h, h' => by simp only [evRun] at h; cases h; simpa using h'
  | a + 1, i, x, w, y, h, h' => by
    rw [show a + 1 + b = a + b + 1 by omega]
    simp only [evRun] at h ⊢
    split at h
    · rename_i h0
      rw [if_pos h0]
      split at h
      · cases h
      · rename_i x' hx
        exact evRun_join n l b a (i + 1) x' w y h (by rw [show i + 1 + a = i + (a + 1) by omega]; exact h')
    · cases h
theorem evRun_congr (n : Int) (l l' : Nat → Nat → Int) : ∀ (c i : Nat) (x : PSt), (∀ a, i ≤ a → a < i + c → l a = l' a) → evRun n l c i x = evRun n l' c i x
  | 0, i, x, h => rfl
  | c + 1, i, x, h => by
    simp only [evRun]
    rw [h i (by omega) (by omega)]
    split
    · split
      · rfl
      · exact evRun_congr n l l' c (i + 1) _ (fun a h1 h2 => h a (by omega) (by omega))
    · rfl
theorem stepZ_z (e : Nat → Int) (k : Nat) (x : PSt) (i : Nat) : (stepZ e k x).z i = if i = k then dZ e (x.z i) else x.z i := by
  by_cases h : i = k
  · subst h; simp [stepZ]
  · simp [stepZ, h]
theorem zRun_inv {n : Nat} {e : Nat → Int} (he : EvB e) : ∀ (c k : Nat) (x y : PSt) (b : Int), AllOk n x → SumB b x → k + c ≤ n → zRun e c k x = .inr y →
    AllOk n y ∧ SumB (b + 20000 * c) y ∧ ∀ i, (k ≤ i → i < k + c → zErr e (x.z i) = 0 ∧ y.z i = dZ e (x.z i)) ∧ (i < k ∨ k + c ≤ i → y.z i = x.z i)
  | 0, k, x, y, b, hx, hs, hk, h => by
    simp only [zRun] at h; cases h
    exact ⟨hx, by simpa using hs, fun i => ⟨fun h1 h2 => by omega, fun _ => rfl⟩⟩
  | c + 1, k, x, y, b, hx, hs, hk, h => by
    simp only [zRun] at h
    split at h
    · rename_i h0
      obtain ⟨h1, h2, h3⟩ := zRun_inv he c (k + 1) (stepZ e k x) y (b + 20000) (step_ok he hx (by omega) h0) (step_sum he hx (by omega) hs) (by omega) h
      refine ⟨h1, fun j => by have := h2 j; omega, fun i => ⟨fun a1 a2 => ?_, fun a => ?_⟩⟩
      · rcases Nat.lt_or_ge k i with hki | hki
        · obtain ⟨q1, q2⟩ := (h3 i).1 (by omega) (by omega)
          rw [stepZ_z, if_neg (by omega)] at q1 q2
          exact ⟨q1, q2⟩
        · obtain rfl : i = k := by omega
          have := (h3 i).2 (.inl (by omega))
          rw [stepZ_z, if_pos rfl] at this
          exact ⟨h0, this⟩
      · have := (h3 i).2 (by omega)
        rw [stepZ_z, if_neg (by omega)] at this
        exact this
    · cases h
theorem evRun_one {n : Int} {l : Nat → Nat → Int} {i : Nat} {x y : PSt} (h : evRun n l 1 i x = .inr y) : evOk n (l i) = true ∧ zRun (l i) (toOf (l i) - l i 1 + 1).toNat (l i 1).toNat x = .inr y := by
  simp only [evRun] at h
  split at h
  · rename_i h0
    split at h
    · cases h
    · rename_i x' hx; cases h; exact ⟨h0, hx⟩
  · cases h
theorem evRun_inv {n : Nat} {l : Nat → Nat → Int} : ∀ (c i : Nat) (x y : PSt) (b : Int), AllOk n x → SumB b x → evRun (n : Int) l c i x = .inr y → AllOk n y ∧ SumB (b + 20000 * n * c) y
  | 0, i, x, y, b, hx, hs, h => by simp only [evRun] at h; cases h; exact ⟨hx, by simpa using hs⟩
  | c + 1, i, x, y, b, hx, hs, h => by
    rw [show c + 1 = 1 + c by omega] at h
    obtain ⟨w, h1, h2⟩ := evRun_app (n : Int) l c 1 i x y h
    obtain ⟨h3, h4⟩ := evRun_one h1
    have h5 := evOk_iff.1 h3
    obtain ⟨q1, q2, _⟩ := zRun_inv (n := n) h5.2 _ _ _ _ b hx hs (by omega) h4
    have q3 : SumB (b + 20000 * n) w := fun j => by have := q2 j; omega
    obtain ⟨r1, r2⟩ := evRun_inv c (i + 1) w y (b + 20000 * n) q1 q3 h2
    refine ⟨r1, fun j => ?_⟩
    have := r2 j
    rw [show b + 20000 * (n : Int) * ((c + 1 : Nat) : Int) = b + 20000 * n + 20000 * n * c by push_cast; rw [Int.mul_add]; omega]
    exact this
/-- An event as it is for the zone alone. -/
def e0 (e : Nat → Int) : Nat → Int := fun j => if j = 1 ∨ j = 2 then 0 else e j
def takeB (w : Int) (e : Nat → Int) : Bool := decide (e 1 ≤ w) && decide (w ≤ toOf e)
def ownC (w : Int) (l : Nat → Nat → Int) : Nat → Nat
  | 0 => 0
  | i + 1 => if takeB w (l i) = true then ownC w l i + 1 else ownC w l i
def ownA (w : Int) (l : Nat → Nat → Int) : Nat → Nat → Nat → Int
  | 0 => fun _ _ => 0
  | i + 1 => if takeB w (l i) = true then fun a b => if a < ownC w l i then ownA w l i a b else e0 (l i) b else ownA w l i
theorem ownC_le (w : Int) (l : Nat → Nat → Int) : ∀ i, ownC w l i ≤ i
  | 0 => Nat.le_refl _
  | i + 1 => by have := ownC_le w l i; unfold ownC; split <;> omega
theorem own_run {n w : Nat} (hw : w < n) {l z : Nat → Nat → Int} (hz : ∀ i, i < n → okZ (z i) = true) {s0 s1 : Nat → Int} : ∀ (i : Nat) (y : PSt), evRun (n : Int) l i 0 ⟨z, fun _ => 0⟩ = .inr y →
    ∃ y1, evRun 1 (ownA (w : Int) l i) (ownC (w : Int) l i) 0 ⟨fun a => z (w + a), fun _ => 0⟩ = .inr y1 ∧ y1.z 0 = y.z w
  | 0, y, h => by
    simp only [evRun] at h; cases h
    exact ⟨_, rfl, rfl⟩
  | i + 1, y, h => by
    obtain ⟨v, h1, h2⟩ := evRun_app (n : Int) l 1 i 0 _ y h
    obtain ⟨y1, q1, q2⟩ := own_run hw hz (s0 := s0) (s1 := s1) i v h1
    rw [Nat.zero_add] at h2
    obtain ⟨h3, h4⟩ := evRun_one h2
    have h5 := evOk_iff.1 h3
    obtain ⟨v1, v2⟩ := evRun_inv i 0 ⟨z, fun _ => 0⟩ v 0 hz (fun j => ⟨Int.le_refl _, Int.le_refl _⟩) h1
    obtain ⟨_, _, q3⟩ := zRun_inv (n := n) h5.2 _ _ _ _ _ v1 v2 (by omega) h4
    unfold ownC ownA
    by_cases ht : takeB (w : Int) (l i) = true
    · rw [if_pos ht, if_pos ht]
      simp only [takeB, Bool.and_eq_true, decide_eq_true_eq] at ht
      obtain ⟨r1, r2⟩ := (q3 w).1 (by omega) (by omega)
      have hto : toOf (e0 (l i)) = 0 := by simp [toOf, e0]
      have hok : evOk 1 (e0 (l i)) = true := evOk_iff.2 ⟨⟨by simp [e0], by rw [hto]; simp [e0], by rw [hto]; omega⟩, h5.2⟩
      refine ⟨stepZ (e0 (l i)) 0 y1, evRun_join 1 _ 1 _ 0 _ y1 _ ?_ ?_, ?_⟩
      · rw [← q1]
        exact evRun_congr 1 _ _ _ 0 _ (fun a _ ha => by funext b; simp [show a < ownC (w : Int) l i by omega])
      · simp only [evRun, Nat.zero_add, Nat.lt_irrefl, if_false]
        have e1 : (fun b => e0 (l i) b) = e0 (l i) := rfl
        rw [e1, if_pos hok, hto]
        have e2 : ((0 : Int) - e0 (l i) 1 + 1).toNat = 1 := by simp [e0]
        have e3 : (e0 (l i) 1).toNat = 0 := by simp [e0]
        rw [e2, e3]
        have hz0 : zErr (e0 (l i)) (y1.z 0) = 0 := by rw [q2]; exact r1
        simp only [zRun, if_pos hz0]
      · rw [stepZ_z, if_pos rfl, q2, r2]
        rfl
    · rw [if_neg ht, if_neg ht]
      refine ⟨y1, q1, ?_⟩
      rw [q2]
      refine ((q3 w).2 ?_).symm
      simp only [takeB, Bool.and_eq_true, decide_eq_true_eq] at ht
      omega
theorem playT_def {n m : Nat} {z l : Nat → Nat → Int} {x : PSt} (hr : rinkB n z = true) (hm : m ≤ 256) (h : evRun (n : Int) l m 0 ⟨z, fun _ => 0⟩ = .inr x) : playT n m z l = ⟨n, x.z, x.s, m, 0⟩ := by
  unfold playT playO
  rw [if_pos hr, if_pos hm, h]
  rfl
/-- Events in two parts. -/
theorem play_split {n m k : Nat} {z l : Nat → Nat → Int} (hk : k ≤ m) (h : (playT n m z l).e = 0) : ∃ (h1 h2 : Nat → Nat → Int) (s1 s2 : Nat → Int), playT n k z l = ⟨n, h1, s1, k, 0⟩ ∧
    playT n (m - k) h1 (fun i => l (k + i)) = ⟨n, h2, s2, (m - k : Nat), 0⟩ ∧ (playT n m z l).z = h2 ∧ ∀ j, (playT n m z l).s j = s1 j + s2 j ∧ (0 ≤ s1 j ∧ s1 j ≤ 20000 * n * m) ∧ (0 ≤ s2 j ∧ s2 j ≤ 20000 * n * m) := by
  obtain ⟨hr, hm, _, x, hx, hp⟩ := playT_ok h
  have hb := rinkB_iff.1 hr
  have hx' := hx
  rw [show m = k + (m - k) by omega] at hx'
  obtain ⟨v, q1, q2⟩ := evRun_app (n : Int) l (m - k) k 0 _ x hx'
  rw [Nat.zero_add] at q2
  have z0 : SumB 0 (⟨z, fun _ => 0⟩ : PSt) := fun j => ⟨Int.le_refl _, Int.le_refl _⟩
  obtain ⟨v1, v2⟩ := evRun_inv k 0 ⟨z, fun _ => 0⟩ v 0 hb.2 z0 q1
  obtain ⟨x1, x2⟩ := evRun_inv m 0 ⟨z, fun _ => 0⟩ x 0 hb.2 z0 hx
  have hr1 : rinkB n v.z = true := rinkB_iff.2 ⟨hb.1, v1⟩
  have q3 := evRun_off (n : Int) l k (m - k) 0 v x q2
  have q4 := evRun_sh (fun j => - v.s j) (n : Int) (fun a => l (k + a)) (m - k) 0 v x q3
  have e1 : addS (fun j => - v.s j) v = ⟨v.z, fun _ => 0⟩ := by
    simp only [addS]; congr 1; funext j; omega
  rw [e1] at q4
  have y0 : SumB 0 (⟨v.z, fun _ => 0⟩ : PSt) := fun j => ⟨Int.le_refl _, Int.le_refl _⟩
  obtain ⟨_, y2⟩ := evRun_inv (m - k) 0 ⟨v.z, fun _ => 0⟩ _ 0 v1 y0 q4
  have hle : 20000 * (n : Int) * (k : Int) ≤ 20000 * n * m := Int.mul_le_mul_of_nonneg_left (by omega) (by omega)
  refine ⟨v.z, x.z, v.s, (addS (fun j => - v.s j) x).s, playT_def hr (by omega) q1, playT_def hr1 (by omega) q4, by rw [hp], fun j => ⟨by rw [hp]; simp only [addS]; omega, ?_, ?_⟩⟩
  · have := v2 j; omega
  · have a := y2 j
    have b := x2 j
    have c := v2 j
    exact ⟨a.1, by simp only [addS]; omega⟩
theorem play_alone {n m w : Nat} (hw : w < n) {z l : Nat → Nat → Int} (h : (playT n m z l).e = 0) : ∃ (h1 : Nat → Nat → Int) (s1 : Nat → Int),
    playT 1 (ownC (w : Int) l m) (fun a => z (w + a)) (ownA (w : Int) l m) = ⟨1, h1, s1, (ownC (w : Int) l m : Nat), 0⟩ ∧ h1 0 = (playT n m z l).z w := by
  obtain ⟨hr, hm, _, x, hx, hp⟩ := playT_ok h
  have hb := rinkB_iff.1 hr
  obtain ⟨y1, q1, q2⟩ := own_run hw hb.2 (s0 := fun _ => 0) (s1 := fun _ => 0) m x hx
  have := ownC_le (w : Int) l m
  refine ⟨y1.z, y1.s, playT_def (rinkB_iff.2 ⟨by omega, fun i hi => ?_⟩) (by omega) q1, by rw [q2, hp]⟩
  obtain rfl : i = 0 := by omega
  exact hb.2 w hw
end Go.Eng
end
