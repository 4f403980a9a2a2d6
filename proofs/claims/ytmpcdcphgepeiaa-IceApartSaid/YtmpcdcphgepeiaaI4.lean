/-
  A part of the symbolic machine, of its soundness, and of what functions compute. No condition.
-/
import Derived.Test.YtmpcdcphgepeiaaI3
set_option linter.unusedSimpArgs false
set_option linter.unusedVariables false
/- Both ends of what is told can be true: the plain law. -/
section
namespace Go.Eng
/-- The thin (s = 0) or the thick (s = 1) rink, and the events that make it so. -/
def zS (s : Nat) (z : Nat → Nat → Int) : Nat → Nat → Int := fun i j => if j < 2 then z i s else z i (2 + s)
def e1S (s : Nat) (e : Nat → Int) : Nat → Int := fun j => if j < 3 then e j else if e 0 = 0 then e (3 + s) else e (4 - s)
def eS (s : Nat) (l : Nat → Nat → Int) : Nat → Nat → Int := fun i => e1S s (l i)
def relS (s n : Nat) (x y : PSt) : Prop := ∀ i, i < n → y.z i 0 = x.z i s ∧ y.z i 1 = x.z i s ∧ y.z i 2 = x.z i (2 + s) ∧ y.z i 3 = x.z i (2 + s)
theorem e1S_0 (s : Nat) (e : Nat → Int) : e1S s e 0 = e 0 ∧ e1S s e 1 = e 1 ∧ e1S s e 2 = e 2 := ⟨rfl, rfl, rfl⟩
theorem evB_S {s : Nat} (hs : s < 2) {e : Nat → Int} (h : EvB e) : EvB (e1S s e) := by
  obtain ⟨h1, h2⟩ := h
  refine ⟨h1, fun h4 => ?_⟩
  have := h2 h4
  have hs' : s = 0 ∨ s = 1 := by omega
  rcases hs' with rfl | rfl <;> simp [e1S] <;> split <;> omega
theorem evOk_S {s : Nat} (hs : s < 2) {n : Int} {e : Nat → Int} (h : evOk n e = true) : evOk n (e1S s e) = true := by
  have h1 := evOk_iff.1 h
  exact evOk_iff.2 ⟨h1.1, evB_S hs h1.2⟩
theorem step_S {s n k : Nat} (hs : s < 2) {e : Nat → Int} (he : EvB e) (h3 : e 0 ≠ 3) {x y : PSt} (hx : AllOk n x) (hr : relS s n x y) (hk : k < n) (h0 : zErr e (x.z k) = 0) :
    zErr (e1S s e) (y.z k) = 0 ∧ relS s n (stepZ e k x) (stepZ (e1S s e) k y) := by
  obtain ⟨r0, r1, r2, r3⟩ := hr k hk
  have hz := okZ_iff.1 (hx k hk)
  obtain ⟨he1, he2⟩ := he
  have hs' : s = 0 ∨ s = 1 := by omega
  constructor
  · simp only [zErr, dErr] at h0 ⊢
    by_cases k0 : e 0 = 0
    · have := he2 (by omega)
      simp only [k0, if_true] at h0
      have hb : ¬ 20000 < x.z k 1 + e 4 := by intro hc; rw [if_pos hc] at h0; cases h0
      rcases hs' with rfl | rfl <;> simp [e1S, k0, r1] <;> omega
    · simp [e1S, k0, h3]
  · intro i hi
    by_cases hik : i = k
    · subst hik
      simp only [stepZ, if_true, dZ, dA, dB]
      by_cases k0 : e 0 = 0
      · have := he2 (by omega)
        rcases hs' with rfl | rfl <;> simp [e1S, k0, r0, r1, r2, r3, dZ, dA, dB]
      by_cases k1 : e 0 = 1
      · have := he2 (by omega)
        rcases hs' with rfl | rfl <;> simp [e1S, k1, r0, r1, r2, r3, dZ, dA, dB]
      by_cases k2 : e 0 = 2
      · have := he2 (by omega)
        rcases hs' with rfl | rfl <;> simp [e1S, k2, r0, r1, r2, r3, dZ, dA, dB]
      have k4 : e 0 = 4 := by omega
      rcases hs' with rfl | rfl <;> simp [e1S, k4, r0, r1, r2, r3, dZ, dA, dB]
    · have := hr i hi
      simpa [stepZ, hik] using this
theorem zRun_S {s n : Nat} (hs : s < 2) {e : Nat → Int} (he : EvB e) (h3 : e 0 ≠ 3) : ∀ {c k : Nat} {x y x' : PSt}, AllOk n x → relS s n x y → k + c ≤ n → zRun e c k x = .inr x' → ∃ y', zRun (e1S s e) c k y = .inr y' ∧ relS s n x' y' ∧ AllOk n x'
  | 0, k, x, y, x', hx, hr, hk, h => by simp only [zRun] at h ⊢; cases h; exact ⟨y, rfl, hr, hx⟩
  | c + 1, k, x, y, x', hx, hr, hk, h => by
    simp only [zRun] at h ⊢
    split at h
    · rename_i h0
      obtain ⟨q1, q2⟩ := step_S hs he h3 hx hr (by omega) h0
      rw [if_pos q1]
      exact zRun_S hs he h3 (step_ok he hx (by omega) h0) q2 (by omega) h
    · cases h
theorem evRun_S {s n : Nat} (hs : s < 2) {l : Nat → Nat → Int} : ∀ {c i : Nat} {x y x' : PSt}, AllOk n x → relS s n x y → (∀ j, i ≤ j → j < i + c → l j 0 ≠ 3) → evRun (n : Int) l c i x = .inr x' → ∃ y', evRun (n : Int) (eS s l) c i y = .inr y' ∧ relS s n x' y' ∧ AllOk n x'
  | 0, i, x, y, x', hx, hr, h3, h => by simp only [evRun] at h ⊢; cases h; exact ⟨y, rfl, hr, hx⟩
  | c + 1, i, x, y, x', hx, hr, h3, h => by
    simp only [evRun] at h ⊢
    split at h
    · rename_i hev
      have h1 := evOk_iff.1 hev
      have hne := h3 i (by omega) (by omega)
      rw [if_pos (show evOk (n : Int) (eS s l i) = true from evOk_S hs hev)]
      have ht : toOf (eS s l i) = toOf (l i) := rfl
      have ht1 : eS s l i 1 = l i 1 := rfl
      rw [ht, ht1]
      split at h
      · cases h
      · rename_i x1 hz
        obtain ⟨y1, q1, q2, q3⟩ := zRun_S (n := n) hs h1.2 hne hx hr (by omega) hz
        have q1' : zRun (eS s l i) (toOf (l i) - l i 1 + 1).toNat (l i 1).toNat y = .inr y1 := q1
        rw [q1']
        exact evRun_S hs q3 q2 (fun j hj1 hj2 => h3 j (by omega) (by omega)) h
    · cases h
theorem okZ_S {s : Nat} (hs : s < 2) {z : Nat → Nat → Int} {i : Nat} (h : okZ (z i) = true) : okZ (zS s z i) = true := by
  have := okZ_iff.1 h
  rw [okZ_iff]
  have hs' : s = 0 ∨ s = 1 := by omega
  rcases hs' with rfl | rfl <;> simp [zS] <;> omega
/-- The law: played from one end, the same end comes out. -/
theorem play_S {s n m : Nat} (hs : s < 2) {z l : Nat → Nat → Int} (h3 : ∀ j, j < m → l j 0 ≠ 3) (h : (playT n m z l).e = 0) :
    (playT n m (zS s z) (eS s l)).e = 0 ∧ (playT n m (zS s z) (eS s l)).n = n ∧ ∀ i, i < n → (playT n m (zS s z) (eS s l)).z i 0 = (playT n m z l).z i s ∧ (playT n m (zS s z) (eS s l)).z i 1 = (playT n m z l).z i s ∧
      (playT n m (zS s z) (eS s l)).z i 2 = (playT n m z l).z i (2 + s) ∧ (playT n m (zS s z) (eS s l)).z i 3 = (playT n m z l).z i (2 + s) := by
  unfold playT at h ⊢
  split at h
  · rename_i hr
    have hb := rinkB_iff.1 hr
    have hr' : rinkB n (zS s z) = true := rinkB_iff.2 ⟨hb.1, fun i hi => okZ_S hs (hb.2 i hi)⟩
    rw [if_pos hr']
    split at h
    · rename_i hm
      rw [if_pos hm, if_pos hr, if_pos hm]
      unfold playO at h ⊢
      cases hx : evRun (n : Int) l m 0 ⟨z, fun _ => 0⟩ with
      | inl q => rw [hx] at h; obtain ⟨i, e⟩ := q; exact absurd h (evRun_err hx)
      | inr x' =>
        obtain ⟨y', q1, q2, _⟩ := evRun_S (n := n) (x := ⟨z, fun _ => 0⟩) (y := ⟨zS s z, fun _ => 0⟩) hs hb.2 (fun i hi => ⟨rfl, rfl, rfl, rfl⟩) (fun j _ hj => h3 j (by omega)) hx
        rw [q1]
        exact ⟨rfl, rfl, fun i hi => q2 i hi⟩
    · simp [pErr] at h
  · simp [pErr] at h
theorem playT_ok {n m : Nat} {z l : Nat → Nat → Int} (h : (playT n m z l).e = 0) : rinkB n z = true ∧ m ≤ 256 ∧ (playT n m z l).n = n ∧ ∃ x, evRun (n : Int) l m 0 ⟨z, fun _ => 0⟩ = .inr x ∧ playT n m z l = ⟨n, x.z, x.s, m, 0⟩ := by
  unfold playT at h ⊢
  split at h
  · rename_i hr
    rw [if_pos hr]
    split at h
    · rename_i hm
      rw [if_pos hm]
      unfold playO at h ⊢
      cases hx : evRun (n : Int) l m 0 ⟨z, fun _ => 0⟩ with
      | inl q => rw [hx] at h; obtain ⟨i, e⟩ := q; exact absurd h (evRun_err hx)
      | inr x' => exact ⟨hr, hm, rfl, x', rfl, rfl⟩
    · simp [pErr] at h
  · simp [pErr] at h
theorem playT_bad {n m : Nat} {z l : Nat → Nat → Int} (h : (playT n m z l).e ≠ 0) : (playT n m z l).n = 0 ∧ 0 ≤ (playT n m z l).i ∧ (∀ j, (playT n m z l).s j = 0) := by
  unfold playT at h ⊢
  split
  · rename_i hr
    rw [if_pos hr] at h
    split
    · rename_i hm
      rw [if_pos hm] at h
      unfold playO at h ⊢
      cases hx : evRun (n : Int) l m 0 ⟨z, fun _ => 0⟩ with
      | inl q => obtain ⟨i, e⟩ := q; exact ⟨rfl, by simp [pRes, pErr], fun j => rfl⟩
      | inr x' => rw [hx] at h; exact absurd rfl h
    · exact ⟨rfl, by simp [pErr], fun j => rfl⟩
  · exact ⟨rfl, by simp [pErr], fun j => rfl⟩
end Go.Eng
end
