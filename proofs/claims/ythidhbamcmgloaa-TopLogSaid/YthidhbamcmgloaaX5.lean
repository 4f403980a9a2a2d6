/-
  A part of the symbolic machine, of its soundness, and of what functions compute. No condition.
-/
import Derived.Test.YthidhbamcmgloaaX4
set_option linter.unusedSimpArgs false
set_option linter.unusedVariables false
/- Bits in bytes; codes of numbers, written and read. No program in sight. -/
section
namespace Go.Eng
/- ### how many bits a number has -/
def bl (n : Nat) : Nat := if n = 0 then 0 else Nat.log2 n + 1
theorem bl_eq {n k : Nat} (h1 : 2 ^ k ≤ n) (h2 : n < 2 ^ (k + 1)) : bl n = k + 1 := by
  have h0 : n ≠ 0 := by have := Nat.two_pow_pos k; omega
  have h3 := (Nat.le_log2 h0).2 h1
  have h4 := (Nat.log2_lt h0).2 h2
  rw [bl, if_neg h0]; omega
theorem bl_bd {n : Nat} (h : n ≠ 0) : ∃ k, bl n = k + 1 ∧ 2 ^ k ≤ n ∧ n < 2 ^ (k + 1) := by
  refine ⟨Nat.log2 n, by rw [bl, if_neg h], Nat.log2_self_le h, Nat.lt_log2_self⟩
theorem bl_shift {n s : Nat} (h : n / 2 ^ s ≠ 0) : bl n = bl (n / 2 ^ s) + s := by
  obtain ⟨k, h1, h2, h3⟩ := bl_bd h
  have h4 : 2 ^ (k + s) ≤ n := by rw [Nat.pow_add]; exact (Nat.le_div_iff_mul_le (Nat.two_pow_pos s)).1 h2
  have h5 : n < 2 ^ (k + s + 1) := by rw [show k + s + 1 = k + 1 + s by omega, Nat.pow_add]; exact (Nat.div_lt_iff_lt_mul (Nat.two_pow_pos s)).1 h3
  rw [h1, bl_eq h4 h5]; omega
theorem bl_lt {n k : Nat} (h : n < 2 ^ k) : bl n ≤ k := by
  by_cases h0 : n = 0
  · rw [bl, if_pos h0]; omega
  · rw [bl, if_neg h0]
    have := (Nat.log2_lt h0).2 h
    omega
/- ### the bits of a number, the highest first -/
def nb (n : Nat) : Nat → List Bool
  | 0 => []
  | m + 1 => n.testBit m :: nb n m
theorem nb_len (n : Nat) : ∀ m, (nb n m).length = m
  | 0 => rfl
  | m + 1 => by simp [nb, nb_len n m]
theorem nb_get (n : Nat) : ∀ m i, i < m → (nb n m).getD i false = n.testBit (m - 1 - i)
  | 0, i, h => absurd h (by omega)
  | m + 1, 0, _ => by simp [nb]
  | m + 1, i + 1, h => by
    have := nb_get n m i (by omega)
    simp only [nb, List.getD_cons_succ, this]
    congr 1; omega
/-- The code of a number: as many zeros as it has more bits than one, and its bits. -/
def cod (n : Nat) : List Bool := nb 0 (bl n - 1) ++ nb n (bl n)
/- ### eight bits in a byte -/
def b8 (g : Nat → Bool) : Nat := 128 * (g 0).toNat + 64 * (g 1).toNat + 32 * (g 2).toNat + 16 * (g 3).toNat + 8 * (g 4).toNat + 4 * (g 5).toNat + 2 * (g 6).toNat + (g 7).toNat
theorem b_le (b : Bool) : b.toNat ≤ 1 := by cases b <;> decide
theorem b8_lt (g : Nat → Bool) : b8 g < 256 := by
  have h0 := b_le (g 0); have h1 := b_le (g 1); have h2 := b_le (g 2); have h3 := b_le (g 3)
  have h4 := b_le (g 4); have h5 := b_le (g 5); have h6 := b_le (g 6); have h7 := b_le (g 7)
  unfold b8; omega
theorem b8_bit (g : Nat → Bool) {s : Nat} (hs : s < 8) : b8 g / 2 ^ (7 - s) % 2 = (g s).toNat := by
  have h0 := b_le (g 0); have h1 := b_le (g 1); have h2 := b_le (g 2); have h3 := b_le (g 3)
  have h4 := b_le (g 4); have h5 := b_le (g 5); have h6 := b_le (g 6); have h7 := b_le (g 7)
  rcases (by omega : s = 0 ∨ s = 1 ∨ s = 2 ∨ s = 3 ∨ s = 4 ∨ s = 5 ∨ s = 6 ∨ s = 7) with rfl | rfl | rfl | rfl | rfl | rfl | rfl | rfl <;> simp only [Nat.reduceSub, Nat.reducePow, b8] <;> omega
theorem or_low {q b i : Nat} (h : b < 2 ^ i) : 2 ^ i * q ||| b = 2 ^ i * q + b := (Nat.two_pow_add_eq_or_of_lt h q).symm
theorem b8_or {g g' : Nat → Bool} {s : Nat} (hs : s < 8) (h1 : ∀ t, t < s → g' t = g t) (h2 : ∀ t, s ≤ t → t < 8 → g t = false) (h3 : ∀ t, s < t → t < 8 → g' t = false) : b8 g ||| ((g' s).toNat * 2 ^ (7 - s)) = b8 g' := by
  have hb := b_le (g' s)
  have hq : ∃ q, b8 g = 2 ^ (8 - s) * q ∧ b8 g' = 2 ^ (8 - s) * q + (g' s).toNat * 2 ^ (7 - s) := by
    have hz := fun t h h' => h2 t h h'
    have hz' := fun t h h' => h3 t h h'
    have hf : (false : Bool).toNat = 0 := rfl
    rcases (by omega : s = 0 ∨ s = 1 ∨ s = 2 ∨ s = 3 ∨ s = 4 ∨ s = 5 ∨ s = 6 ∨ s = 7) with rfl | rfl | rfl | rfl | rfl | rfl | rfl | rfl
    · refine ⟨0, ?_, ?_⟩
      · simp only [b8, h2 0 (by omega) (by omega), h2 1 (by omega) (by omega), h2 2 (by omega) (by omega), h2 3 (by omega) (by omega), h2 4 (by omega) (by omega), h2 5 (by omega) (by omega), h2 6 (by omega) (by omega), h2 7 (by omega) (by omega), hf]
      · simp only [b8, h3 1 (by omega) (by omega), h3 2 (by omega) (by omega), h3 3 (by omega) (by omega), h3 4 (by omega) (by omega), h3 5 (by omega) (by omega), h3 6 (by omega) (by omega), h3 7 (by omega) (by omega), hf]; omega
    · refine ⟨(g 0).toNat, ?_, ?_⟩
      · simp only [b8, h2 1 (by omega) (by omega), h2 2 (by omega) (by omega), h2 3 (by omega) (by omega), h2 4 (by omega) (by omega), h2 5 (by omega) (by omega), h2 6 (by omega) (by omega), h2 7 (by omega) (by omega), hf]; omega
      · simp only [b8, h1 0 (by omega), h3 2 (by omega) (by omega), h3 3 (by omega) (by omega), h3 4 (by omega) (by omega), h3 5 (by omega) (by omega), h3 6 (by omega) (by omega), h3 7 (by omega) (by omega), hf]; omega
    · refine ⟨2 * (g 0).toNat + (g 1).toNat, ?_, ?_⟩
      · simp only [b8, h2 2 (by omega) (by omega), h2 3 (by omega) (by omega), h2 4 (by omega) (by omega), h2 5 (by omega) (by omega), h2 6 (by omega) (by omega), h2 7 (by omega) (by omega), hf]; omega
      · simp only [b8, h1 0 (by omega), h1 1 (by omega), h3 3 (by omega) (by omega), h3 4 (by omega) (by omega), h3 5 (by omega) (by omega), h3 6 (by omega) (by omega), h3 7 (by omega) (by omega), hf]; omega
    · refine ⟨4 * (g 0).toNat + 2 * (g 1).toNat + (g 2).toNat, ?_, ?_⟩
      · simp only [b8, h2 3 (by omega) (by omega), h2 4 (by omega) (by omega), h2 5 (by omega) (by omega), h2 6 (by omega) (by omega), h2 7 (by omega) (by omega), hf]; omega
      · simp only [b8, h1 0 (by omega), h1 1 (by omega), h1 2 (by omega), h3 4 (by omega) (by omega), h3 5 (by omega) (by omega), h3 6 (by omega) (by omega), h3 7 (by omega) (by omega), hf]; omega
    · refine ⟨8 * (g 0).toNat + 4 * (g 1).toNat + 2 * (g 2).toNat + (g 3).toNat, ?_, ?_⟩
      · simp only [b8, h2 4 (by omega) (by omega), h2 5 (by omega) (by omega), h2 6 (by omega) (by omega), h2 7 (by omega) (by omega), hf]; omega
      · simp only [b8, h1 0 (by omega), h1 1 (by omega), h1 2 (by omega), h1 3 (by omega), h3 5 (by omega) (by omega), h3 6 (by omega) (by omega), h3 7 (by omega) (by omega), hf]; omega
    · refine ⟨16 * (g 0).toNat + 8 * (g 1).toNat + 4 * (g 2).toNat + 2 * (g 3).toNat + (g 4).toNat, ?_, ?_⟩
      · simp only [b8, h2 5 (by omega) (by omega), h2 6 (by omega) (by omega), h2 7 (by omega) (by omega), hf]; omega
      · simp only [b8, h1 0 (by omega), h1 1 (by omega), h1 2 (by omega), h1 3 (by omega), h1 4 (by omega), h3 6 (by omega) (by omega), h3 7 (by omega) (by omega), hf]; omega
    · refine ⟨32 * (g 0).toNat + 16 * (g 1).toNat + 8 * (g 2).toNat + 4 * (g 3).toNat + 2 * (g 4).toNat + (g 5).toNat, ?_, ?_⟩
      · simp only [b8, h2 6 (by omega) (by omega), h2 7 (by omega) (by omega), hf]; omega
      · simp only [b8, h1 0 (by omega), h1 1 (by omega), h1 2 (by omega), h1 3 (by omega), h1 4 (by omega), h1 5 (by omega), h3 7 (by omega) (by omega), hf]; omega
    · refine ⟨64 * (g 0).toNat + 32 * (g 1).toNat + 16 * (g 2).toNat + 8 * (g 3).toNat + 4 * (g 4).toNat + 2 * (g 5).toNat + (g 6).toNat, ?_, ?_⟩
      · simp only [b8, h2 7 (by omega) (by omega), hf]; omega
      · simp only [b8, h1 0 (by omega), h1 1 (by omega), h1 2 (by omega), h1 3 (by omega), h1 4 (by omega), h1 5 (by omega), h1 6 (by omega), hf]; omega
  obtain ⟨q, hq1, hq2⟩ := hq
  rw [hq1, hq2, or_low]
  have : 2 ^ (8 - s) = 2 * 2 ^ (7 - s) := by rw [← Nat.pow_succ']; congr 1; omega
  have h4 := Nat.mul_le_mul_right (2 ^ (7 - s)) hb
  have h5 := Nat.two_pow_pos (7 - s)
  omega
/-- The j-th byte of bits; what is behind them is 0. -/
def byt (L : List Bool) (j : Nat) : Nat := b8 fun s => L.getD (8 * j + s) false
theorem byt_lt (L : List Bool) (j : Nat) : byt L j < 256 := b8_lt _
theorem byt_bit (L : List Bool) (p : Nat) : byt L (p / 8) / 2 ^ (7 - p % 8) % 2 = (L.getD p false).toNat := by
  have h := b8_bit (fun s => L.getD (8 * (p / 8) + s) false) (show p % 8 < 8 by omega)
  rw [byt, h, show 8 * (p / 8) + p % 8 = p by omega]
theorem byt_zero {L : List Bool} {j : Nat} (h : L.length ≤ 8 * j) : byt L j = 0 := by
  have : (fun s => L.getD (8 * j + s) false) = fun _ => false := by
    funext s
    simp only [List.getD_eq_getElem?_getD]
    rw [List.getElem?_eq_none (by omega)]; rfl
  rw [byt, this]; rfl
theorem byt_app {L K : List Bool} {j : Nat} (h : 8 * j + 8 ≤ L.length) : byt (L ++ K) j = byt L j := by
  have : ∀ s, s < 8 → (L ++ K).getD (8 * j + s) false = L.getD (8 * j + s) false := fun s hs => by
    simp only [List.getD_eq_getElem?_getD]
    rw [List.getElem?_append_left (by omega)]
  simp only [byt, b8, this _ (show 0 < 8 by omega), this _ (show 1 < 8 by omega), this _ (show 2 < 8 by omega), this _ (show 3 < 8 by omega), this _ (show 4 < 8 by omega), this _ (show 5 < 8 by omega), this _ (show 6 < 8 by omega), this _ (show 7 < 8 by omega)]
/-- One more bit. -/
theorem byt_snoc (L : List Bool) (b : Bool) : byt L (L.length / 8) ||| (b.toNat * 2 ^ (7 - L.length % 8)) = byt (L ++ [b]) (L.length / 8) := by
  have hb : (L ++ [b]).getD (8 * (L.length / 8) + L.length % 8) false = b := by
    rw [show 8 * (L.length / 8) + L.length % 8 = L.length by omega]
    simp
  have := b8_or (g := fun s => L.getD (8 * (L.length / 8) + s) false) (g' := fun s => (L ++ [b]).getD (8 * (L.length / 8) + s) false) (show L.length % 8 < 8 by omega)
    (fun t ht => by simp only [List.getD_eq_getElem?_getD]; rw [List.getElem?_append_left (by omega)])
    (fun t h1 h2 => by simp only [List.getD_eq_getElem?_getD]; rw [List.getElem?_eq_none (by omega)]; rfl)
    (fun t h1 h2 => by simp only [List.getD_eq_getElem?_getD]; rw [List.getElem?_eq_none (by simp; omega)]; rfl)
  simp only [hb] at this
  exact this
/- ### reading -/
/-- So many bits behind p as a number. -/
def rdB (β : Nat → Nat) (p : Nat) : Nat → Nat
  | 0 => 0
  | i + 1 => 2 * rdB β p i + β (p + i)
theorem rdB_lt {β : Nat → Nat} (hb : ∀ p, β p ≤ 1) (p : Nat) : ∀ i, rdB β p i < 2 ^ i
  | 0 => by simp [rdB]
  | i + 1 => by have := rdB_lt hb p i; have := hb (p + i); simp only [rdB, Nat.pow_succ]; omega
/-- Zeros behind p. -/
def zc (β : Nat → Nat) (p : Nat) : Nat → Nat
  | 0 => 0
  | f + 1 => if β p = 0 then zc β (p + 1) f + 1 else 0
theorem zc_get {β : Nat → Nat} : ∀ {f p : Nat}, zc β p f < f → (∀ i, i < zc β p f → β (p + i) = 0) ∧ β (p + zc β p f) ≠ 0
  | 0, p, h => absurd h (by omega)
  | f + 1, p, h => by
    simp only [zc] at h ⊢
    by_cases h0 : β p = 0
    · rw [if_pos h0] at h ⊢
      obtain ⟨h1, h2⟩ := zc_get (β := β) (f := f) (p := p + 1) (by omega)
      refine ⟨fun i hi => ?_, by rw [show p + (zc β (p + 1) f + 1) = p + 1 + zc β (p + 1) f by omega]; exact h2⟩
      rcases i with _ | i
      · exact h0
      · rw [show p + (i + 1) = p + 1 + i by omega]; exact h1 i (by omega)
    · rw [if_neg h0] at h ⊢
      exact ⟨fun i hi => absurd hi (by omega), by simpa using h0⟩
theorem zc_eq {β : Nat → Nat} {k : Nat} : ∀ {f p : Nat}, k < f → (∀ i, i < k → β (p + i) = 0) → β (p + k) ≠ 0 → zc β p f = k := by
  induction k with
  | zero =>
    intro f p hf h1 h2
    cases f with
    | zero => omega
    | succ f => rw [zc, if_neg (by simpa using h2)]
  | succ k ih =>
    intro f p hf h1 h2
    cases f with
    | zero => omega
    | succ f =>
      rw [zc, if_pos (by simpa using h1 0 (by omega)), ih (by omega) (fun i hi => by have := h1 (i + 1) (by omega); rwa [show p + (i + 1) = p + 1 + i by omega] at this) (by rwa [show p + (k + 1) = p + 1 + k by omega] at h2)]
/-- What is read as a code: its number, and where it ends. -/
def cdK (β : Nat → Nat) (p : Nat) : Nat := zc β p 40
def cdV (β : Nat → Nat) (p : Nat) : Nat := 2 ^ cdK β p + rdB β (p + cdK β p + 1) (cdK β p)
def cdE (β : Nat → Nat) (p : Nat) : Nat := p + 2 * cdK β p + 1
theorem rd_nb {β : Nat → Nat} {n k p : Nat} (h : ∀ i, i < k → β (p + i) = (n.testBit (k - 1 - i)).toNat) : rdB β p k = n % 2 ^ k := by
  have key : ∀ i, i ≤ k → rdB β p i = n / 2 ^ (k - i) % 2 ^ i := by
    intro i
    induction i with
    | zero => intro _; simp [rdB, Nat.mod_one]
    | succ i ih =>
      intro hi
      have e1 : n / 2 ^ (k - i) = n / 2 ^ (k - (i + 1)) / 2 := by rw [Nat.div_div_eq_div_mul, ← Nat.pow_succ]; congr 2; omega
      rw [rdB, ih (by omega), h i (by omega), e1, Nat.testBit_eq_decide_div_mod_eq]
      have e2 : k - 1 - i = k - (i + 1) := by omega
      rw [e2, show 2 ^ (i + 1) = 2 * 2 ^ i from Nat.pow_succ', Nat.mod_mul]
      have h3 := Nat.mod_two_eq_zero_or_one (n / 2 ^ (k - (i + 1)))
      rcases h3 with h3 | h3 <;> simp [h3] <;> omega
  have := key k (Nat.le_refl _)
  simpa using this
/-- A code, read where it lies. -/
theorem cd_cod {β : Nat → Nat} {n p : Nat} (h0 : n ≠ 0) (hn : n < 2 ^ 40) (h : ∀ i, i < (cod n).length → β (p + i) = ((cod n).getD i false).toNat) : cdV β p = n ∧ cdE β p = p + (cod n).length ∧ cdK β p < 40 := by
  obtain ⟨k, hk, h1, h2⟩ := bl_bd h0
  have hk40 : k < 40 := by
    have := bl_lt hn
    omega
  have hl : (cod n).length = 2 * k + 1 := by simp [cod, nb_len, hk]; omega
  have hz : ∀ i, i < k → β (p + i) = 0 := fun i hi => by
    rw [h i (by omega), cod, hk]
    simp only [List.getD_eq_getElem?_getD]
    rw [List.getElem?_append_left (by rw [nb_len]; omega)]
    have := nb_get 0 (k + 1 - 1) i (by omega)
    rw [List.getD_eq_getElem?_getD] at this
    rw [this]; simp
  have hr : ∀ i, i < k + 1 → β (p + k + i) = (n.testBit (k - i)).toNat := fun i hi => by
    rw [show p + k + i = p + (k + i) by omega, h (k + i) (by omega), cod, hk]
    simp only [List.getD_eq_getElem?_getD]
    rw [List.getElem?_append_right (by rw [nb_len]; omega), nb_len]
    have := nb_get n (k + 1) (k + i - (k + 1 - 1)) (by omega)
    rw [List.getD_eq_getElem?_getD] at this
    rw [this]
    congr 2; omega
  have htop : n.testBit k = true := by
    rw [Nat.testBit_eq_decide_div_mod_eq]
    have h3 : n / 2 ^ k = 1 := by
      have e1 : 1 ≤ n / 2 ^ k := (Nat.le_div_iff_mul_le (Nat.two_pow_pos k)).2 (by omega)
      have e2 : n / 2 ^ k < 2 := (Nat.div_lt_iff_lt_mul (Nat.two_pow_pos k)).2 (by rw [Nat.pow_succ] at h2; omega)
      omega
    simp [h3]
  have hK : cdK β p = k := zc_eq hk40 hz (by have := hr 0 (by omega); simp only [Nat.add_zero, Nat.sub_zero, htop] at this; rw [this]; decide)
  have hR : rdB β (p + k + 1) k = n % 2 ^ k := rd_nb fun i hi => by
    have := hr (i + 1) (by omega)
    rw [show p + k + 1 + i = p + k + (i + 1) by omega, this]
    congr 2; omega
  refine ⟨?_, by rw [cdE, hK, hl]; omega, by omega⟩
  rw [cdV, hK, hR]
  have : n % 2 ^ k = n - 2 ^ k := by
    rw [Nat.mod_eq_sub_mod h1, Nat.mod_eq_of_lt (by rw [Nat.pow_succ] at h2; omega)]
  omega
/- ### numbers below 0 -/
def zz (n : Int) : Nat := if 0 ≤ n then (2 * n).toNat else (-2 * n - 1).toNat
def uz (n : Nat) : Int := if n % 2 = 0 then ((n / 2 : Nat) : Int) else -1 - ((n / 2 : Nat) : Int)
theorem uz_zz (n : Int) : uz (zz n) = n := by
  unfold uz zz
  split <;> split <;> omega
end Go.Eng
end

/- The file of a log: written and read. No program in sight. -/
section
namespace Go.Eng
def in3 (n lo hi : Int) : Bool := decide (lo ≤ n) && decide (n ≤ hi)
theorem in3_iff {n lo hi : Int} : in3 n lo hi = true ↔ lo ≤ n ∧ n ≤ hi := by simp [in3]
/-- A reading that may be in a log, behind a minute. -/
def snB (mi se va m : Int) : Bool := in3 mi m 1048576 && (in3 se 0 11 && in3 va (-1048576) 2097152)
theorem snB_iff {mi se va m : Int} : snB mi se va m = true ↔ (m ≤ mi ∧ mi ≤ 1048576) ∧ (0 ≤ se ∧ se ≤ 11) ∧ -1048576 ≤ va ∧ va ≤ 2097152 := by
  simp only [snB, Bool.and_eq_true, in3_iff]
def upF (vs : Nat → Int) (i : Nat) (v : Int) : Nat → Int := fun j => if j = i then v else vs j
/- ### written -/
def tmi (l : Nat → Nat → Int) : Nat → Int
  | 0 => 0
  | k + 1 => l k 0
def tvs (l : Nat → Nat → Int) : Nat → Nat → Int
  | 0 => fun _ => 0
  | k + 1 => upF (tvs l k) (l k 1).toNat (l k 2)
def enA (mi : Int) (x : Nat → Int) : Nat := (1 + x 0 - mi).toNat
def enV (vs : Nat → Int) (x : Nat → Int) : Nat := 1 + zz (x 2 - vs (x 1).toNat)
def enX (mi : Int) (vs : Nat → Int) (x : Nat → Int) : List Bool := cod (enA mi x) ++ (nb (x 1).toNat 4 ++ cod (enV vs x))
def enL (l : Nat → Nat → Int) : Nat → List Bool
  | 0 => []
  | k + 1 => enL l k ++ enX (tmi l k) (tvs l k) (l k)
def lgV (l : Nat → Nat → Int) (k : Nat) : Bool := snB (l k 0) (l k 1) (l k 2) (tmi l k)
theorem tmi_bd {l : Nat → Nat → Int} {m : Nat} (h : ∀ k, k < m → lgV l k = true) : ∀ k, k ≤ m → 0 ≤ tmi l k ∧ tmi l k ≤ 1048576
  | 0, _ => by simp [tmi]
  | k + 1, hk => by
    have ih := tmi_bd h k (by omega)
    have := snB_iff.1 (h k hk)
    simp only [tmi]; omega
theorem tvs_bd {l : Nat → Nat → Int} {m : Nat} (h : ∀ k, k < m → lgV l k = true) : ∀ k, k ≤ m → ∀ j, -1048576 ≤ tvs l k j ∧ tvs l k j ≤ 2097152
  | 0, _, j => by simp [tvs]
  | k + 1, hk, j => by
    have ih := tvs_bd h k (by omega) j
    have := snB_iff.1 (h k hk)
    simp only [tvs, upF]
    split <;> omega
theorem zz_bd {n : Int} {B : Nat} (h1 : -(B : Int) ≤ n) (h2 : n ≤ B) : zz n ≤ 2 * B := by
  unfold zz; split <;> omega
theorem enA_bd {l : Nat → Nat → Int} {m : Nat} (h : ∀ k, k < m → lgV l k = true) {k : Nat} (hk : k < m) : enA (tmi l k) (l k) ≠ 0 ∧ enA (tmi l k) (l k) ≤ 1048577 ∧ ((enA (tmi l k) (l k) : Nat) : Int) = 1 + l k 0 - tmi l k := by
  have h1 := tmi_bd h k (by omega)
  have h2 := snB_iff.1 (h k hk)
  unfold enA; omega
theorem enV_bd {l : Nat → Nat → Int} {m : Nat} (h : ∀ k, k < m → lgV l k = true) {k : Nat} (hk : k < m) : enV (tvs l k) (l k) ≠ 0 ∧ enV (tvs l k) (l k) ≤ 6291457 := by
  have h1 := tvs_bd h k (by omega) (l k 1).toNat
  have h2 := snB_iff.1 (h k hk)
  have h3 := zz_bd (n := l k 2 - tvs l k (l k 1).toNat) (B := 3145728) (by omega) (by omega)
  unfold enV; omega
theorem enL_pre (l : Nat → Nat → Int) : ∀ m k, k ≤ m → ∃ R, enL l m = enL l k ++ R
  | 0, k, hk => by obtain rfl : k = 0 := by omega
                   exact ⟨[], by simp⟩
  | m + 1, k, hk => by
    rcases Nat.lt_or_ge m k with h | h
    · obtain rfl : k = m + 1 := by omega
      exact ⟨[], by simp⟩
    · obtain ⟨R, hR⟩ := enL_pre l m k h
      exact ⟨R ++ enX (tmi l m) (tvs l m) (l m), by rw [enL, hR, List.append_assoc]⟩
/-- How many bytes there are, but for the last one. -/
def nB (L : List Bool) : Nat := 4 + (L.length + 7) / 8
def hdB (m : Nat) (L : List Bool) (i : Nat) : Nat := if i = 0 then 73 else if i = 1 then 76 else if i = 2 then m / 256 % 256 else if i = 3 then m % 256 else byt L (i - 4)
theorem hdB_lt (m : Nat) (L : List Bool) (i : Nat) : hdB m L i < 256 := by
  have := byt_lt L (i - 4)
  unfold hdB
  split
  · omega
  · split
    · omega
    · split
      · omega
      · split <;> omega
/-- What all bytes make. -/
def smB (b : Nat → Nat) : Nat → Nat
  | 0 => 0
  | n + 1 => (smB b n + b n) % 256
theorem smB_lt (b : Nat → Nat) : ∀ n, smB b n < 256
  | 0 => by simp [smB]
  | n + 1 => Nat.mod_lt _ (by omega)
theorem smB_cg {b b' : Nat → Nat} : ∀ n, (∀ i, i < n → b i = b' i) → smB b n = smB b' n
  | 0, _ => rfl
  | n + 1, h => by rw [smB, smB, smB_cg n (fun i hi => h i (by omega)), h n (by omega)]
def fB (m : Nat) (L : List Bool) (i : Nat) : Nat := if i < nB L then hdB m L i else smB (hdB m L) (nB L)
/- ### read -/
def biA (b : Nat → Nat) (p : Nat) : Nat := b (p / 8) / 2 ^ (7 - p % 8) % 2
theorem biA_le (b : Nat → Nat) (p : Nat) : biA b p ≤ 1 := by have := Nat.mod_two_eq_zero_or_one (b (p / 8) / 2 ^ (7 - p % 8)); unfold biA; omega
structure DS where
  pos : Nat
  mi : Int
  vs : Nat → Int
def dP1 (β : Nat → Nat) (s : DS) : Nat := cdE β s.pos
def dSe (β : Nat → Nat) (s : DS) : Nat := rdB β (dP1 β s) 4
def dP2 (β : Nat → Nat) (s : DS) : Nat := dP1 β s + 4
def dX (β : Nat → Nat) (s : DS) : Nat → Int := fun j => if j = 0 then s.mi + ((cdV β s.pos : Int) - 1) else if j = 1 then (dSe β s : Int) else s.vs (dSe β s) + uz (cdV β (dP2 β s) - 1)
def dN (β : Nat → Nat) (s : DS) : DS := ⟨cdE β (dP2 β s), dX β s 0, upF s.vs (dSe β s) (dX β s 2)⟩
def dS (β : Nat → Nat) : Nat → DS
  | 0 => ⟨32, 0, fun _ => 0⟩
  | i + 1 => dN β (dS β i)
def dR (β : Nat → Nat) (i : Nat) : Nat → Int := dX β (dS β i)
structure DOk (β : Nat → Nat) (n : Nat) (s : DS) : Prop where
  k1 : cdK β s.pos < 40
  k2 : cdK β (dP2 β s) < 40
  e : cdE β (dP2 β s) ≤ 8 * n
  se : dSe β s < 12
  sn : snB (dX β s 0) (dX β s 1) (dX β s 2) s.mi = true
/-- The bytes b, n and one more, are the file of a log of m readings. -/
structure UOk (b : Nat → Nat) (n m : Nat) : Prop where
  n4 : 4 ≤ n
  n9 : n ≤ 1000000
  b0 : b 0 = 73
  b1 : b 1 = 76
  lt : ∀ i, i ≤ n → b i < 256
  sm : b n = smB b n
  cn : b 2 * 256 + b 3 = m
  m1 : m ≤ 1024
  s : ∀ i, i < m → DOk (biA b) n (dS (biA b) i)
  e1 : (dS (biA b) m).pos ≤ 8 * n
  e2 : 8 * n < (dS (biA b) m).pos + 8
  z : rdB (biA b) (dS (biA b) m).pos (8 * n - (dS (biA b) m).pos) = 0
theorem getD_mid (A K R : List Bool) {i : Nat} (hi : i < K.length) : (A ++ (K ++ R)).getD (A.length + i) false = K.getD i false := by
  simp only [List.getD_eq_getElem?_getD]
  rw [List.getElem?_append_right (by omega), List.getElem?_append_left (by omega)]
  congr 2; omega
theorem fB_bit {m : Nat} {L : List Bool} {q : Nat} (hq : q < 8 * ((L.length + 7) / 8)) : biA (fB m L) (32 + q) = (L.getD q false).toNat := by
  have h1 : (32 + q) / 8 = q / 8 + 4 := by omega
  have h2 : (32 + q) % 8 = q % 8 := by omega
  have h3 : fB m L ((32 + q) / 8) = byt L (q / 8) := by
    rw [h1, fB, if_pos (by unfold nB; omega), hdB, if_neg (by omega), if_neg (by omega), if_neg (by omega), if_neg (by omega)]
    rfl
  rw [biA, h3, h2, byt_bit]
theorem rdB_zero {β : Nat → Nat} {p : Nat} : ∀ k, (∀ i, i < k → β (p + i) = 0) → rdB β p k = 0
  | 0, _ => rfl
  | k + 1, h => by rw [rdB, rdB_zero k (fun i hi => h i (by omega)), h k (by omega)]
/-- One reading, read. -/
theorem step_ok {l : Nat → Nat → Int} {m : Nat} (h : ∀ k, k < m → lgV l k = true) {k : Nat} (hk : k < m) :
    DOk (biA (fB m (enL l m))) (nB (enL l m)) ⟨32 + (enL l k).length, tmi l k, tvs l k⟩ ∧ (∀ j, j < 3 → dX (biA (fB m (enL l m))) ⟨32 + (enL l k).length, tmi l k, tvs l k⟩ j = l k j) ∧
    dN (biA (fB m (enL l m))) ⟨32 + (enL l k).length, tmi l k, tvs l k⟩ = ⟨32 + (enL l (k + 1)).length, tmi l (k + 1), tvs l (k + 1)⟩ := by
  obtain ⟨R, hR⟩ := enL_pre l m (k + 1) (by omega)
  obtain ⟨a1, a2, a3⟩ := enA_bd h hk
  obtain ⟨v1, v2⟩ := enV_bd h hk
  have hs := snB_iff.1 (h k hk)
  have hL : enL l m = enL l k ++ (cod (enA (tmi l k) (l k)) ++ (nb (l k 1).toNat 4 ++ (cod (enV (tvs l k) (l k)) ++ R))) := by
    rw [hR, enL, enX]; simp [List.append_assoc]
  have hlen : (enL l m).length = (enL l k).length + (cod (enA (tmi l k) (l k))).length + 4 + (cod (enV (tvs l k) (l k))).length + R.length := by
    rw [hL]; simp [nb_len]; omega
  have hlen1 : (enL l (k + 1)).length = (enL l k).length + (cod (enA (tmi l k) (l k))).length + 4 + (cod (enV (tvs l k) (l k))).length := by
    rw [enL, enX]; simp [nb_len]; omega
  have hbit : ∀ q, q < (enL l m).length → biA (fB m (enL l m)) (32 + q) = ((enL l m).getD q false).toNat := fun q hq => fB_bit (by omega)
  generalize biA (fB m (enL l m)) = β at hbit
  obtain ⟨c1, c2, c3⟩ := cd_cod (β := β) (p := 32 + (enL l k).length) a1 (by omega) fun i hi => by
    rw [show 32 + (enL l k).length + i = 32 + ((enL l k).length + i) by omega, hbit _ (by omega), hL, getD_mid _ _ _ hi]
  have g1 : dP1 β ⟨32 + (enL l k).length, tmi l k, tvs l k⟩ = 32 + (enL l k ++ cod (enA (tmi l k) (l k))).length := by
    rw [dP1, c2]; simp; omega
  have hL2 : enL l m = (enL l k ++ cod (enA (tmi l k) (l k))) ++ (nb (l k 1).toNat 4 ++ (cod (enV (tvs l k) (l k)) ++ R)) := by rw [hL]; simp [List.append_assoc]
  have g2 : dSe β ⟨32 + (enL l k).length, tmi l k, tvs l k⟩ = (l k 1).toNat := by
    rw [dSe, g1, rd_nb (n := (l k 1).toNat) fun i hi => by
      rw [show 32 + (enL l k ++ cod (enA (tmi l k) (l k))).length + i = 32 + ((enL l k ++ cod (enA (tmi l k) (l k))).length + i) by omega, hbit _ (by simp; omega), hL2, getD_mid _ _ _ (by rw [nb_len]; exact hi), nb_get _ _ _ hi]]
    exact Nat.mod_eq_of_lt (by omega)
  have g3 : dP2 β ⟨32 + (enL l k).length, tmi l k, tvs l k⟩ = 32 + (enL l k ++ cod (enA (tmi l k) (l k)) ++ nb (l k 1).toNat 4).length := by
    rw [dP2, g1]; simp [nb_len]; omega
  have hL3 : enL l m = (enL l k ++ cod (enA (tmi l k) (l k)) ++ nb (l k 1).toNat 4) ++ (cod (enV (tvs l k) (l k)) ++ R) := by rw [hL]; simp [List.append_assoc]
  obtain ⟨d1, d2, d3⟩ := cd_cod (β := β) (p := 32 + (enL l k ++ cod (enA (tmi l k) (l k)) ++ nb (l k 1).toNat 4).length) v1 (by omega) fun i hi => by
    rw [show 32 + (enL l k ++ cod (enA (tmi l k) (l k)) ++ nb (l k 1).toNat 4).length + i = 32 + ((enL l k ++ cod (enA (tmi l k) (l k)) ++ nb (l k 1).toNat 4).length + i) by omega, hbit _ (by simp [nb_len]; omega), hL3, getD_mid _ _ _ hi]
  have x0 : dX β ⟨32 + (enL l k).length, tmi l k, tvs l k⟩ 0 = l k 0 := by
    simp only [dX, if_true, c1]; omega
  have x1 : dX β ⟨32 + (enL l k).length, tmi l k, tvs l k⟩ 1 = l k 1 := by
    simp only [dX, g2]; simp; omega
  have x2 : dX β ⟨32 + (enL l k).length, tmi l k, tvs l k⟩ 2 = l k 2 := by
    simp only [dX, g2, g3, d1]
    simp only [show (2 : Nat) ≠ 0 by omega, show (2 : Nat) ≠ 1 by omega, if_false]
    rw [enV, Nat.add_sub_cancel_left, uz_zz]; omega
  refine ⟨⟨c3, by rw [g3]; exact d3, ?_, by rw [g2]; omega, by rw [x0, x1, x2]; exact h k hk⟩, ?_, ?_⟩
  · rw [g3, d2]; unfold nB; simp [nb_len]; omega
  · intro j hj
    rcases (by omega : j = 0 ∨ j = 1 ∨ j = 2) with rfl | rfl | rfl
    · exact x0
    · exact x1
    · exact x2
  · rw [dN, x0, x2, g2, g3, d2, hlen1]
    simp only [tmi, tvs, DS.mk.injEq, and_true]
    simp [nb_len]; omega
theorem dS_en {l : Nat → Nat → Int} {m : Nat} (h : ∀ k, k < m → lgV l k = true) : ∀ k, k ≤ m → dS (biA (fB m (enL l m))) k = ⟨32 + (enL l k).length, tmi l k, tvs l k⟩
  | 0, _ => rfl
  | k + 1, hk => by rw [dS, dS_en h k (by omega)]; exact (step_ok h hk).2.2
theorem cod_len {n B : Nat} (h : n < 2 ^ B) : (cod n).length ≤ 2 * B := by
  have := bl_lt h
  simp only [cod, List.length_append, nb_len]; omega
theorem enL_len {l : Nat → Nat → Int} {m : Nat} (h : ∀ k, k < m → lgV l k = true) : ∀ k, k ≤ m → (enL l k).length ≤ 100 * k
  | 0, _ => by simp [enL]
  | k + 1, hk => by
    have ih := enL_len h k (by omega)
    have h1 := cod_len (n := enA (tmi l k) (l k)) (B := 22) (by have := (enA_bd h hk).2.1; omega)
    have h2 := cod_len (n := enV (tvs l k) (l k)) (B := 24) (by have := (enV_bd h hk).2; omega)
    rw [enL, enX]
    simp [nb_len]; omega
/-- What was written is read. -/
theorem log_back {l : Nat → Nat → Int} {m : Nat} (hm : m ≤ 1024) (h : ∀ k, k < m → lgV l k = true) : UOk (fB m (enL l m)) (nB (enL l m)) m ∧ ∀ i, i < m → ∀ j, j < 3 → dR (biA (fB m (enL l m))) i j = l i j := by
  have hlen := enL_len h m (Nat.le_refl _)
  have hf : ∀ i, i < nB (enL l m) → fB m (enL l m) i = hdB m (enL l m) i := fun i hi => by rw [fB, if_pos hi]
  have h4 : 4 ≤ nB (enL l m) := by unfold nB; omega
  refine ⟨⟨h4, by unfold nB; omega, ?_, ?_, ?_, ?_, ?_, hm, ?_, ?_, ?_, ?_⟩, ?_⟩
  · rw [hf 0 (by omega)]; rfl
  · rw [hf 1 (by omega)]; rfl
  · intro i hi
    unfold fB
    split
    · exact hdB_lt _ _ _
    · exact smB_lt _ _
  · rw [smB_cg (nB (enL l m)) hf]
    rw [fB, if_neg (by omega)]
  · rw [hf 2 (by omega), hf 3 (by omega)]
    simp only [hdB]; simp; omega
  · intro i hi
    rw [dS_en h i (by omega)]
    exact (step_ok h hi).1
  · rw [dS_en h m (Nat.le_refl _)]; unfold nB; simp only []; omega
  · rw [dS_en h m (Nat.le_refl _)]; unfold nB; simp only []; omega
  · rw [dS_en h m (Nat.le_refl _)]
    refine rdB_zero _ fun i hi => ?_
    simp only [] at hi ⊢
    rw [show 32 + (enL l m).length + i = 32 + ((enL l m).length + i) by omega, fB_bit (by unfold nB at hi; omega)]
    simp only [List.getD_eq_getElem?_getD]
    rw [List.getElem?_eq_none (by omega)]; rfl
  · intro i hi j hj
    rw [dR, dS_en h i (by omega)]
    exact (step_ok h hi).2.1 j hj
end Go.Eng
end

/- alarm: what sensors say, and the first alarm. No program in sight. -/
section
namespace Go.Eng
/- ### sets of bits -/
def mkN (f : Nat → Bool) : Nat → Nat
  | 0 => 0
  | n + 1 => 2 ^ n * (f n).toNat + mkN f n
theorem mkN_lt (f : Nat → Bool) : ∀ n, mkN f n < 2 ^ n
  | 0 => by simp [mkN]
  | n + 1 => by
    have h1 := mkN_lt f n
    have h2 := b_le (f n)
    have h3 := Nat.mul_le_mul_left (2 ^ n) h2
    rw [mkN, Nat.pow_succ]; omega
theorem mkN_bit (f : Nat → Bool) : ∀ n i, (mkN f n).testBit i = (decide (i < n) && f i)
  | 0, i => by simp [mkN]
  | n + 1, i => by
    rw [mkN, Nat.testBit_two_pow_mul_add _ (mkN_lt f n)]
    by_cases h : i < n
    · rw [if_pos h, mkN_bit f n i, decide_eq_true h, decide_eq_true (show i < n + 1 by omega)]
    · rw [if_neg h]
      by_cases h2 : i = n
      · subst h2
        rw [Nat.sub_self, decide_eq_true (by omega)]
        cases f i <;> rfl
      · rw [decide_eq_false (show ¬ i < n + 1 by omega), Bool.false_and]
        refine Nat.testBit_lt_two_pow ?_
        have h3 := b_le (f n)
        have h4 : 2 ^ 1 ≤ 2 ^ (i - n) := Nat.pow_le_pow_right (by omega) (by omega)
        omega
theorem mkN_eq {f : Nat → Bool} {n c : Nat} (h : ∀ i, c.testBit i = (decide (i < n) && f i)) : c = mkN f n :=
  Nat.eq_of_testBit_eq fun i => by rw [h i, mkN_bit]
theorem one_shl {i : Nat} (hi : i < 12) : IntKind.i64.wrap (1 * 2 ^ min i 64) = ((2 ^ i : Nat) : Int) := by
  rw [Nat.min_eq_left (by omega), Int.one_mul]
  have e : ((2 : Int) ^ i) = ((2 ^ i : Nat) : Int) := by simp
  have h : 2 ^ i ≤ 2 ^ 12 := Nat.pow_le_pow_right (by omega) (by omega)
  rw [e]
  generalize 2 ^ i = x at h
  exact wrap_id (by omega) (by omega)
def clB (f : Nat → Bool) (i : Nat) (b : Bool) : Nat → Bool := fun j => if j = i then b else f j
theorem mkN_clr {f : Nat → Bool} {i : Nat} (hi : i < 12) : bitI .andNot .i64 (mkN f 12 : Int) ((2 ^ i : Nat) : Int) = (mkN (clB f i false) 12 : Int) := by
  have h1 := mkN_lt f 12
  have h2 : 2 ^ i ≤ 2 ^ 12 := Nat.pow_le_pow_right (by omega) (by omega)
  obtain ⟨c, hc, _, ht⟩ := not64 (a := mkN f 12) (b := 2 ^ i) (by omega) (by omega)
  rw [hc]
  congr 1
  refine mkN_eq fun j => ?_
  rw [ht j, mkN_bit, Nat.testBit_two_pow]
  by_cases hj : j = i
  · subst hj; simp [clB]
  · simp [clB, hj, Ne.symm hj]
theorem mkN_set {f : Nat → Bool} {i : Nat} (hi : i < 12) : bitI .or .i64 (mkN f 12 : Int) ((2 ^ i : Nat) : Int) = (mkN (clB f i true) 12 : Int) := by
  have h1 := mkN_lt f 12
  have h2 : 2 ^ i ≤ 2 ^ 12 := Nat.pow_le_pow_right (by omega) (by omega)
  rw [or64 (by omega) (by omega)]
  congr 1
  refine mkN_eq fun j => ?_
  rw [Nat.testBit_or, mkN_bit, Nat.testBit_two_pow]
  by_cases hj : j = i
  · subst hj; simp [clB, hi]
  · simp [clB, hj, Ne.symm hj]
/-- How many of the first n hold. -/
def cnN (f : Nat → Bool) : Nat → Nat
  | 0 => 0
  | n + 1 => cnN f n + (f n).toNat
theorem cnN_le (f : Nat → Bool) : ∀ n, cnN f n ≤ n
  | 0 => Nat.le_refl _
  | n + 1 => by have := cnN_le f n; have := b_le (f n); rw [cnN]; omega
theorem cnN_cg {f g : Nat → Bool} : ∀ n, (∀ i, i < n → f i = g i) → cnN f n = cnN g n
  | 0, _ => rfl
  | n + 1, h => by rw [cnN, cnN, cnN_cg n (fun i hi => h i (by omega)), h n (by omega)]
theorem bit_of {f : Nat → Bool} {i : Nat} (hi : i < 12) : bitI .and .i64 ((mkN f 12 : Int).fdiv (2 ^ min i 64)) 1 = ((f i).toNat : Int) := by
  have h1 := mkN_lt f 12
  have e1 : ((mkN f 12 : Nat) : Int).fdiv (2 ^ (min i 64)) = ((mkN f 12 / 2 ^ i : Nat) : Int) := by
    rw [Nat.min_eq_left (by omega)]
    have : ((2 : Int) ^ i) = ((2 ^ i : Nat) : Int) := by simp
    rw [this, Int.fdiv_eq_ediv_of_nonneg _ (Int.natCast_nonneg _)]
    rfl
  have h2 : mkN f 12 / 2 ^ i ≤ mkN f 12 := Nat.div_le_self _ _
  have h3 := and64 (a := mkN f 12 / 2 ^ i) (b := 1) (by omega) (by omega)
  rw [Nat.and_one_is_mod] at h3
  rw [e1]
  refine Eq.trans h3 ?_
  have h4 := mkN_bit f 12 i
  rw [decide_eq_true hi, Bool.true_and, Nat.testBit_eq_decide_div_mod_eq] at h4
  rw [← h4]
  have h5 := Nat.mod_two_eq_zero_or_one (mkN f 12 / 2 ^ i)
  rcases h5 with h5 | h5 <;> simp [h5]
/- ### votings -/
/-- A sensor that may be in a voting. -/
def seB (x : Nat → Int) : Bool := in3 (x 0) 0 2000 && (in3 (x 1) 1 1000 && in3 (x 2) 0 1048576)
def allS (n : Nat) (s : Nat → Nat → Int) : Bool := decide (∀ i, i < n → seB (s i) = true)
def voB (n : Nat) (s : Nat → Nat → Int) (vo fa : Int) : Bool := in3 n 1 12 && (in3 vo 1 n && (in3 fa 0 n && allS n s))
theorem allS_iff {n : Nat} {s : Nat → Nat → Int} : allS n s = true ↔ ∀ i, i < n → seB (s i) = true := by simp [allS]
theorem seB_iff {x : Nat → Int} : seB x = true ↔ (0 ≤ x 0 ∧ x 0 ≤ 2000) ∧ (1 ≤ x 1 ∧ x 1 ≤ 1000) ∧ 0 ≤ x 2 ∧ x 2 ≤ 1048576 := by simp only [seB, Bool.and_eq_true, in3_iff]
structure VOk (n : Nat) (s : Nat → Nat → Int) (vo fa : Int) : Prop where
  n1 : 1 ≤ n
  n12 : n ≤ 12
  v1 : 1 ≤ vo
  vn : vo ≤ n
  f0 : 0 ≤ fa
  fn : fa ≤ n
  ok : ∀ i, i < n → (0 ≤ s i 0 ∧ s i 0 ≤ 2000) ∧ (1 ≤ s i 1 ∧ s i 1 ≤ 1000) ∧ 0 ≤ s i 2 ∧ s i 2 ≤ 1048576
theorem voB_ok {n : Nat} {s : Nat → Nat → Int} {vo fa : Int} (h : voB n s vo fa = true) : VOk n s vo fa := by
  simp only [voB, Bool.and_eq_true, in3_iff, allS_iff, seB_iff] at h
  obtain ⟨h1, h2, h3, h4⟩ := h
  exact ⟨by omega, by omega, h2.1, h2.2, h3.1, h3.2, h4⟩
/- ### alarms -/
/-- What sensors say behind k readings. -/
def yB (th : Int) (l : Nat → Nat → Int) : Nat → Nat → Bool
  | 0 => fun _ => false
  | k + 1 => clB (yB th l k) (l k 1).toNat (decide (th ≤ l k 2))
/-- An alarm behind k readings, if they are all of a minute. -/
def hitB (vo th : Int) (m : Nat) (l : Nat → Nat → Int) (k : Nat) : Bool := (decide (k = m) || !decide (l k 0 = l (k - 1) 0)) && decide (vo ≤ (cnN (yB th l k) 12 : Int))
/-- The first alarm from reading k on; f readings are left. -/
def alS (vo th : Int) (m : Nat) (l : Nat → Nat → Int) : Nat → Nat → Option Int
  | _, 0 => none
  | k, f + 1 => if hitB vo th m l (k + 1) then some (l k 0) else alS vo th m l (k + 1) f
/-- What is wrong with a reading. -/
def ckE (n : Nat) (l : Nat → Nat → Int) (i : Nat) : Int := if in3 (l i 0) 0 1048576 && in3 (l i 1) 0 ((n : Int) - 1) then if decide (i = 0) || decide (l (i - 1) 0 ≤ l i 0) then 0 else 7 else 1
def ckA (n : Nat) (l : Nat → Nat → Int) : Nat → Int
  | 0 => 0
  | k + 1 => if ckA n l k = 0 then ckE n l k else ckA n l k
theorem ckA_zero {n : Nat} {l : Nat → Nat → Int} : ∀ {m : Nat}, ckA n l m = 0 ↔ ∀ k, k < m → ckE n l k = 0
  | 0 => ⟨fun _ k hk => absurd hk (by omega), fun _ => rfl⟩
  | m + 1 => by
    have ih := ckA_zero (n := n) (l := l) (m := m)
    simp only [ckA]
    constructor
    · intro h k hk
      by_cases h0 : ckA n l m = 0
      · rw [if_pos h0] at h
        rcases Nat.lt_or_ge k m with g | g
        · exact ih.1 h0 k g
        · obtain rfl : k = m := by omega
          exact h
      · rw [if_neg h0] at h; exact absurd h h0
    · intro h
      rw [if_pos (ih.2 fun k hk => h k (by omega))]
      exact h m (by omega)
/-- The first error ends. -/
theorem ckA_first {n : Nat} {l : Nat → Nat → Int} {k : Nat} (h : ∀ i, i < k → ckE n l i = 0) (he : ckE n l k ≠ 0) : ∀ m, k < m → ckA n l m = ckE n l k
  | 0, hm => absurd hm (by omega)
  | m + 1, hm => by
    rcases Nat.lt_or_ge k m with g | g
    · have := ckA_first h he m g
      rw [ckA, if_neg (by rw [this]; exact he), this]
    · obtain rfl : k = m := by omega
      rw [ckA, if_pos (ckA_zero.2 h)]
theorem ckE_iff {n : Nat} {l : Nat → Nat → Int} {i : Nat} : ckE n l i = 0 ↔ (0 ≤ l i 0 ∧ l i 0 ≤ 1048576) ∧ (0 ≤ l i 1 ∧ l i 1 ≤ (n : Int) - 1) ∧ (i = 0 ∨ l (i - 1) 0 ≤ l i 0) := by
  unfold ckE
  constructor
  · intro h
    split at h
    · rename_i h1
      split at h
      · rename_i h2
        simp only [Bool.and_eq_true, in3_iff] at h1
        simp only [Bool.or_eq_true, decide_eq_true_eq] at h2
        exact ⟨h1.1, h1.2, h2⟩
      · exact absurd h (by decide)
    · exact absurd h (by decide)
  · rintro ⟨h1, h2, h3⟩
    rw [if_pos (by simp only [Bool.and_eq_true, in3_iff]; exact ⟨h1, h2⟩), if_pos (by simpa using h3)]
def alO (n : Nat) (s : Nat → Nat → Int) (vo fa th : Int) (m : Nat) (l : Nat → Nat → Int) : Int × Int :=
  if voB n s vo fa then if in3 th 0 1048576 then if m ≤ 1024 then if ckA n l m = 0 then match alS vo th m l 0 m with
    | some x => (x, 0)
    | none => (0, 4)
    else (0, ckA n l m) else (0, 3) else (0, 2) else (0, 1)
/-- A group of readings of one minute: nothing ends inside. -/
theorem alS_grp {vo th : Int} {m : Nat} {l : Nat → Nat → Int} {p : Nat} : ∀ (c f : Nat), (∀ j, 1 ≤ j → j ≤ c → p + j ≠ m ∧ l (p + j) 0 = l p 0) → alS vo th m l p (c + f) = alS vo th m l (p + c) f
  | 0, f, _ => by simp
  | c + 1, f, h => by
    have ih := alS_grp (vo := vo) (th := th) c (f + 1) (fun j h1 h2 => h j h1 (by omega))
    rw [show c + 1 + f = c + (f + 1) by omega, ih, alS, if_neg, show p + c + 1 = p + (c + 1) by omega]
    have h1 := h (c + 1) (by omega) (by omega)
    have h2 : l (p + c) 0 = l p 0 := by
      rcases c with _ | c
      · rfl
      · exact (h (c + 1) (by omega) (by omega)).2
    simp only [hitB, Bool.and_eq_true, Bool.or_eq_true, Bool.not_eq_true', decide_eq_true_eq, decide_eq_false_iff_not]
    rintro ⟨h3 | h3, _⟩
    · exact h1.1 (by omega)
    · refine h3 ?_
      rw [show p + c + 1 - 1 = p + c by omega, h2, show p + c + 1 = p + (c + 1) by omega]
      exact h1.2
theorem alS_end {vo th : Int} {m : Nat} {l : Nat → Nat → Int} {p c c0 : Nat} (h1 : 1 ≤ c) (h2 : c ≤ c0) (hp : p + c0 = m) (h3 : ∀ j, 1 ≤ j → j < c → l (p + j) 0 = l p 0) (he : p + c = m ∨ ¬ l (p + c) 0 = l p 0) :
    alS vo th m l p c0 = if decide (vo ≤ (cnN (yB th l (p + c)) 12 : Int)) then some (l p 0) else alS vo th m l (p + c) (c0 - c) := by
  have h4 := alS_grp (vo := vo) (th := th) (m := m) (l := l) (p := p) (c - 1) (c0 - c + 1) (fun j g1 g2 => ⟨by omega, h3 j g1 (by omega)⟩)
  rw [show c - 1 + (c0 - c + 1) = c0 by omega] at h4
  have h5 : l (p + (c - 1)) 0 = l p 0 := by
    rcases Nat.lt_or_ge 1 c with g | g
    · exact h3 (c - 1) (by omega) (by omega)
    · rw [show c - 1 = 0 by omega, Nat.add_zero]
  have h6 : (decide (p + c = m) || !decide (l (p + c) 0 = l (p + c - 1) 0)) = true := by
    rw [show p + c - 1 = p + (c - 1) by omega, h5]
    rcases he with he | he
    · rw [decide_eq_true he, Bool.true_or]
    · rw [decide_eq_false he]; simp
  rw [h4, alS, show p + (c - 1) + 1 = p + c by omega, hitB, h6, Bool.true_and, h5]
theorem clB_two {f : Nat → Bool} {i : Nat} {a b : Bool} : clB (clB f i a) i b = clB f i b := by
  funext j
  unfold clB
  split <;> rfl
theorem cnN_mk {f : Nat → Bool} : cnN (mkN f 12).testBit 12 = cnN f 12 := cnN_cg 12 fun i hi => by rw [mkN_bit, decide_eq_true hi, Bool.true_and]
/-- Nothing but the readings counts. -/
theorem ckE_cg {n : Nat} {l l' : Nat → Nat → Int} {m : Nat} (h : ∀ i, i < m → ∀ j, j < 3 → l i j = l' i j) {i : Nat} (hi : i < m) : ckE n l i = ckE n l' i := by
  unfold ckE
  rw [h i hi 0 (by omega), h i hi 1 (by omega), h (i - 1) (by omega) 0 (by omega)]
theorem ckA_cg {n : Nat} {l l' : Nat → Nat → Int} {m : Nat} (h : ∀ i, i < m → ∀ j, j < 3 → l i j = l' i j) : ∀ k, k ≤ m → ckA n l k = ckA n l' k
  | 0, _ => rfl
  | k + 1, hk => by rw [ckA, ckA, ckA_cg h k (by omega), ckE_cg h (by omega)]
theorem yB_cg {th : Int} {l l' : Nat → Nat → Int} {m : Nat} (h : ∀ i, i < m → ∀ j, j < 3 → l i j = l' i j) : ∀ k, k ≤ m → yB th l k = yB th l' k
  | 0, _ => rfl
  | k + 1, hk => by rw [yB, yB, yB_cg h k (by omega), h k (by omega) 1 (by omega), h k (by omega) 2 (by omega)]
theorem alS_cg {vo th : Int} {l l' : Nat → Nat → Int} {m : Nat} (h : ∀ i, i < m → ∀ j, j < 3 → l i j = l' i j) : ∀ f k, k + f = m → alS vo th m l k f = alS vo th m l' k f
  | 0, _, _ => rfl
  | f + 1, k, hk => by
    have hh : hitB vo th m l (k + 1) = hitB vo th m l' (k + 1) := by
      unfold hitB
      rw [yB_cg h (k + 1) (by omega), show k + 1 - 1 = k by omega]
      by_cases e : k + 1 = m
      · rw [decide_eq_true e, Bool.true_or, Bool.true_or]
      · rw [h (k + 1) (by omega) 0 (by omega), h k (by omega) 0 (by omega)]
    rw [alS, alS, hh, h k (by omega) 0 (by omega), alS_cg h f (k + 1) (by omega)]
theorem alO_cg {n : Nat} {s : Nat → Nat → Int} {vo fa th : Int} {m : Nat} {l l' : Nat → Nat → Int} (h : ∀ i, i < m → ∀ j, j < 3 → l i j = l' i j) : alO n s vo fa th m l = alO n s vo fa th m l' := by
  unfold alO
  rw [ckA_cg h m (Nat.le_refl _), alS_cg h m 0 (by omega)]
end Go.Eng
end

/- alarm: numbers in order; how much there can be without an alarm. No program in sight. -/
section
namespace Go.Eng
/- ### insertion -/
def pos (P : List Int) (x : Int) : Nat → Nat
  | 0 => 0
  | j + 1 => if x < P.getD j 0 then pos P x j else j + 1
theorem pos_le (P : List Int) (x : Int) : ∀ j, pos P x j ≤ j
  | 0 => Nat.le_refl _
  | j + 1 => by
    rw [pos]
    split
    · have := pos_le P x j; omega
    · exact Nat.le_refl _
def insR (P : List Int) (x : Int) : List Int := P.take (pos P x P.length) ++ x :: P.drop (pos P x P.length)
def srt (L : List Int) : List Int := L.foldl insR []
theorem insR_len (P : List Int) (x : Int) : (insR P x).length = P.length + 1 := by
  have := pos_le P x P.length
  simp [insR]; omega
theorem srt_len' : ∀ (L P : List Int), (L.foldl insR P).length = P.length + L.length
  | [], P => by simp
  | x :: L, P => by rw [List.foldl_cons, srt_len' L, insR_len, List.length_cons]; omega
theorem srt_len (L : List Int) : (srt L).length = L.length := by rw [srt, srt_len']; simp
theorem srt_snoc (L : List Int) (x : Int) : srt (L ++ [x]) = insR (srt L) x := by simp [srt]
/-- What lies where while x is on its way. -/
def cF (P : List Int) (x : Int) (R : List Int) (j k : Nat) : Int := if k < j then P.getD k 0 else if k = j then x else if k ≤ P.length then P.getD (k - 1) 0 else R.getD (k - P.length - 1) 0
theorem cF_list (P : List Int) (x : Int) (R : List Int) {j : Nat} (hj : j ≤ P.length) (k : Nat) : (P.take j ++ x :: P.drop j ++ R).getD k 0 = cF P x R j k := by
  simp only [cF, List.getD_eq_getElem?_getD]
  by_cases h1 : k < j
  · rw [if_pos h1, List.getElem?_append_left (by simp; omega), List.getElem?_append_left (by simp; omega), List.getElem?_take_of_lt h1]
  · rw [if_neg h1]
    by_cases h2 : k = j
    · subst h2
      rw [if_pos rfl, List.getElem?_append_left (by simp; omega), List.getElem?_append_right (by simp; omega), List.length_take, Nat.min_eq_left hj]
      simp
    · rw [if_neg h2]
      by_cases h3 : k ≤ P.length
      · rw [if_pos h3, List.getElem?_append_left (by simp; omega), List.getElem?_append_right (by simp; omega), List.length_take, Nat.min_eq_left hj]
        obtain ⟨d, hd⟩ : ∃ d, k - j = d + 1 := ⟨k - j - 1, by omega⟩
        rw [hd, List.getElem?_cons_succ, List.getElem?_drop]
        congr 2; omega
      · rw [if_neg h3, List.getElem?_append_right (by simp; omega)]
        congr 2
        simp; omega
theorem cF_ins (P : List Int) (x : Int) (R : List Int) (k : Nat) : (insR P x ++ R).getD k 0 = cF P x R (pos P x P.length) k := cF_list P x R (pos_le _ _ _) k
theorem cF_start (P : List Int) (x : Int) (R : List Int) (k : Nat) : (P ++ x :: R).getD k 0 = cF P x R P.length k := by
  have := cF_list P x R (Nat.le_refl _) k
  simpa using this
theorem cF_at (P : List Int) (x : Int) (R : List Int) (j : Nat) : cF P x R j j = x := by simp [cF]
theorem cF_pre (P : List Int) (x : Int) (R : List Int) (j : Nat) : cF P x R (j + 1) j = P.getD j 0 := by simp [cF]
theorem cF_swap (P : List Int) (x : Int) (R : List Int) {j : Nat} (hj : j + 1 ≤ P.length) (k : Nat) : (if k = j then x else if k = j + 1 then P.getD j 0 else cF P x R (j + 1) k) = cF P x R j k := by
  unfold cF
  by_cases h1 : k = j
  · subst h1; simp
  · rw [if_neg h1]
    by_cases h2 : k = j + 1
    · subst h2
      rw [if_pos rfl, if_neg (by omega), if_neg (by omega), if_pos hj, Nat.add_sub_cancel]
    · rw [if_neg h2]
      by_cases h3 : k < j
      · rw [if_pos (by omega), if_pos h3]
      · rw [if_neg (by omega), if_neg h2, if_neg h3, if_neg h1]
/- ### in order -/
def Asc (L : List Int) : Prop := ∀ i j, i ≤ j → j < L.length → L.getD i 0 ≤ L.getD j 0
theorem pos_lt {P : List Int} {x : Int} : ∀ j, ∀ i, pos P x j ≤ i → i < j → x < P.getD i 0
  | 0, i, _, h => absurd h (by omega)
  | j + 1, i, h1, h2 => by
    rw [pos] at h1
    split at h1
    · rename_i h
      rcases Nat.lt_or_ge i j with g | g
      · exact pos_lt j i h1 g
      · obtain rfl : i = j := by omega
        exact h
    · omega
theorem pos_ge {P : List Int} {x : Int} : ∀ j, pos P x j = 0 ∨ P.getD (pos P x j - 1) 0 ≤ x
  | 0 => .inl rfl
  | j + 1 => by
    rw [pos]
    split
    · exact pos_ge j
    · right; rw [Nat.add_sub_cancel]; omega
theorem insR_asc {P : List Int} {x : Int} (h : Asc P) : Asc (insR P x) := by
  have hp := pos_le P x P.length
  have h1 := pos_lt (P := P) (x := x) P.length
  have h2 := pos_ge (P := P) (x := x) P.length
  have e : ∀ k, (insR P x).getD k 0 = cF P x [] (pos P x P.length) k := fun k => by have := cF_ins P x [] k; rwa [List.append_nil] at this
  intro i j hij hj
  rw [insR_len] at hj
  rw [e, e]
  generalize pos P x P.length = q at *
  unfold cF
  have lo : ∀ k, k < q → P.getD k 0 ≤ x := fun k hk => by
    rcases h2 with h2 | h2
    · omega
    · have := h k (q - 1) (by omega) (by omega); omega
  have hi : ∀ k, q < k → k ≤ P.length → x < P.getD (k - 1) 0 := fun k g1 g2 => h1 (k - 1) (by omega) (by omega)
  have m1 : ∀ a b, a ≤ b → b < P.length → P.getD a 0 ≤ P.getD b 0 := h
  by_cases a1 : i < q
  · rw [if_pos a1]
    by_cases b1 : j < q
    · rw [if_pos b1]; exact m1 i j hij (by omega)
    · rw [if_neg b1]
      by_cases b2 : j = q
      · rw [if_pos b2]; exact lo i a1
      · rw [if_neg b2, if_pos (by omega)]; exact m1 i (j - 1) (by omega) (by omega)
  · rw [if_neg a1, if_neg (show ¬ j < q by omega)]
    by_cases a2 : i = q
    · rw [if_pos a2]
      by_cases b2 : j = q
      · rw [if_pos b2]; exact Int.le_refl _
      · rw [if_neg b2, if_pos (by omega)]; have := hi j (by omega) (by omega); omega
    · rw [if_neg a2, if_neg (show ¬ j = q by omega), if_pos (by omega), if_pos (by omega)]
      exact m1 (i - 1) (j - 1) (by omega) (by omega)
theorem fold_asc : ∀ (L P : List Int), Asc P → Asc (L.foldl insR P)
  | [], P, h => h
  | x :: L, P, h => fold_asc L _ (insR_asc h)
theorem srt_asc (L : List Int) : Asc (srt L) := fold_asc L [] (fun i j _ h => absurd h (by simp))
theorem insR_count (p : Int → Bool) (P : List Int) (x : Int) : (insR P x).countP p = P.countP p + (p x).toNat := by
  rw [insR, List.countP_append, List.countP_cons]
  have : P.countP p = (P.take (pos P x P.length)).countP p + (P.drop (pos P x P.length)).countP p := by rw [← List.countP_append, List.take_append_drop]
  rw [this]
  cases p x <;> simp <;> omega
theorem fold_count (p : Int → Bool) : ∀ (L P : List Int), (L.foldl insR P).countP p = P.countP p + L.countP p
  | [], P => by simp
  | x :: L, P => by
    rw [List.foldl_cons, fold_count p L, insR_count, List.countP_cons]
    cases p x <;> simp <;> omega
theorem srt_count (p : Int → Bool) (L : List Int) : (srt L).countP p = L.countP p := by rw [srt, fold_count]; simp
theorem asc_count {W : Int} : ∀ (q : Nat) {L : List Int}, q ≤ L.length → (∀ i, i < q → L.getD i 0 ≤ W) → q ≤ L.countP (fun x => decide (x ≤ W))
  | 0, _, _, _ => Nat.zero_le _
  | q + 1, [], h, _ => absurd h (by simp)
  | q + 1, x :: L, h1, h2 => by
    have h3 := h2 0 (by omega)
    have ih := asc_count (W := W) q (L := L) (by simpa using h1) (fun i hi => by have := h2 (i + 1) (by omega); simpa using this)
    rw [List.countP_cons, if_pos (by simpa using h3)]
    omega
/-- The q-th of numbers in order: as many are not above it. -/
theorem kth_count {L : List Int} {q : Nat} {W : Int} (h1 : 1 ≤ q) (h2 : q ≤ L.length) (h3 : (srt L).getD (q - 1) 0 ≤ W) : q ≤ L.countP (fun x => decide (x ≤ W)) := by
  rw [← srt_count]
  refine asc_count q (by rw [srt_len]; exact h2) fun i hi => ?_
  have := srt_asc L i (q - 1) (by omega) (by rw [srt_len]; omega)
  omega
/- ### sensors -/
/-- From which concentration on a sensor surely says yes in a minute. -/
def ofV (th ri mi : Int) (x : Nat → Int) : Int := if mi < x 0 then 1048577 else if decide (th = 0) && decide (x 2 = 0) then 0 else th + x 2 + ri * (mi - x 0).tmod (x 1)
def ofL (th ri mi : Int) (s : Nat → Nat → Int) (n : Nat) : List Int := (List.range n).map fun i => ofV th ri mi (s i)
theorem ofL_len (th ri mi : Int) (s : Nat → Nat → Int) (n : Nat) : (ofL th ri mi s n).length = n := by simp [ofL]
theorem ofL_get {th ri mi : Int} {s : Nat → Nat → Int} {n i : Nat} (h : i < n) : (ofL th ri mi s n).getD i 0 = ofV th ri mi (s i) := by
  simp [ofL, List.getD_eq_getElem?_getD, h]
theorem ofL_snoc (th ri mi : Int) (s : Nat → Nat → Int) (n : Nat) : ofL th ri mi s (n + 1) = ofL th ri mi s n ++ [ofV th ri mi (s n)] := by simp [ofL, List.range_succ]
theorem ofL_count (th ri mi W : Int) (s : Nat → Nat → Int) : ∀ n, (ofL th ri mi s n).countP (fun x => decide (x ≤ W)) = cnN (fun i => decide (ofV th ri mi (s i) ≤ W)) n
  | 0 => rfl
  | n + 1 => by
    rw [ofL_snoc, List.countP_append, ofL_count th ri mi W s n, cnN, List.countP_cons, List.countP_nil]
    cases decide (ofV th ri mi (s n) ≤ W) <;> simp
def suV (n : Nat) (s : Nat → Nat → Int) (vo fa th ri mi : Int) : Int := if decide (vo + fa ≤ n) then min 1048577 ((srt (ofL th ri mi s n)).getD (vo + fa - 1).toNat 0) else 1048577
/-- The most in all minutes, and the first minute in which it takes as much. -/
def woS (f : Int → Int) (fr : Int) : Nat → Int × Int
  | 0 => (-1, 0)
  | k + 1 => if decide ((woS f fr k).1 < f (fr + k)) then (f (fr + k), fr + k) else woS f fr k
theorem woS_at {f : Int → Int} {fr : Int} : ∀ k, (woS f fr k).1 = -1 ∨ (∃ j : Nat, j < k ∧ (woS f fr k).2 = fr + j ∧ (woS f fr k).1 = f (fr + j))
  | 0 => .inl rfl
  | k + 1 => by
    rw [woS]
    split
    · exact .inr ⟨k, by omega, rfl, rfl⟩
    · rcases woS_at (f := f) (fr := fr) k with h | ⟨j, h1, h2, h3⟩
      · exact .inl h
      · exact .inr ⟨j, by omega, h2, h3⟩
def wrB (n : Nat) (s : Nat → Nat → Int) (vo fa th ri fr to : Int) : Int × Int := woS (fun mi => suV n s vo fa th ri mi) fr (to - fr + 1).toNat
structure WR where
  most : Int
  minute : Int
  e : Int
def wrO (n : Nat) (s : Nat → Nat → Int) (vo fa th ri fr to : Int) : WR :=
  if voB n s vo fa then if in3 th 0 1048576 && (in3 ri 0 1048576 && (in3 to 0 2000 && in3 fr 0 to)) then
    if decide ((wrB n s vo fa th ri fr to).1 = 1048577) then ⟨0, 0, 4⟩ else ⟨(wrB n s vo fa th ri fr to).1 - 1, (wrB n s vo fa th ri fr to).2, 0⟩
    else ⟨0, 0, 2⟩ else ⟨0, 0, 1⟩
theorem ofV_bd {th ri mi : Int} {x : Nat → Int} (h1 : 0 ≤ th ∧ th ≤ 1048576) (h2 : 0 ≤ ri ∧ ri ≤ 1048576) (h3 : (0 ≤ x 0 ∧ x 0 ≤ 2000) ∧ (1 ≤ x 1 ∧ x 1 ≤ 1000) ∧ 0 ≤ x 2 ∧ x 2 ≤ 1048576) :
    (x 0 ≤ mi → 0 ≤ (mi - x 0).tmod (x 1) ∧ (mi - x 0).tmod (x 1) < x 1 ∧ 0 ≤ ri * (mi - x 0).tmod (x 1) ∧ ri * (mi - x 0).tmod (x 1) ≤ 1048576000) ∧ 0 ≤ ofV th ri mi x ∧ ofV th ri mi x ≤ 2000000000 := by
  have key : x 0 ≤ mi → 0 ≤ (mi - x 0).tmod (x 1) ∧ (mi - x 0).tmod (x 1) < x 1 ∧ 0 ≤ ri * (mi - x 0).tmod (x 1) ∧ ri * (mi - x 0).tmod (x 1) ≤ 1048576000 := fun h => by
    have e : (mi - x 0).tmod (x 1) = (mi - x 0) % x 1 := Int.tmod_eq_emod_of_nonneg (by omega)
    rw [e]
    have g1 := Int.emod_nonneg (mi - x 0) (show x 1 ≠ 0 by omega)
    have g2 := Int.emod_lt_of_pos (mi - x 0) (show 0 < x 1 by omega)
    generalize (mi - x 0) % x 1 = r at g1 g2
    have g3 := Int.mul_nonneg h2.1 g1
    have g4 : ri * r ≤ 1048576 * 1000 := Int.mul_le_mul h2.2 (by omega) g1 (by omega)
    omega
  refine ⟨key, ?_⟩
  unfold ofV
  split
  · omega
  · split
    · omega
    · have := key (by omega); omega
end Go.Eng
end

/- Ways through the regions whose order is drawn: file, alarm, and TopLog. -/
section
namespace Go.Eng
def p20_12 : Plan := .quiet 0 (.quiet 1 (.quiet 2 (.quiet 3 (.quiet 4 (.quiet 5 (.quiet 6 (.quiet 7 (.quiet 8 (.quiet 9 (.loud 10 [] (.done)))))))))))
def p20_13 : Plan := .quiet 0 (.quiet 1 (.quiet 2 (.quiet 3 (.quiet 4 (.quiet 5 (.quiet 6 (.quiet 8 (.loud 7 [0, 1, 4, 5, 8] (.quiet 9 (.loud 10 [] (.done)))))))))))
def p20_15 : Plan := .quiet 0 (.quiet 1 (.quiet 2 (.quiet 3 (.quiet 4 (.loud 5 [0, 1, 2] (.loud 6 [] (.quiet 7 (.quiet 8 (.done)))))))))
def p21_4 : Plan := .quiet 0 (.quiet 2 (.quiet 3 (.quiet 4 (.quiet 5 (.quiet 6 (.quiet 7 (.loud 1 [4, 6, 7] (.quiet 8 (.loud 9 [] (.done))))))))))
def p21_5 : Plan := .quiet 0 (.quiet 1 (.quiet 2 (.quiet 3 (.quiet 4 (.quiet 5 (.quiet 6 (.quiet 7 (.quiet 8 (.quiet 9 (.quiet 10 (.done)))))))))))
def p21_10 : Plan := .quiet 0 (.quiet 1 (.both (.loud 2 [0, 1] (.quiet 3 (.quiet 4 (.quiet 5 (.both (.loud 6 [0, 1] (.quiet 7 (.quiet 8 (.loud 9 [0, 1, 8] (.loud 10 [] (.done)))))) (.loud 9 [0, 1] (.loud 6 [0, 1] (.quiet 7 (.quiet 8 (.loud 10 [] (.done))))))))))) (.loud 9 [0, 1] (.loud 2 [0, 1] (.quiet 3 (.quiet 4 (.quiet 5 (.loud 6 [0, 1] (.quiet 7 (.quiet 8 (.loud 10 [] (.done))))))))))))
def p21_12 : Plan := .quiet 0 (.quiet 1 (.quiet 2 (.quiet 3 (.quiet 4 (.loud 5 [0, 1, 2, 3, 4] (.quiet 6 (.loud 7 [0, 1, 2, 3, 4] (.quiet 8 (.quiet 9 (.loud 10 [] (.done)))))))))))
def p21_14 : Plan := .quiet 0 (.quiet 1 (.quiet 2 (.quiet 3 (.quiet 4 (.quiet 5 (.quiet 6 (.quiet 8 (.loud 7 [0, 1, 4, 5, 8] (.quiet 9 (.loud 10 [] (.done)))))))))))
def p22_12 : Plan := .quiet 0 (.quiet 1 (.quiet 2 (.quiet 3 (.quiet 4 (.quiet 5 (.quiet 6 (.quiet 7 (.quiet 8 (.quiet 9 (.quiet 10 (.quiet 11 (.quiet 12 (.loud 13 [] (.done))))))))))))))
def p22_21 : Plan := .quiet 0 (.quiet 1 (.quiet 2 (.quiet 3 (.quiet 4 (.loud 5 [] (.done))))))
def p22_23 : Plan := .quiet 0 (.quiet 1 (.quiet 2 (.quiet 3 (.quiet 4 (.loud 5 [] (.done))))))
def p22_25 : Plan := .quiet 0 (.quiet 2 (.quiet 3 (.loud 1 [2, 3] (.quiet 4 (.done)))))
def p25_6 : Plan := .quiet 0 (.quiet 1 (.quiet 2 (.quiet 3 (.quiet 4 (.quiet 5 (.quiet 6 (.quiet 7 (.quiet 8 (.done)))))))))
def p62_6 : Plan := .quiet 0 (.quiet 1 (.quiet 2 (.quiet 3 (.quiet 4 (.quiet 5 (.quiet 6 (.quiet 7 (.quiet 8 (.quiet 9 (.quiet 10 (.quiet 11 (.quiet 12 (.quiet 13 (.quiet 14 (.quiet 15 (.quiet 16 (.quiet 17 (.quiet 18 (.quiet 19 (.quiet 20 (.quiet 21 (.quiet 22 (.quiet 23 (.quiet 24 (.quiet 25 (.loud 26 [] (.done)))))))))))))))))))))))))))
def p68_5 : Plan := .quiet 0 (.quiet 1 (.quiet 2 (.quiet 3 (.loud 4 [] (.quiet 5 (.quiet 6 (.done)))))))
def p69_3 : Plan := .quiet 0 (.quiet 1 (.quiet 2 (.quiet 3 (.quiet 4 (.quiet 5 (.quiet 6 (.quiet 7 (.quiet 8 (.quiet 9 (.quiet 10 (.quiet 11 (.loud 12 [] (.done)))))))))))))
def p69_4 : Plan := .quiet 0 (.quiet 1 (.quiet 2 (.quiet 3 (.quiet 4 (.quiet 5 (.quiet 6 (.quiet 7 (.quiet 8 (.quiet 9 (.quiet 10 (.quiet 11 (.quiet 12 (.quiet 13 (.quiet 14 (.quiet 15 (.quiet 16 (.quiet 17 (.quiet 18 (.quiet 19 (.quiet 20 (.quiet 21 (.quiet 22 (.quiet 23 (.quiet 24 (.done)))))))))))))))))))))))))
def p74_5 : Plan := .quiet 0 (.quiet 1 (.loud 2 [0, 1] (.loud 3 [] (.done))))
def p115_2 : Plan := .quiet 0 (.quiet 1 (.quiet 2 (.quiet 3 (.quiet 4 (.quiet 5 (.quiet 6 (.quiet 7 (.quiet 8 (.quiet 9 (.quiet 10 (.quiet 11 (.quiet 12 (.quiet 13 (.quiet 14 (.quiet 15 (.done))))))))))))))))
def p115_4 : Plan := .quiet 0 (.quiet 1 (.quiet 2 (.quiet 3 (.quiet 4 (.quiet 5 (.quiet 6 (.quiet 7 (.loud 8 [] (.quiet 9 (.done))))))))))
def p138_5 : Plan := .quiet 0 (.quiet 1 (.quiet 2 (.quiet 3 (.quiet 4 (.quiet 5 (.quiet 6 (.quiet 7 (.quiet 8 (.quiet 9 (.quiet 10 (.quiet 11 (.quiet 12 (.quiet 13 (.quiet 14 (.done)))))))))))))))
def p149_4 : Plan := .quiet 0 (.quiet 1 (.quiet 2 (.quiet 3 (.quiet 4 (.quiet 5 (.quiet 6 (.quiet 7 (.quiet 8 (.quiet 9 (.quiet 10 (.quiet 11 (.quiet 12 (.loud 13 [] (.quiet 14 (.done)))))))))))))))
def p149_6 : Plan := .quiet 0 (.quiet 1 (.quiet 2 (.quiet 3 (.quiet 4 (.quiet 5 (.quiet 6 (.quiet 7 (.quiet 8 (.quiet 9 (.quiet 10 (.quiet 11 (.quiet 12 (.quiet 13 (.quiet 14 (.loud 15 [] (.quiet 16 (.loud 17 [] (.done))))))))))))))))))
end Go.Eng
end

/- alarm: small functions. -/
section
namespace Go.Eng
open Go Go.RowKit Go.Proofs
set_option maxRecDepth 100000
set_option maxHeartbeats 4000000
attribute [local irreducible] OwnT DefS
def awithinBase : BaseF := fun args => match args with
  | [.int .i64 n, .int .i64 lo, .int .i64 hi] => some (True, .bool (in3 n lo hi))
  | _ => none
theorem awithin_eq (n : Int) (lo : Int) (hi : Int) : awithinBase [.int .i64 n, .int .i64 lo, .int .i64 hi] = some (True, .bool (in3 n lo hi)) := rfl
theorem awithin_base : Base Try.prog 76 awithinBase := by
  intro args p v hq hp
  unfold awithinBase at hq
  split at hq
  rotate_left
  · cases hq
  rename_i n lo hi
  cases hq
  refine base_of (C := cx [] [] [] [] none) (cx_ok trivial trivial) rfl (g := 76) (fn := Try.f76)
    (args' := [.int .i64 n, .int .i64 lo, .int .i64 hi]) (fn_76) rfl 1000 (by simp only [BdL, Bd, and_self, and_true, true_and]) ⟨SameD.rfl' _, SameD.rfl' _, SameD.rfl' _, trivial⟩ ?_
  simp only [Try.f76, go_sem, ↓reduceIte, Nat.reduceAdd, Nat.reduceSub, Nat.reduceMul, Nat.reduceEqDiff, Nat.reduceLT, Nat.reduceLeDiff, Int.reduceToNat, Int.reduceLE, Int.reduceLT, Int.reduceEq, Int.reduceNeg, reduceCtorEq]
  (repeat' refine And.intro (fun _ => ?_) (fun _ => ?_)) <;> simp_all [in3] <;> omega
def rinBase : BaseF := fun args => match args with
  | [.int .i64 n, .int .i64 lo, .int .i64 hi] => some (True, .bool (in3 n lo hi))
  | _ => none
theorem rin_eq (n : Int) (lo : Int) (hi : Int) : rinBase [.int .i64 n, .int .i64 lo, .int .i64 hi] = some (True, .bool (in3 n lo hi)) := rfl
theorem rin_base : Base Try.prog 81 rinBase := by
  intro args p v hq hp
  unfold rinBase at hq
  split at hq
  rotate_left
  · cases hq
  rename_i n lo hi
  cases hq
  refine base_of (C := cx [] [] [] [] none) (cx_ok trivial trivial) rfl (g := 81) (fn := Try.f81)
    (args' := [.int .i64 n, .int .i64 lo, .int .i64 hi]) (fn_81) rfl 1000 (by simp only [BdL, Bd, and_self, and_true, true_and]) ⟨SameD.rfl' _, SameD.rfl' _, SameD.rfl' _, trivial⟩ ?_
  simp only [Try.f81, go_sem, ↓reduceIte, Nat.reduceAdd, Nat.reduceSub, Nat.reduceMul, Nat.reduceEqDiff, Nat.reduceLT, Nat.reduceLeDiff, Int.reduceToNat, Int.reduceLE, Int.reduceLT, Int.reduceEq, Int.reduceNeg, reduceCtorEq]
  (repeat' refine And.intro (fun _ => ?_) (fun _ => ?_)) <;> simp_all [in3] <;> omega
def isGasBase : BaseF := fun args => match args with
  | [.int .i64 n] => some (True, .bool (in3 n 0 1048576))
  | _ => none
theorem isGas_eq (n : Int) : isGasBase [.int .i64 n] = some (True, .bool (in3 n 0 1048576)) := rfl
theorem isGas_base : Base Try.prog 73 isGasBase := by
  intro args p v hq hp
  unfold isGasBase at hq
  split at hq
  rotate_left
  · cases hq
  rename_i n
  cases hq
  refine base_of (C := cx [] [] [(76, awithinBase)] [] none) (cx_ok trivial ⟨awithin_base, trivial⟩) rfl (g := 73) (fn := Try.f73)
    (args' := [.int .i64 n]) (fn_73) rfl 1000 (by simp only [BdL, Bd, and_self, and_true, true_and]) ⟨SameD.rfl' _, trivial⟩ ?_
  simp only [awithin_eq, Try.f73, go_sem, ↓reduceIte, Nat.reduceAdd, Nat.reduceSub, Nat.reduceMul, Nat.reduceEqDiff, Nat.reduceLT, Nat.reduceLeDiff, Int.reduceToNat, Int.reduceLE, Int.reduceLT, Int.reduceEq, Int.reduceNeg, reduceCtorEq]
def isTimeBase : BaseF := fun args => match args with
  | [.int .i64 fr, .int .i64 to] => some (True, .bool (in3 to 0 2000 && in3 fr 0 to))
  | _ => none
theorem isTime_eq (fr : Int) (to : Int) : isTimeBase [.int .i64 fr, .int .i64 to] = some (True, .bool (in3 to 0 2000 && in3 fr 0 to)) := rfl
theorem isTime_base : Base Try.prog 79 isTimeBase := by
  intro args p v hq hp
  unfold isTimeBase at hq
  split at hq
  rotate_left
  · cases hq
  rename_i fr to
  cases hq
  refine base_of (C := cx [] [] [(76, awithinBase)] [] none) (cx_ok trivial ⟨awithin_base, trivial⟩) rfl (g := 79) (fn := Try.f79)
    (args' := [.int .i64 fr, .int .i64 to]) (fn_79) rfl 1000 (by simp only [BdL, Bd, and_self, and_true, true_and]) ⟨SameD.rfl' _, SameD.rfl' _, trivial⟩ ?_
  simp only [awithin_eq, Try.f79, go_sem, ↓reduceIte, Nat.reduceAdd, Nat.reduceSub, Nat.reduceMul, Nat.reduceEqDiff, Nat.reduceLT, Nat.reduceLeDiff, Int.reduceToNat, Int.reduceLE, Int.reduceLT, Int.reduceEq, Int.reduceNeg, reduceCtorEq]
  generalize in3 to 0 2000 = b1
  cases b1 <;> simp [spl]
theorem allS_false {n : Nat} {s : Nat → Nat → Int} {i : Nat} (hi : i < n) (h : seB (s i) = false) : allS n s = false := by
  cases hc : allS n s with
  | false => rfl
  | true => have := allS_iff.1 hc i hi; rw [h] at this; cases this
theorem belowS {s : Nat → Nat → Int} {i : Nat} (h : ∀ j, j < i → seB (s j) = true) (hi : seB (s i) = true) : ∀ j, j < i + 1 → seB (s j) = true := fun j hj => by
  rcases Nat.lt_or_ge j i with h2 | h2
  · exact h j h2
  · obtain rfl : j = i := by omega
    exact hi
def hasSeBase : BaseF := fun args => match args with
  | [.row n sz_s f_s, .func g []] => some ((sz_s = 3 ∧ IntR n 3 f_s) ∧ (g = 113 ∧ n ≤ 1000000), .bool (!allS n (ivf f_s)))
  | _ => none
theorem hasSe_eq (n : Nat) (sz_s : Nat) (f_s : Nat → Nat → SV) (g : Nat) : hasSeBase [.row n sz_s f_s, .func g []] = some ((sz_s = 3 ∧ IntR n 3 f_s) ∧ (g = 113 ∧ n ≤ 1000000), .bool (!allS n (ivf f_s))) := rfl
theorem hasSe_base : Base Try.prog 114 hasSeBase := by
  intro args p v hq hp
  unfold hasSeBase at hq
  split at hq
  rotate_left
  · cases hq
  rename_i n sz_s f_s g
  cases hq
  obtain ⟨⟨rfl, i_s⟩, pre⟩ := hp
  refine base_of (C := cx [] [] [(76, awithinBase), (73, isGasBase)] [] none) (cx_ok trivial ⟨awithin_base, isGas_base, trivial⟩) rfl (g := 114) (fn := Try.f114)
    (args' := [.row n 3 (rowF .i64 (ivf f_s)), .func g []]) (fn_114) rfl 1000 (by
    simp only [BdL, Bd, and_self, and_true, true_and]
    exact (fun i j hi hj => by rw [i_s i j hi hj]; trivial)) ⟨SameD.int i_s, SameD.rfl' _, trivial⟩ ?_
  generalize ivf f_s = s at *
  simp only [rowF_eq]
  obtain ⟨rfl, hn⟩ := pre
  simp only [awithin_eq, isGas_eq, Try.f113, Try.f137, Try.f114, go_sem, ↓reduceIte, Nat.reduceAdd, Nat.reduceSub, Nat.reduceMul, Nat.reduceEqDiff, Nat.reduceLT, Nat.reduceLeDiff, Int.reduceToNat, Int.reduceLE, Int.reduceLT, Int.reduceEq, Int.reduceNeg, reduceCtorEq]
  refine loop_ofH { i : Nat // i ≤ n ∧ ∀ j, j < i → seB (s j) = true } (fun i => [(8, .int .i64 (i.1 : Int)), (7, .int .i64 (n : Int)), (1, .func 113 []), (0, .row n 3 fun i j => .int .i64 (s i j))]) (fun h _ => h) (fun i => n - i.1) (fun _ => ⟨rfl, rfl⟩) ⟨0, by omega, by omega⟩ (by (apply sub_of <;> simp only [go_sem, ↓reduceIte, Nat.reduceAdd, Nat.reduceSub, Nat.reduceMul, Nat.reduceEqDiff, Nat.reduceLT, Nat.reduceLeDiff, Int.reduceToNat, Int.reduceLE, Int.reduceLT, Int.reduceEq, Int.reduceNeg, reduceCtorEq] <;> (try simp [catF]) <;> (try exact fun j _ => Bd_nth (by simp [BdL, Bd]) j) <;> (try exact bd_setL (by simp [bdAs, BdL, Bd])) <;> (try exact nestF_bd _ _ _ _ _ _ _ _ _))) ?_
  rintro ⟨i, hi, h3⟩
  simp only at hi h3 ⊢
  have hw3 : IntKind.i64.wrap ((i : Int) + 1) = ((i + 1 : Nat) : Int) := by rw [wrap_id (by omega) (by omega)]; omega
  by_cases hin : i < n
  rotate_left
  · have d1 : decide ((i : Int) < (n : Int)) = false := decide_eq_false (by omega)
    obtain rfl : i = n := by omega
    have hA : allS i s = true := allS_iff.2 h3
    simp only [d1, hA, awithin_eq, isGas_eq, Try.f113, Try.f137, Try.f114, go_sem, ↓reduceIte, Nat.reduceAdd, Nat.reduceSub, Nat.reduceMul, Nat.reduceEqDiff, Nat.reduceLT, Nat.reduceLeDiff, Int.reduceToNat, Int.reduceLE, Int.reduceLT, Int.reduceEq, Int.reduceNeg, reduceCtorEq]
    try decide
  have d1 : decide ((i : Int) < (n : Int)) = true := decide_eq_true (by omega)
  have d2 : decide ((0 : Int) ≤ (i : Int)) = true := decide_eq_true (by omega)
  cases hs : seB (s i) with
  | false =>
    have hA := allS_false hin hs
    have hs' := hs
    unfold seB at hs'
    cases c1 : in3 (s i 0) 0 2000 with
    | false =>
      simp only [d1, d2, hA, c1, Int.toNat_natCast, awithin_eq, isGas_eq, Try.f113, Try.f137, Try.f114, go_sem, ↓reduceIte, Nat.reduceAdd, Nat.reduceSub, Nat.reduceMul, Nat.reduceEqDiff, Nat.reduceLT, Nat.reduceLeDiff, Int.reduceToNat, Int.reduceLE, Int.reduceLT, Int.reduceEq, Int.reduceNeg, reduceCtorEq]
      exact ⟨by omega, by omega⟩
    | true =>
      rw [c1, Bool.true_and] at hs'
      cases c2 : in3 (s i 1) 1 1000 with
      | false =>
        simp only [d1, d2, hA, c1, c2, Int.toNat_natCast, awithin_eq, isGas_eq, Try.f113, Try.f137, Try.f114, go_sem, ↓reduceIte, Nat.reduceAdd, Nat.reduceSub, Nat.reduceMul, Nat.reduceEqDiff, Nat.reduceLT, Nat.reduceLeDiff, Int.reduceToNat, Int.reduceLE, Int.reduceLT, Int.reduceEq, Int.reduceNeg, reduceCtorEq]
        exact ⟨by omega, by omega⟩
      | true =>
        rw [c2, Bool.true_and] at hs'
        simp only [d1, d2, hA, c1, c2, hs', Int.toNat_natCast, awithin_eq, isGas_eq, Try.f113, Try.f137, Try.f114, go_sem, ↓reduceIte, Nat.reduceAdd, Nat.reduceSub, Nat.reduceMul, Nat.reduceEqDiff, Nat.reduceLT, Nat.reduceLeDiff, Int.reduceToNat, Int.reduceLE, Int.reduceLT, Int.reduceEq, Int.reduceNeg, reduceCtorEq]
        exact ⟨by omega, by omega⟩
  | true =>
    have hs' := hs
    unfold seB at hs'
    simp only [Bool.and_eq_true] at hs'
    obtain ⟨c1, c2, c3⟩ := hs'
    simp only [d1, c1, c2, c3, Int.toNat_natCast, awithin_eq, isGas_eq, Try.f113, Try.f137, Try.f114, go_sem, ↓reduceIte, Nat.reduceAdd, Nat.reduceSub, Nat.reduceMul, Nat.reduceEqDiff, Nat.reduceLT, Nat.reduceLeDiff, Int.reduceToNat, Int.reduceLE, Int.reduceLT, Int.reduceEq, Int.reduceNeg, reduceCtorEq]
    refine ⟨by omega, ⟨i + 1, by omega, belowS h3 hs⟩, by simp only []; omega, ?_⟩
    apply sub_of <;> simp only [hw3, go_sem, ↓reduceIte, Nat.reduceAdd, Nat.reduceSub, Nat.reduceMul, Nat.reduceEqDiff, Nat.reduceLT, Nat.reduceLeDiff, Int.reduceToNat, Int.reduceLE, Int.reduceLT, Int.reduceEq, Int.reduceNeg, reduceCtorEq] <;> (try simp) <;> (try exact fun j _ => Bd_nth (by simp [BdL, Bd]) j) <;> (try exact bd_setL (by simp [bdAs, BdL, Bd])) <;> (try exact nestF_bd _ _ _ _ _ _ _ _ _)
def isVotingBase : BaseF := fun args => match args with
  | [.agg [.row n sz_s f_s, .int .i64 vo, .int .i64 fa]] => some ((sz_s = 3 ∧ IntR n 3 f_s) ∧ (n ≤ 1000000), .bool (voB n (ivf f_s) vo fa))
  | _ => none
theorem isVoting_eq (n : Nat) (sz_s : Nat) (f_s : Nat → Nat → SV) (vo : Int) (fa : Int) : isVotingBase [.agg [.row n sz_s f_s, .int .i64 vo, .int .i64 fa]] = some ((sz_s = 3 ∧ IntR n 3 f_s) ∧ (n ≤ 1000000), .bool (voB n (ivf f_s) vo fa)) := rfl
theorem isVoting_base : Base Try.prog 72 isVotingBase := by
  intro args p v hq hp
  unfold isVotingBase at hq
  split at hq
  rotate_left
  · cases hq
  rename_i n sz_s f_s vo fa
  cases hq
  obtain ⟨⟨rfl, i_s⟩, pre⟩ := hp
  refine base_of (C := cx [] [] [(76, awithinBase), (114, hasSeBase)] [] none) (cx_ok trivial ⟨awithin_base, hasSe_base, trivial⟩) rfl (g := 72) (fn := Try.f72)
    (args' := [.agg [.row n 3 (rowF .i64 (ivf f_s)), .int .i64 vo, .int .i64 fa]]) (fn_72) rfl 1000 (by
    simp only [BdL, Bd, and_self, and_true, true_and]
    exact (fun i j hi hj => by rw [i_s i j hi hj]; trivial)) ⟨SameD.agg ⟨SameD.int i_s, SameD.rfl' _, SameD.rfl' _, trivial⟩, trivial⟩ ?_
  generalize ivf f_s = s at *
  simp only [rowF_eq]
  unfold voB
  cases c1 : in3 n 1 12 with
  | false => simp only [c1, awithin_eq, hasSe_eq, Try.f72, go_sem, ↓reduceIte, Nat.reduceAdd, Nat.reduceSub, Nat.reduceMul, Nat.reduceEqDiff, Nat.reduceLT, Nat.reduceLeDiff, Int.reduceToNat, Int.reduceLE, Int.reduceLT, Int.reduceEq, Int.reduceNeg, reduceCtorEq]
  | true =>
  cases c2 : in3 vo 1 n with
  | false => simp only [c1, c2, awithin_eq, hasSe_eq, Try.f72, go_sem, ↓reduceIte, Nat.reduceAdd, Nat.reduceSub, Nat.reduceMul, Nat.reduceEqDiff, Nat.reduceLT, Nat.reduceLeDiff, Int.reduceToNat, Int.reduceLE, Int.reduceLT, Int.reduceEq, Int.reduceNeg, reduceCtorEq]
  | true =>
  cases c3 : in3 fa 0 n with
  | false => simp only [c1, c2, c3, awithin_eq, hasSe_eq, Try.f72, go_sem, ↓reduceIte, Nat.reduceAdd, Nat.reduceSub, Nat.reduceMul, Nat.reduceEqDiff, Nat.reduceLT, Nat.reduceLeDiff, Int.reduceToNat, Int.reduceLE, Int.reduceLT, Int.reduceEq, Int.reduceNeg, reduceCtorEq]
  | true =>
    simp only [c1, c2, c3, awithin_eq, hasSe_eq, Try.f72, go_sem, ↓reduceIte, Nat.reduceAdd, Nat.reduceSub, Nat.reduceMul, Nat.reduceEqDiff, Nat.reduceLT, Nat.reduceLeDiff, Int.reduceToNat, Int.reduceLE, Int.reduceLT, Int.reduceEq, Int.reduceNeg, reduceCtorEq]
    exact ⟨pre, by rw [Bool.not_not]⟩
def votingBase : BaseF := fun args => match args with
  | [.agg [.row n sz_s f_s, .int .i64 vo, .int .i64 fa]] => some ((sz_s = 3 ∧ IntR n 3 f_s) ∧ (voB n (ivf f_s) vo fa = true), .bool true)
  | _ => none
theorem voting_eq (n : Nat) (sz_s : Nat) (f_s : Nat → Nat → SV) (vo : Int) (fa : Int) : votingBase [.agg [.row n sz_s f_s, .int .i64 vo, .int .i64 fa]] = some ((sz_s = 3 ∧ IntR n 3 f_s) ∧ (voB n (ivf f_s) vo fa = true), .bool true) := rfl
theorem voting_base : Base Try.prog 24 votingBase := by
  intro args p v hq hp
  unfold votingBase at hq
  split at hq
  rotate_left
  · cases hq
  rename_i n sz_s f_s vo fa
  cases hq
  obtain ⟨⟨rfl, i_s⟩, pre⟩ := hp
  refine base_of (C := cx [] [] [(81, rinBase)] [] none) (cx_ok trivial ⟨rin_base, trivial⟩) rfl (g := 24) (fn := Try.f24)
    (args' := [.agg [.row n 3 (rowF .i64 (ivf f_s)), .int .i64 vo, .int .i64 fa]]) (fn_24) rfl 1000 (by
    simp only [BdL, Bd, and_self, and_true, true_and]
    exact (fun i j hi hj => by rw [i_s i j hi hj]; trivial)) ⟨SameD.agg ⟨SameD.int i_s, SameD.rfl' _, SameD.rfl' _, trivial⟩, trivial⟩ ?_
  generalize ivf f_s = s at *
  simp only [rowF_eq]
  have hv := pre
  unfold voB at hv
  simp only [Bool.and_eq_true] at hv
  obtain ⟨v1, v2, v3, v4⟩ := hv
  have hk := voB_ok pre
  have n12 := hk.n12
  have v4 := allS_iff.1 v4
  simp only [rin_eq, Try.f24, go_sem, ↓reduceIte, Nat.reduceAdd, Nat.reduceSub, Nat.reduceMul, Nat.reduceEqDiff, Nat.reduceLT, Nat.reduceLeDiff, Int.reduceToNat, Int.reduceLE, Int.reduceLT, Int.reduceEq, Int.reduceNeg, reduceCtorEq]
  refine loop_ofH { i : Nat // i ≤ n } (fun i => [(3, .int .i64 (i.1 : Int)), (1, .ptr 0 0)]) (fun h _ => h) (fun i => n - i.1) (fun _ => ⟨rfl, rfl⟩) ⟨0, by omega⟩ (by (apply sub_of <;> simp only [go_sem, ↓reduceIte, Nat.reduceAdd, Nat.reduceSub, Nat.reduceMul, Nat.reduceEqDiff, Nat.reduceLT, Nat.reduceLeDiff, Int.reduceToNat, Int.reduceLE, Int.reduceLT, Int.reduceEq, Int.reduceNeg, reduceCtorEq] <;> (try simp [catF]) <;> (try exact fun j _ => Bd_nth (by simp [BdL, Bd]) j) <;> (try exact bd_setL (by simp [bdAs, BdL, Bd])) <;> (try exact nestF_bd _ _ _ _ _ _ _ _ _))) ?_
  rintro ⟨i, hi⟩
  simp only at hi ⊢
  have hw3 : IntKind.i64.wrap ((i : Int) + 1) = ((i + 1 : Nat) : Int) := by rw [wrap_id (by omega) (by omega)]; omega
  by_cases hin : i < n
  rotate_left
  · have d1 : decide ((i : Int) < (n : Int)) = false := decide_eq_false (by omega)
    simp only [d1, v1, v2, v3, rin_eq, Try.f24, go_sem, ↓reduceIte, Nat.reduceAdd, Nat.reduceSub, Nat.reduceMul, Nat.reduceEqDiff, Nat.reduceLT, Nat.reduceLeDiff, Int.reduceToNat, Int.reduceLE, Int.reduceLT, Int.reduceEq, Int.reduceNeg, reduceCtorEq]
  have d1 : decide ((i : Int) < (n : Int)) = true := decide_eq_true (by omega)
  have d2 : decide ((i : Int) ≤ 12) = true := decide_eq_true (by omega)
  have hs := v4 i hin
  unfold seB at hs
  simp only [Bool.and_eq_true] at hs
  obtain ⟨c1, c2, c3⟩ := hs
  simp only [d1, d2, c1, c2, c3, Int.toNat_natCast, rin_eq, Try.f24, go_sem, ↓reduceIte, Nat.reduceAdd, Nat.reduceSub, Nat.reduceMul, Nat.reduceEqDiff, Nat.reduceLT, Nat.reduceLeDiff, Int.reduceToNat, Int.reduceLE, Int.reduceLT, Int.reduceEq, Int.reduceNeg, reduceCtorEq]
  refine ⟨by omega, ⟨i + 1, by omega⟩, by simp only []; omega, ?_⟩
  apply sub_of <;> simp only [hw3, go_sem, ↓reduceIte, Nat.reduceAdd, Nat.reduceSub, Nat.reduceMul, Nat.reduceEqDiff, Nat.reduceLT, Nat.reduceLeDiff, Int.reduceToNat, Int.reduceLE, Int.reduceLT, Int.reduceEq, Int.reduceNeg, reduceCtorEq] <;> (try simp) <;> (try exact fun j _ => Bd_nth (by simp [BdL, Bd]) j) <;> (try exact bd_setL (by simp [bdAs, BdL, Bd])) <;> (try exact nestF_bd _ _ _ _ _ _ _ _ _)
theorem mkN_of {x : Nat} (h : x < 2 ^ 12) : mkN x.testBit 12 = x := (mkN_eq fun i => by
  by_cases hi : i < 12
  · simp [hi]
  · have : x.testBit i = false := Nat.testBit_lt_two_pow (Nat.lt_of_lt_of_le h (Nat.pow_le_pow_right (by omega) (by omega)))
    simp [this]).symm
def countBase : BaseF := fun args => match args with
  | [.int .i64 x] => some ((0 ≤ x ∧ x < 4096), .int .i64 (cnN x.toNat.testBit 12 : Int))
  | _ => none
theorem count_eq (x : Int) : countBase [.int .i64 x] = some ((0 ≤ x ∧ x < 4096), .int .i64 (cnN x.toNat.testBit 12 : Int)) := rfl
theorem count_base : Base Try.prog 78 countBase := by
  intro args p v hq hp
  unfold countBase at hq
  split at hq
  rotate_left
  · cases hq
  rename_i x
  cases hq
  have pre := hp
  refine base_of (C := cx [] [] [] [] none) (cx_ok trivial trivial) rfl (g := 78) (fn := Try.f78)
    (args' := [.int .i64 x]) (fn_78) rfl 1000 (by simp only [BdL, Bd, and_self, and_true, true_and]) ⟨SameD.rfl' _, trivial⟩ ?_
  obtain ⟨x, rfl⟩ : ∃ y : Nat, x = y := ⟨x.toNat, by omega⟩
  have hx : x < 2 ^ 12 := by omega
  simp only [Int.toNat_natCast, Try.f78, go_sem, ↓reduceIte, Nat.reduceAdd, Nat.reduceSub, Nat.reduceMul, Nat.reduceEqDiff, Nat.reduceLT, Nat.reduceLeDiff, Int.reduceToNat, Int.reduceLE, Int.reduceLT, Int.reduceEq, Int.reduceNeg, reduceCtorEq]
  refine loop_ofH { i : Nat // i ≤ 12 } (fun i => [(5, .int .i64 (i.1 : Int)), (3, .int .i64 (cnN x.testBit i.1 : Int)), (0, .int .i64 (x : Int))]) (fun h _ => h) (fun i => 12 - i.1) (fun _ => ⟨rfl, rfl⟩) ⟨0, by omega⟩ (by simp only [cnN]; (apply sub_of <;> simp only [go_sem, ↓reduceIte, Nat.reduceAdd, Nat.reduceSub, Nat.reduceMul, Nat.reduceEqDiff, Nat.reduceLT, Nat.reduceLeDiff, Int.reduceToNat, Int.reduceLE, Int.reduceLT, Int.reduceEq, Int.reduceNeg, reduceCtorEq] <;> (try simp [catF]) <;> (try exact fun j _ => Bd_nth (by simp [BdL, Bd]) j) <;> (try exact bd_setL (by simp [bdAs, BdL, Bd])) <;> (try exact nestF_bd _ _ _ _ _ _ _ _ _))) ?_
  rintro ⟨i, hi⟩
  simp only at hi ⊢
  by_cases hin : i < 12
  rotate_left
  · have d1 : decide ((i : Int) < 12) = false := decide_eq_false (by omega)
    obtain rfl : i = 12 := by omega
    simp only [d1, Try.f78, go_sem, ↓reduceIte, Nat.reduceAdd, Nat.reduceSub, Nat.reduceMul, Nat.reduceEqDiff, Nat.reduceLT, Nat.reduceLeDiff, Int.reduceToNat, Int.reduceLE, Int.reduceLT, Int.reduceEq, Int.reduceNeg, reduceCtorEq]
  have d1 : decide ((i : Int) < 12) = true := decide_eq_true (by omega)
  have hw3 : IntKind.i64.wrap ((i : Int) + 1) = ((i + 1 : Nat) : Int) := by rw [wrap_id (by omega) (by omega)]; omega
  have hb := bit_of (f := x.testBit) hin
  rw [mkN_of hx] at hb
  have hc := cnN_le x.testBit i
  have hb1 := b_le (x.testBit i)
  have hw4 : IntKind.i64.wrap ((cnN x.testBit i : Int) + ((x.testBit i).toNat : Int)) = (cnN x.testBit (i + 1) : Int) := by rw [wrap_id (by omega) (by omega), cnN]; omega
  simp only [d1, hb, hw3, hw4, Int.toNat_natCast, Try.f78, go_sem, ↓reduceIte, Nat.reduceAdd, Nat.reduceSub, Nat.reduceMul, Nat.reduceEqDiff, Nat.reduceLT, Nat.reduceLeDiff, Int.reduceToNat, Int.reduceLE, Int.reduceLT, Int.reduceEq, Int.reduceNeg, reduceCtorEq]
  refine ⟨by omega, ⟨i + 1, by omega⟩, by simp only []; omega, ?_⟩
  apply sub_of <;> simp only [go_sem, ↓reduceIte, Nat.reduceAdd, Nat.reduceSub, Nat.reduceMul, Nat.reduceEqDiff, Nat.reduceLT, Nat.reduceLeDiff, Int.reduceToNat, Int.reduceLE, Int.reduceLT, Int.reduceEq, Int.reduceNeg, reduceCtorEq] <;> (try simp) <;> (try exact fun j _ => Bd_nth (by simp [BdL, Bd]) j) <;> (try exact bd_setL (by simp [bdAs, BdL, Bd])) <;> (try exact nestF_bd _ _ _ _ _ _ _ _ _)
theorem def74_none (h : HS) (a b : Nat) : DefS Try.prog 74 [.ptr a 0, .ptr b 0] none h (fun p' h' => p' = none ∧ h' = h) := by
  refine defS_of_run (C := cx [] [] [] [] (some [])) (cx_ok trivial trivial) (g := 74) (fn := Try.f74) fn_74 rfl rfl rfl 1000 1000 ?_
  simp only [Try.f74, go_sem, ↓reduceIte, Nat.reduceAdd, Nat.reduceSub, Nat.reduceMul, Nat.reduceEqDiff, Nat.reduceLT, Nat.reduceLeDiff, Int.reduceToNat, Int.reduceLE, Int.reduceLT, Int.reduceEq, Int.reduceNeg, reduceCtorEq]
theorem setB_lastA : ∀ (l : List Blk) (a b : Blk), setB (snocB l a) (lenB l) b = snocB l b
  | [], _, _ => rfl
  | x :: l, a, b => by simp [setB, snocB, lenB, setB_lastA l a b]
theorem def74_some (h : HS) (a b : Nat) (e : Int) (x y : SV) (ha : getB h.blks a = .live 3 [x]) (hb : getB h.blks b = .live 27 [y]) (hab : a ≠ b) : DefS Try.prog 74 [.ptr a 0, .ptr b 0] (some (.iface 180 (.agg [.int .i64 e]))) h
    (fun p' h' => p' = none ∧ h' = { h with blks := setB (setB (snocB h.blks (.live 180 [.int .i64 e])) a (.live 3 [.int .i64 0])) b (.live 27 [.int .i64 e]) }) := by
  have hla := getB_lt ha
  have hlb := getB_lt hb
  have ga : ∀ z, getB (snocB h.blks z) (lenB h.blks) = z := fun z => by simp [getB_snoc]
  have gb : ∀ z, getB (snocB h.blks z) a = .live 3 [x] := fun z => by rw [getB_snoc, if_neg (by omega), ha]
  have gc : ∀ z, getB (snocB h.blks z) b = .live 27 [y] := fun z => by rw [getB_snoc, if_neg (by omega), hb]
  refine defS_of_run (C := cx [] [] [] [(74, 5, p74_5)] (some [])) (cx_ok trivial trivial) (g := 74) (fn := Try.f74) fn_74 rfl rfl rfl 1000 1000 ?_
  have gd : ∀ z v, getB (setB (snocB h.blks z) a v) (lenB h.blks) = z := fun z v => by rw [getB_set, if_neg (by omega), ga]
  have ge : ∀ z v, getB (setB (snocB h.blks z) a v) b = .live 27 [y] := fun z v => by rw [getB_set, if_neg (by omega), gc]
  simp only [Try.f74, p74_5, ga, gb, gc, gd, ge, setB_lastA, go_sem, ↓reduceIte, Nat.reduceAdd, Nat.reduceSub, Nat.reduceMul, Nat.reduceEqDiff, Nat.reduceLT, Nat.reduceLeDiff, Int.reduceToNat, Int.reduceLE, Int.reduceLT, Int.reduceEq, Int.reduceNeg, reduceCtorEq]
  exact ⟨by kernel_rfl, by kernel_rfl⟩
end Go.Eng
end

/- file: small functions. -/
section
namespace Go.Eng
open Go Go.RowKit Go.Proofs
set_option maxRecDepth 100000
set_option maxHeartbeats 4000000
attribute [local irreducible] OwnT DefS
def fwithinBase : BaseF := fun args => match args with
  | [.int .i64 n, .int .i64 lo, .int .i64 hi] => some (True, .bool (in3 n lo hi))
  | _ => none
theorem fwithin_eq (n : Int) (lo : Int) (hi : Int) : fwithinBase [.int .i64 n, .int .i64 lo, .int .i64 hi] = some (True, .bool (in3 n lo hi)) := rfl
theorem fwithin_base : Base Try.prog 111 fwithinBase := by
  intro args p v hq hp
  unfold fwithinBase at hq
  split at hq
  rotate_left
  · cases hq
  rename_i n lo hi
  cases hq
  refine base_of (C := cx [] [] [] [] none) (cx_ok trivial trivial) rfl (g := 111) (fn := Try.f111)
    (args' := [.int .i64 n, .int .i64 lo, .int .i64 hi]) (fn_111) rfl 1000 (by simp only [BdL, Bd, and_self, and_true, true_and]) ⟨SameD.rfl' _, SameD.rfl' _, SameD.rfl' _, trivial⟩ ?_
  simp only [Try.f111, go_sem, ↓reduceIte, Nat.reduceAdd, Nat.reduceSub, Nat.reduceMul, Nat.reduceEqDiff, Nat.reduceLT, Nat.reduceLeDiff, Int.reduceToNat, Int.reduceLE, Int.reduceLT, Int.reduceEq, Int.reduceNeg, reduceCtorEq]
  (repeat' refine And.intro (fun _ => ?_) (fun _ => ?_)) <;> simp_all [in3] <;> omega
def isSniffBase : BaseF := fun args => match args with
  | [.agg [.int .i64 mi, .int .i64 se, .int .i64 va], .int .i64 m] => some (True, .bool (snB mi se va m))
  | _ => none
theorem isSniff_eq (mi : Int) (se : Int) (va : Int) (m : Int) : isSniffBase [.agg [.int .i64 mi, .int .i64 se, .int .i64 va], .int .i64 m] = some (True, .bool (snB mi se va m)) := rfl
theorem isSniff_base : Base Try.prog 60 isSniffBase := by
  intro args p v hq hp
  unfold isSniffBase at hq
  split at hq
  rotate_left
  · cases hq
  rename_i mi se va m
  cases hq
  refine base_of (C := cx [] [] [(111, fwithinBase)] [] none) (cx_ok trivial ⟨fwithin_base, trivial⟩) rfl (g := 60) (fn := Try.f60)
    (args' := [.agg [.int .i64 mi, .int .i64 se, .int .i64 va], .int .i64 m]) (fn_60) rfl 1000 (by simp only [BdL, Bd, and_self, and_true, true_and]) ⟨SameD.rfl' _, SameD.rfl' _, trivial⟩ ?_
  simp only [fwithin_eq, Try.f60, go_sem, ↓reduceIte, Nat.reduceAdd, Nat.reduceSub, Nat.reduceMul, Nat.reduceEqDiff, Nat.reduceLT, Nat.reduceLeDiff, Int.reduceToNat, Int.reduceLE, Int.reduceLT, Int.reduceEq, Int.reduceNeg, reduceCtorEq]
  unfold snB
  generalize in3 mi m 1048576 = b1
  generalize in3 se 0 11 = b2
  cases b1 <;> cases b2 <;> simp [spl]
def needBase : BaseF := fun args => match args with
  | [.bool is] => some ((is = true), .tup [])
  | _ => none
theorem need_eq (is : Bool) : needBase [.bool is] = some ((is = true), .tup []) := rfl
theorem need_base : Base Try.prog 67 needBase := by
  intro args p v hq hp
  unfold needBase at hq
  split at hq
  rotate_left
  · cases hq
  rename_i is
  cases hq
  have pre := hp
  refine base_of (C := cx [] [] [] [] none) (cx_ok trivial trivial) rfl (g := 67) (fn := Try.f67)
    (args' := [.bool is]) (fn_67) rfl 1000 (by simp only [BdL, Bd, and_self, and_true, true_and]) ⟨SameD.rfl' _, trivial⟩ ?_
  subst pre
  simp only [Try.f67, go_sem, ↓reduceIte, Nat.reduceAdd, Nat.reduceSub, Nat.reduceMul, Nat.reduceEqDiff, Nat.reduceLT, Nat.reduceLeDiff, Int.reduceToNat, Int.reduceLE, Int.reduceLT, Int.reduceEq, Int.reduceNeg, reduceCtorEq]
theorem spl_intro {q : Bool} {A B : Prop} (h1 : q = true → A) (h2 : q = false → B) : spl q A B := ⟨h1, h2⟩
/-- The table of the lengths of bytes. -/
def tabOk (T : ByteArray) : Prop := T.size = 256 ∧ ∀ i, i < 256 → strAt T i = (bl i : Int)
theorem fd {y s : Nat} (hs : s ≤ 64) : ((y : Nat) : Int).fdiv (2 ^ (min s 64)) = ((y / 2 ^ s : Nat) : Int) := by
  rw [Nat.min_eq_left hs]
  have : ((2 : Int) ^ s) = ((2 ^ s : Nat) : Int) := by simp
  rw [this, Int.fdiv_eq_ediv_of_nonneg _ (Int.natCast_nonneg _)]
  rfl
theorem len_one {T : ByteArray} (hT : tabOk T) {N : Int} {u y : Nat} (hu : u < 256) (hN : 0 ≤ N ∧ N ≤ 100) (e : bl y = bl u + N.toNat) :
    (0 ≤ IntKind.u8.wrap (u : Int) ∧ IntKind.u8.wrap (u : Int) < (T.size : Int)) ∧ SV.int .i64 (IntKind.i64.wrap (N + IntKind.i64.wrap (strAt T (IntKind.u8.wrap (u : Int)).toNat))) = .int .i64 (bl y : Int) := by
  obtain ⟨h1, h2⟩ := hT
  have w1 : IntKind.u8.wrap (u : Int) = u := wrap_u8 (by omega) (by omega)
  have h3 := bl_lt (n := u) (k := 8) (by omega)
  rw [w1, h1, Int.toNat_natCast, h2 u hu, wrap_id (x := (bl u : Int)) (by omega) (by omega), wrap_id (by omega) (by omega), e]
  exact ⟨⟨by omega, by omega⟩, by congr 1; omega⟩
theorem len_key {T : ByteArray} (hT : tabOk T) {y : Nat} (hy : y < 4294967296) :
    spl (decide (65536 ≤ (y : Int))) (spl (decide (256 ≤ ((y : Int)).fdiv (2 ^ min 16 64))) ((0 ≤ IntKind.u8.wrap (((y : Int).fdiv (2 ^ min 16 64)).fdiv (2 ^ min 8 64)) ∧ IntKind.u8.wrap (((y : Int).fdiv (2 ^ min 16 64)).fdiv (2 ^ min 8 64)) < (T.size : Int)) ∧ SV.int .i64 (IntKind.i64.wrap (IntKind.i64.wrap (IntKind.i64.wrap (0 + 16) + 8) + IntKind.i64.wrap (strAt T (IntKind.u8.wrap (((y : Int).fdiv (2 ^ min 16 64)).fdiv (2 ^ min 8 64))).toNat))) = .int .i64 (bl y : Int))
      ((0 ≤ IntKind.u8.wrap ((y : Int).fdiv (2 ^ min 16 64)) ∧ IntKind.u8.wrap ((y : Int).fdiv (2 ^ min 16 64)) < (T.size : Int)) ∧ SV.int .i64 (IntKind.i64.wrap (IntKind.i64.wrap (0 + 16) + IntKind.i64.wrap (strAt T (IntKind.u8.wrap ((y : Int).fdiv (2 ^ min 16 64))).toNat))) = .int .i64 (bl y : Int)))
      (spl (decide (256 ≤ (y : Int))) ((0 ≤ IntKind.u8.wrap ((y : Int).fdiv (2 ^ min 8 64)) ∧ IntKind.u8.wrap ((y : Int).fdiv (2 ^ min 8 64)) < (T.size : Int)) ∧ SV.int .i64 (IntKind.i64.wrap (IntKind.i64.wrap (0 + 8) + IntKind.i64.wrap (strAt T (IntKind.u8.wrap ((y : Int).fdiv (2 ^ min 8 64))).toNat))) = .int .i64 (bl y : Int))
      ((0 ≤ IntKind.u8.wrap (y : Int) ∧ IntKind.u8.wrap (y : Int) < (T.size : Int)) ∧ SV.int .i64 (IntKind.i64.wrap (0 + IntKind.i64.wrap (strAt T (IntKind.u8.wrap (y : Int)).toNat))) = .int .i64 (bl y : Int))) := by
  rw [fd (by omega), fd (by omega), fd (by omega)]
  have e24 : IntKind.i64.wrap (IntKind.i64.wrap (0 + 16) + 8) = 24 := rfl
  have e16 : IntKind.i64.wrap (0 + 16) = 16 := rfl
  have e8 : IntKind.i64.wrap (0 + 8) = 8 := rfl
  rw [e24, e16, e8]
  refine spl_intro (fun h1 => spl_intro (fun h2 => ?_) (fun h2 => ?_)) (fun h1 => spl_intro (fun h2 => ?_) (fun h2 => ?_)) <;> simp only [decide_eq_true_eq, decide_eq_false_iff_not] at h1 h2
  · refine len_one hT (by omega) (by omega) ?_
    rw [bl_shift (n := y) (s := 16) (by omega), bl_shift (n := y / 2 ^ 16) (s := 8) (by omega)]; rfl
  · refine len_one hT (by omega) (by omega) ?_
    rw [bl_shift (n := y) (s := 16) (by omega)]; rfl
  · refine len_one hT (by omega) (by omega) ?_
    rw [bl_shift (n := y) (s := 8) (by omega)]; rfl
  · exact len_one hT (by omega) (by omega) rfl
def len64Base : BaseF := fun args => match args with
  | [.int .u64 x] => some (((Lit.int .u64 x).wf = true) ∧ (x < 4294967296), .int .i64 (bl x.toNat : Int))
  | _ => none
theorem len64_eq (x : Int) : len64Base [.int .u64 x] = some (((Lit.int .u64 x).wf = true) ∧ (x < 4294967296), .int .i64 (bl x.toNat : Int)) := rfl
theorem len64_base : Base Try.prog 112 len64Base := by
  intro args p v hq hp
  unfold len64Base at hq
  split at hq
  rotate_left
  · cases hq
  rename_i x
  cases hq
  obtain ⟨wf_x, pre⟩ := hp
  refine base_of (C := cx [] [] [] [] none) (cx_ok trivial trivial) rfl (g := 112) (fn := Try.f112)
    (args' := [.int .u64 x]) (fn_112) rfl 1000 (by simp only [BdL, Bd, and_self, and_true, true_and]) ⟨SameD.rfl' _, trivial⟩ ?_
  have hx0 : 0 ≤ x := by
    have := wf_x
    simp [Lit.wf, IntKind.min, IntKind.max, IntKind.signed, IntKind.bits] at this
    omega
  obtain ⟨y, rfl⟩ : ∃ y : Nat, x = y := ⟨x.toNat, by omega⟩
  have d1 : decide (4294967296 ≤ (y : Int)) = false := decide_eq_false (by omega)
  simp only [d1, Try.f112, go_sem, ↓reduceIte, Nat.reduceAdd, Nat.reduceSub, Nat.reduceMul, Nat.reduceEqDiff, Nat.reduceLT, Nat.reduceLeDiff, Int.reduceToNat, Int.reduceLE, Int.reduceLT, Int.reduceEq, Int.reduceNeg, reduceCtorEq]
  exact len_key ⟨rfl, by decide +kernel⟩ (by omega)
theorem foldN {n : Int} (h1 : -1000000000 ≤ n) (h2 : n ≤ 1000000000) : bitI .xor .u64 (IntKind.u64.wrap (IntKind.i64.wrap (n * 2 ^ min 1 64))) (IntKind.u64.wrap (n.fdiv (2 ^ min 63 64))) = (zz n : Int) := by
  have e1 : n * 2 ^ min 1 64 = 2 * n := by
    have : (2 : Int) ^ min 1 64 = 2 := rfl
    rw [this]; omega
  rw [e1, wrap_id (by omega) (by omega)]
  have e2 : (2 : Int) ^ min 63 64 = 9223372036854775808 := rfl
  rw [e2]
  by_cases h0 : 0 ≤ n
  · have e3 : n.fdiv 9223372036854775808 = 0 := by
      rw [Int.fdiv_eq_ediv_of_nonneg _ (by omega)]; omega
    have e4 : IntKind.u64.wrap 0 = 0 := rfl
    rw [e3, e4, wrap_u64 (by omega) (by omega)]
    obtain ⟨m, rfl⟩ : ∃ m : Nat, n = m := ⟨n.toNat, by omega⟩
    have := xor_zero (a := 2 * m) (by omega)
    rw [show (2 * (m : Int)) = ((2 * m : Nat) : Int) by omega, this, zz, if_pos h0]
    omega
  · have e3 : n.fdiv 9223372036854775808 = -1 := by
      rw [Int.fdiv_eq_ediv_of_nonneg _ (by omega)]; omega
    have e4 : IntKind.u64.wrap (-1) = 18446744073709551615 := rfl
    have e5 : IntKind.u64.wrap (2 * n) = 18446744073709551616 + 2 * n := by
      simp only [IntKind.wrap, IntKind.signed, IntKind.bits]
      simp
      omega
    rw [e3, e4, e5]
    obtain ⟨m, hm⟩ : ∃ m : Nat, 18446744073709551616 + 2 * n = m := ⟨(18446744073709551616 + 2 * n).toNat, by omega⟩
    rw [hm, xor_ones (by omega), zz, if_neg h0]
    omega
def foldBase : BaseF := fun args => match args with
  | [.int .i64 n] => some ((-1000000000 ≤ n ∧ n ≤ 1000000000), .int .u64 (zz n : Int))
  | _ => none
theorem fold_eq (n : Int) : foldBase [.int .i64 n] = some ((-1000000000 ≤ n ∧ n ≤ 1000000000), .int .u64 (zz n : Int)) := rfl
theorem fold_base : Base Try.prog 63 foldBase := by
  intro args p v hq hp
  unfold foldBase at hq
  split at hq
  rotate_left
  · cases hq
  rename_i n
  cases hq
  have pre := hp
  refine base_of (C := cx [] [] [] [] none) (cx_ok trivial trivial) rfl (g := 63) (fn := Try.f63)
    (args' := [.int .i64 n]) (fn_63) rfl 1000 (by simp only [BdL, Bd, and_self, and_true, true_and]) ⟨SameD.rfl' _, trivial⟩ ?_
  simp only [Try.f63, go_sem, ↓reduceIte, Nat.reduceAdd, Nat.reduceSub, Nat.reduceMul, Nat.reduceEqDiff, Nat.reduceLT, Nat.reduceLeDiff, Int.reduceToNat, Int.reduceLE, Int.reduceLT, Int.reduceEq, Int.reduceNeg, reduceCtorEq]
  exact congrArg _ (foldN pre.1 pre.2)
theorem unfoldN {y : Nat} (h : y < 1000000000000) : bitI .xor .i64 (IntKind.i64.wrap ((y : Int).fdiv (2 ^ min 1 64))) (IntKind.i64.wrap (0 - IntKind.i64.wrap (bitI .and .u64 (y : Int) 1))) = uz y := by
  have e1 : bitI .and .u64 (y : Int) 1 = ((y % 2 : Nat) : Int) := by
    have := and64u (a := y) (b := 1) (by omega) (by omega)
    rw [Nat.and_one_is_mod] at this
    exact this
  rw [fd (by omega), e1, wrap_id (x := ((y / 2 ^ 1 : Nat) : Int)) (by omega) (by omega), wrap_id (x := ((y % 2 : Nat) : Int)) (by omega) (by omega), Nat.pow_one]
  unfold uz
  by_cases h0 : y % 2 = 0
  · rw [h0, if_pos rfl]
    have : IntKind.i64.wrap (0 - ((0 : Nat) : Int)) = 0 := rfl
    rw [this, xor_z (by omega)]
  · have h1 : y % 2 = 1 := by omega
    rw [h1, if_neg (by omega)]
    have : IntKind.i64.wrap (0 - ((1 : Nat) : Int)) = -1 := rfl
    rw [this, xor_neg (by omega)]
def unfoldBase : BaseF := fun args => match args with
  | [.int .u64 n] => some (((Lit.int .u64 n).wf = true) ∧ (n < 1000000000000), .int .i64 (uz n.toNat))
  | _ => none
theorem unfold_eq (n : Int) : unfoldBase [.int .u64 n] = some (((Lit.int .u64 n).wf = true) ∧ (n < 1000000000000), .int .i64 (uz n.toNat)) := rfl
theorem unfold_base : Base Try.prog 70 unfoldBase := by
  intro args p v hq hp
  unfold unfoldBase at hq
  split at hq
  rotate_left
  · cases hq
  rename_i n
  cases hq
  obtain ⟨wf_n, pre⟩ := hp
  refine base_of (C := cx [] [] [] [] none) (cx_ok trivial trivial) rfl (g := 70) (fn := Try.f70)
    (args' := [.int .u64 n]) (fn_70) rfl 1000 (by simp only [BdL, Bd, and_self, and_true, true_and]) ⟨SameD.rfl' _, trivial⟩ ?_
  have hx0 : 0 ≤ n := by
    have := wf_n
    simp [Lit.wf, IntKind.min, IntKind.max, IntKind.signed, IntKind.bits] at this
    omega
  obtain ⟨y, rfl⟩ : ∃ y : Nat, n = y := ⟨n.toNat, by omega⟩
  simp only [Try.f70, go_sem, ↓reduceIte, Nat.reduceAdd, Nat.reduceSub, Nat.reduceMul, Nat.reduceEqDiff, Nat.reduceLT, Nat.reduceLeDiff, Int.reduceToNat, Int.reduceLE, Int.reduceLT, Int.reduceEq, Int.reduceNeg, reduceCtorEq]
  exact congrArg _ (unfoldN (by omega))
def lastBase : BaseF := fun args => match args with
  | [.rptr sz_1 c_1] => (match c_1 0, c_1 1 with | .row n sz_b f_b, .int .i64 r => some ((sz_1 = 2) ∧ (sz_b = 1 ∧ IntK .u8 n 1 f_b) ∧ (n ≤ 1000000 ∧ ∀ i, i < n → 0 ≤ (ivf f_b) i 0 ∧ (ivf f_b) i 0 < 256), .int .u8 (smB (fun i => ((ivf f_b) i 0).toNat) n : Int)) | _, _ => none)
  | _ => none
theorem last_eq (sz_1 : Nat) (c_1 : Nat → SV) : lastBase [.rptr sz_1 c_1] = (match c_1 0, c_1 1 with | .row n sz_b f_b, .int .i64 r => some ((sz_1 = 2) ∧ (sz_b = 1 ∧ IntK .u8 n 1 f_b) ∧ (n ≤ 1000000 ∧ ∀ i, i < n → 0 ≤ (ivf f_b) i 0 ∧ (ivf f_b) i 0 < 256), .int .u8 (smB (fun i => ((ivf f_b) i 0).toNat) n : Int)) | _, _ => none) := rfl
theorem last_base : Base Try.prog 64 lastBase := by
  intro args p v hq hp
  unfold lastBase at hq
  split at hq
  rotate_left
  · cases hq
  rename_i sz_1 c_1
  split at hq
  rotate_left
  · cases hq
  rename_i n sz_b f_b r h_1_0 h_1_1
  cases hq
  obtain ⟨rfl, ⟨rfl, i_b⟩, pre⟩ := hp
  refine base_of (C := cx [] [] [] [] none) (cx_ok trivial trivial) rfl (g := 64) (fn := Try.f64)
    (args' := [.rptr 2 (fun j => nth [.row n 1 (rowF .u8 (ivf f_b)), .int .i64 r] j)]) (fn_64) rfl 1000 (by
    simp only [BdL, Bd, and_self, and_true, true_and]
    exact (fun j hj => by
      have hj : j = 0 ∨ j = 1 := by omega
      rcases hj with rfl | rfl
      · rw [h_1_0]; simp only [BdL, Bd, and_self, and_true, true_and]; exact (fun i j hi hj => by rw [i_b i j hi hj]; trivial)
      · rw [h_1_1]; simp only [BdL, Bd, and_self, and_true, true_and])) ⟨SameD.rptr (fun j hj => by
      have hj : j = 0 ∨ j = 1 := by omega
      rcases hj with rfl | rfl
      · rw [h_1_0]; exact SameD.intK i_b
      · rw [h_1_1]; exact SameD.rfl' _), trivial⟩ ?_
  generalize ivf f_b = b at *
  simp only [rowF_eq]
  obtain ⟨pre, hb⟩ := pre
  simp only [Try.f64, go_sem, ↓reduceIte, Nat.reduceAdd, Nat.reduceSub, Nat.reduceMul, Nat.reduceEqDiff, Nat.reduceLT, Nat.reduceLeDiff, Int.reduceToNat, Int.reduceLE, Int.reduceLT, Int.reduceEq, Int.reduceNeg, reduceCtorEq]
  refine loop_ofH { i : Nat // i ≤ n } (fun i => [(11, .int .i64 (i.1 : Int)), (10, .int .i64 (n : Int)), (9, .row n 1 fun i j => .int .u8 (b i j)), (3, .int .u8 (smB (fun i => (b i 0).toNat) i.1 : Int))]) (fun h _ => h) (fun i => n - i.1) (fun _ => ⟨rfl, rfl⟩) ⟨0, by omega⟩ (by simp only [smB]; (apply sub_of <;> simp only [go_sem, ↓reduceIte, Nat.reduceAdd, Nat.reduceSub, Nat.reduceMul, Nat.reduceEqDiff, Nat.reduceLT, Nat.reduceLeDiff, Int.reduceToNat, Int.reduceLE, Int.reduceLT, Int.reduceEq, Int.reduceNeg, reduceCtorEq] <;> (try simp [catF]) <;> (try exact fun j _ => Bd_nth (by simp [BdL, Bd]) j) <;> (try exact bd_setL (by simp [bdAs, BdL, Bd])) <;> (try exact nestF_bd _ _ _ _ _ _ _ _ _))) ?_
  rintro ⟨i, hi⟩
  simp only at hi ⊢
  by_cases hin : i < n
  · have d1 : decide ((i : Int) < (n : Int)) = true := decide_eq_true (by omega)
    have w1 : IntKind.i64.wrap ((i : Int) + 1) = ((i + 1 : Nat) : Int) := by rw [wrap_id (by omega) (by omega)]; omega
    have hbi := hb i hin
    have w2 : IntKind.u8.wrap ((smB (fun i => (b i 0).toNat) i : Int) + b i 0) = (smB (fun i => (b i 0).toNat) (i + 1) : Int) := by
      simp only [smB, IntKind.wrap, IntKind.signed, IntKind.bits]
      simp
      omega
    simp only [d1, w1, w2, Int.toNat_natCast, Try.f64, go_sem, ↓reduceIte, Nat.reduceAdd, Nat.reduceSub, Nat.reduceMul, Nat.reduceEqDiff, Nat.reduceLT, Nat.reduceLeDiff, Int.reduceToNat, Int.reduceLE, Int.reduceLT, Int.reduceEq, Int.reduceNeg, reduceCtorEq]
    refine ⟨by omega, ⟨i + 1, by omega⟩, by simp only []; omega, ?_⟩
    apply sub_of <;> simp only [go_sem, ↓reduceIte, Nat.reduceAdd, Nat.reduceSub, Nat.reduceMul, Nat.reduceEqDiff, Nat.reduceLT, Nat.reduceLeDiff, Int.reduceToNat, Int.reduceLE, Int.reduceLT, Int.reduceEq, Int.reduceNeg, reduceCtorEq] <;> (try simp) <;> (try exact fun j _ => Bd_nth (by simp [BdL, Bd]) j) <;> (try exact bd_setL (by simp [bdAs, BdL, Bd])) <;> (try exact nestF_bd _ _ _ _ _ _ _ _ _)
  · have d1 : decide ((i : Int) < (n : Int)) = false := decide_eq_false (by omega)
    obtain rfl : n = i := by omega
    simp only [d1, Try.f64, go_sem, ↓reduceIte, Nat.reduceAdd, Nat.reduceSub, Nat.reduceMul, Nat.reduceEqDiff, Nat.reduceLT, Nat.reduceLeDiff, Int.reduceToNat, Int.reduceLE, Int.reduceLT, Int.reduceEq, Int.reduceNeg, reduceCtorEq]
end Go.Eng
end

/- alarm: Worst. -/
section
namespace Go.Eng
open Go Go.RowKit Go.Proofs
set_option maxRecDepth 100000
set_option maxHeartbeats 4000000
attribute [local irreducible] OwnT DefS
def lessBase : BaseF := fun args => match args with
  | [.int .i64 x, .int .i64 y] => some (True, .bool (decide (x < y)))
  | _ => none
theorem less_eq (x : Int) (y : Int) : lessBase [.int .i64 x, .int .i64 y] = some (True, .bool (decide (x < y))) := rfl
theorem less_base : Base Try.prog 155 lessBase := by
  intro args p v hq hp
  unfold lessBase at hq
  split at hq
  rotate_left
  · cases hq
  rename_i x y
  cases hq
  refine base_of (C := cx [] [] [] [] none) (cx_ok trivial trivial) rfl (g := 155) (fn := Try.f155)
    (args' := [.int .i64 x, .int .i64 y]) (fn_155) rfl 1000 (by simp only [BdL, Bd, and_self, and_true, true_and]) ⟨SameD.rfl' _, SameD.rfl' _, trivial⟩ ?_
  have d1 : decide (x = x) = true := decide_eq_true rfl
  have d2 : decide (y = y) = true := decide_eq_true rfl
  simp only [d1, d2, Try.f164, Try.f155, go_sem, ↓reduceIte, Nat.reduceAdd, Nat.reduceSub, Nat.reduceMul, Nat.reduceEqDiff, Nat.reduceLT, Nat.reduceLeDiff, Int.reduceToNat, Int.reduceLE, Int.reduceLT, Int.reduceEq, Int.reduceNeg, reduceCtorEq]
def arrV (v : Nat) (L : List Int) : Vc := .live v 3 1 L.length (fun i _ => .int .i64 (L.getD i 0))
theorem ins_run {L : List Int} (hL : L.length ≤ 1000) (v : Nat) :
    CallsS Try.prog 149 [.vec 0 v, .int .i64 0, .int .i64 (L.length : Int)] ⟨[], [arrV v L]⟩ (fun o h' => o = .ret (.tup []) ∧ h' = ⟨[], [arrV v (srt L)]⟩) := by
  refine calls_of_run (C := cx [] [] [(155, lessBase)] [(149, 4, p149_4), (149, 6, p149_6)] none) (cx_ok trivial ⟨less_base, trivial⟩) rfl (g := 149) (fn := Try.f149) (fn_149) rfl 1000 ?_
  simp only [Try.f149, arrV, go_sem, ↓reduceIte, Nat.reduceAdd, Nat.reduceSub, Nat.reduceMul, Nat.reduceEqDiff, Nat.reduceLT, Nat.reduceLeDiff, Int.reduceToNat, Int.reduceLE, Int.reduceLT, Int.reduceEq, Int.reduceNeg, reduceCtorEq]
  have w0 : IntKind.i64.wrap (0 + 1) = ((1 : Nat) : Int) := rfl
  have st1 : ∀ k, (srt (L.take 1) ++ L.drop 1).getD k 0 = L.getD k 0 := fun k => by
    cases L with
    | nil => rfl
    | cons x L => rfl
  rw [w0]
  refine loop_ofH { p : Nat // 1 ≤ p ∧ (p ≤ L.length ∨ p = 1) } (fun p => [(6, .int .i64 (p.1 : Int)), (2, .int .i64 (L.length : Int)), (1, .int .i64 0), (0, .vec 0 v)]) (fun _ p => ⟨[], [.live v 3 1 L.length (fun k _ => .int .i64 ((srt (L.take p.1) ++ L.drop p.1).getD k 0))]⟩) (fun p => L.length - p.1) (fun _ => ⟨rfl, rfl⟩) ⟨1, by omega, by omega⟩ (by
    simp only [st1]
    (apply sub_of <;> simp only [go_sem, ↓reduceIte, Nat.reduceAdd, Nat.reduceSub, Nat.reduceMul, Nat.reduceEqDiff, Nat.reduceLT, Nat.reduceLeDiff, Int.reduceToNat, Int.reduceLE, Int.reduceLT, Int.reduceEq, Int.reduceNeg, reduceCtorEq] <;> (try simp [catF]) <;> (try exact fun j _ => Bd_nth (by simp [BdL, Bd]) j) <;> (try exact bd_setL (by simp [bdAs, BdL, Bd])) <;> (try exact nestF_bd _ _ _ _ _ _ _ _ _))) ?_
  rintro ⟨i, hi1, hi⟩
  simp only at hi1 hi ⊢
  by_cases hil : i < L.length
  rotate_left
  · have d1 : decide ((i : Int) < (L.length : Int)) = false := decide_eq_false (by omega)
    have e1 : L.take i = L := List.take_of_length_le (by omega)
    have e2 : L.drop i = [] := List.drop_of_length_le (by omega)
    simp only [d1, e1, e2, List.append_nil, srt_len, Try.f149, go_sem, ↓reduceIte, Nat.reduceAdd, Nat.reduceSub, Nat.reduceMul, Nat.reduceEqDiff, Nat.reduceLT, Nat.reduceLeDiff, Int.reduceToNat, Int.reduceLE, Int.reduceLT, Int.reduceEq, Int.reduceNeg, reduceCtorEq]
  have d1 : decide ((i : Int) < (L.length : Int)) = true := decide_eq_true (by omega)
  have wi : IntKind.i64.wrap ((i : Int) + 1) = ((i + 1 : Nat) : Int) := by rw [wrap_id (by omega) (by omega)]; omega
  obtain ⟨P, hP⟩ : ∃ P, srt (L.take i) = P := ⟨_, rfl⟩
  have hPl : P.length = i := by rw [← hP, srt_len, List.length_take]; omega
  obtain ⟨x, hx⟩ : ∃ x, L.getD i 0 = x := ⟨_, rfl⟩
  have hd : L.drop i = x :: L.drop (i + 1) := by
    rw [← hx, List.drop_eq_getElem_cons hil]
    congr 1
    simp [List.getD_eq_getElem?_getD, hil]
  have ht : srt (L.take (i + 1)) = insR P x := by
    rw [← hP, ← srt_snoc, List.take_succ_eq_append_getElem hil, ← hx]
    simp [List.getD_eq_getElem?_getD, hil]
  obtain ⟨R, hR⟩ : ∃ R, L.drop (i + 1) = R := ⟨_, rfl⟩
  rw [hR] at hd
  have st2 : ∀ k, (P ++ x :: R).getD k 0 = cF P x R i k := fun k => by rw [cF_start, hPl]
  simp only [d1, hP, hd, st2, Try.f149, go_sem, ↓reduceIte, Nat.reduceAdd, Nat.reduceSub, Nat.reduceMul, Nat.reduceEqDiff, Nat.reduceLT, Nat.reduceLeDiff, Int.reduceToNat, Int.reduceLE, Int.reduceLT, Int.reduceEq, Int.reduceNeg, reduceCtorEq]
  refine loop_ofH { q : Nat // q ≤ i ∧ pos P x i = pos P x q } (fun q => [(7, .int .i64 (q.1 : Int)), (6, .int .i64 (i : Int)), (2, .int .i64 (L.length : Int)), (1, .int .i64 0), (0, .vec 0 v)]) (fun _ q => ⟨[], [.live v 3 1 L.length (fun k _ => .int .i64 (cF P x R q.1 k))]⟩) (fun q => q.1) (fun _ => ⟨rfl, rfl⟩) ⟨i, by omega, rfl⟩ (by (apply sub_of <;> simp only [go_sem, ↓reduceIte, Nat.reduceAdd, Nat.reduceSub, Nat.reduceMul, Nat.reduceEqDiff, Nat.reduceLT, Nat.reduceLeDiff, Int.reduceToNat, Int.reduceLE, Int.reduceLT, Int.reduceEq, Int.reduceNeg, reduceCtorEq] <;> (try simp [catF]) <;> (try exact fun j _ => Bd_nth (by simp [BdL, Bd]) j) <;> (try exact bd_setL (by simp [bdAs, BdL, Bd])) <;> (try exact nestF_bd _ _ _ _ _ _ _ _ _))) ?_
  rintro ⟨j, hj, hpos⟩
  simp only at hj hpos ⊢
  have done : pos P x j = j → ∀ k, (insR P x ++ R).getD k 0 = cF P x R j k := fun h k => by rw [cF_ins, hPl, hpos, h]
  cases j with
  | zero =>
    have e1 : decide (0 < ((0 : Nat) : Int)) = false := rfl
    simp only [e1, wi, p149_4, p149_6, Try.f149, go_sem, ↓reduceIte, Nat.reduceAdd, Nat.reduceSub, Nat.reduceMul, Nat.reduceEqDiff, Nat.reduceLT, Nat.reduceLeDiff, Int.reduceToNat, Int.reduceLE, Int.reduceLT, Int.reduceEq, Int.reduceNeg, reduceCtorEq]
    refine ⟨⟨by kernel_rfl, by kernel_rfl⟩, ⟨i + 1, by omega, by omega⟩, by simp only []; omega, ?_⟩
    simp only [ht, hR, done rfl]
    apply sub_of <;> simp only [go_sem, ↓reduceIte, Nat.reduceAdd, Nat.reduceSub, Nat.reduceMul, Nat.reduceEqDiff, Nat.reduceLT, Nat.reduceLeDiff, Int.reduceToNat, Int.reduceLE, Int.reduceLT, Int.reduceEq, Int.reduceNeg, reduceCtorEq] <;> (try simp) <;> (try exact fun j _ => Bd_nth (by simp [BdL, Bd]) j) <;> (try exact bd_setL (by simp [bdAs, BdL, Bd])) <;> (try exact nestF_bd _ _ _ _ _ _ _ _ _)
  | succ j =>
  have e1 : decide (0 < ((j + 1 : Nat) : Int)) = true := decide_eq_true (by omega)
  have wj : IntKind.i64.wrap (((j + 1 : Nat) : Int) - 1) = (j : Int) := by rw [wrap_id (by omega) (by omega)]; omega
  cases e2 : decide (x < P.getD j 0) with
  | false =>
    simp only [e1, wj, cF_at, cF_pre, e2, wi, less_eq, Int.toNat_natCast, p149_4, p149_6, Try.f149, go_sem, ↓reduceIte, Nat.reduceAdd, Nat.reduceSub, Nat.reduceMul, Nat.reduceEqDiff, Nat.reduceLT, Nat.reduceLeDiff, Int.reduceToNat, Int.reduceLE, Int.reduceLT, Int.reduceEq, Int.reduceNeg, reduceCtorEq]
    refine ⟨⟨by kernel_rfl, by kernel_rfl⟩, ⟨by omega, by omega⟩, by omega, ⟨by omega, by omega⟩, by omega, ⟨i + 1, by omega, by omega⟩, by simp only []; omega, ?_⟩
    have hj1 : pos P x (j + 1) = j + 1 := by
      rw [pos, if_neg]
      simpa using e2
    simp only [ht, hR, done hj1]
    apply sub_of <;> simp only [go_sem, ↓reduceIte, Nat.reduceAdd, Nat.reduceSub, Nat.reduceMul, Nat.reduceEqDiff, Nat.reduceLT, Nat.reduceLeDiff, Int.reduceToNat, Int.reduceLE, Int.reduceLT, Int.reduceEq, Int.reduceNeg, reduceCtorEq] <;> (try simp) <;> (try exact fun j _ => Bd_nth (by simp [BdL, Bd]) j) <;> (try exact bd_setL (by simp [bdAs, BdL, Bd])) <;> (try exact nestF_bd _ _ _ _ _ _ _ _ _)
  | true =>
    simp only [e1, wj, cF_at, cF_pre, e2, less_eq, Int.toNat_natCast, p149_4, p149_6, Try.f149, go_sem, ↓reduceIte, Nat.reduceAdd, Nat.reduceSub, Nat.reduceMul, Nat.reduceEqDiff, Nat.reduceLT, Nat.reduceLeDiff, Int.reduceToNat, Int.reduceLE, Int.reduceLT, Int.reduceEq, Int.reduceNeg, reduceCtorEq]
    have b1 : (0 ≤ (j : Int) ∧ (j : Int) < (L.length : Int)) ∧ (0 ≤ ((j + 1 : Nat) : Int) ∧ ((j + 1 : Nat) : Int) < (L.length : Int)) ∧ j < L.length ∧ j + 1 < L.length := by omega
    obtain ⟨b1, b2, b3, b4⟩ := b1
    refine ⟨⟨by kernel_rfl, by kernel_rfl⟩, b2, b4, b1, b3, ⟨by kernel_rfl, by kernel_rfl⟩, b1, b3, b2, b4, b2, b4, b1, b3, ⟨j, by omega, ?_⟩, by simp only []; omega, ?_⟩
    · rw [hpos, pos, if_pos (by simpa using e2)]
    apply sub_of <;> simp only [go_sem, ↓reduceIte, Nat.reduceAdd, Nat.reduceSub, Nat.reduceMul, Nat.reduceEqDiff, Nat.reduceLT, Nat.reduceLeDiff, Int.reduceToNat, Int.reduceLE, Int.reduceLT, Int.reduceEq, Int.reduceNeg, reduceCtorEq] <;> (try simp) <;> (try exact fun j _ => Bd_nth (by simp [BdL, Bd]) j) <;> (try exact bd_setL (by simp [bdAs, BdL, Bd])) <;> (try exact nestF_bd _ _ _ _ _ _ _ _ _)
    intro k hk
    have hsw := cF_swap P x R (j := j) (by omega) k
    rw [List.getD_eq_getElem?_getD] at hsw
    rw [← hsw]
    split
    · rfl
    · split <;> rfl
theorem ins_at {L : List Int} (hL : L.length ≤ 1000) (v : Nat) (h : HS) (k : Nat) (hV : getV h.vecs k = arrV v L) :
    CallsS Try.prog 149 [.vec k v, .int .i64 0, .int .i64 (L.length : Int)] h (fun o h' => o = .ret (.tup []) ∧ h' = ⟨h.blks, setV h.vecs k (arrV v (srt L))⟩) := by
  have := calls_ren (h := h) [] [k] (ins_run hL v) (by simp) (by simp) (by simp [BdL, Bd]) (by simp [bdB]) (by simp [bdV, arrV, Bd])
    trivial ⟨by simp only [arrV, go_sem, ↓reduceIte, Nat.reduceAdd, Nat.reduceSub, Nat.reduceMul, Nat.reduceEqDiff, Nat.reduceLT, Nat.reduceLeDiff, Int.reduceToNat, Int.reduceLE, Int.reduceLT, Int.reduceEq, Int.reduceNeg, reduceCtorEq]; exact hV, trivial⟩ (by intro k' hk'; simp at hk') (by intro k' hk'; simp at hk'; subst hk'; exact getV_lt hV)
    (by rintro o h' ⟨rfl, rfl⟩; simp [bdO, bdB, bdV, BdL, Bd, lenB, lenV, arrV])
  simp only [go_sem, ↓reduceIte, Nat.reduceAdd, Nat.reduceSub, Nat.reduceMul, Nat.reduceEqDiff, Nat.reduceLT, Nat.reduceLeDiff, Int.reduceToNat, Int.reduceLE, Int.reduceLT, Int.reduceEq, Int.reduceNeg, reduceCtorEq] at this
  refine calls_mono ?_ this
  rintro o h' ⟨o0, h0', ⟨rfl, rfl⟩, rfl, rfl⟩
  exact ⟨by simp only [go_sem, ↓reduceIte, Nat.reduceAdd, Nat.reduceSub, Nat.reduceMul, Nat.reduceEqDiff, Nat.reduceLT, Nat.reduceLeDiff, Int.reduceToNat, Int.reduceLE, Int.reduceLT, Int.reduceEq, Int.reduceNeg, reduceCtorEq], by simp only [arrV, go_sem, ↓reduceIte, Nat.reduceAdd, Nat.reduceSub, Nat.reduceMul, Nat.reduceEqDiff, Nat.reduceLT, Nat.reduceLeDiff, Int.reduceToNat, Int.reduceLE, Int.reduceLT, Int.reduceEq, Int.reduceNeg, reduceCtorEq]⟩
def surelyBase : BaseF := fun args => match args with
  | [.agg [.row n sz_s f_s, .int .i64 vo, .int .i64 fa], .int .i64 th, .int .i64 ri, .int .i64 mi] => some ((sz_s = 3 ∧ IntR n 3 f_s) ∧ (voB n (ivf f_s) vo fa = true ∧ (0 ≤ th ∧ th ≤ 1048576) ∧ (0 ≤ ri ∧ ri ≤ 1048576) ∧ 0 ≤ mi ∧ mi ≤ 2000), .int .i64 (suV n (ivf f_s) vo fa th ri mi))
  | _ => none
theorem surely_eq (n : Nat) (sz_s : Nat) (f_s : Nat → Nat → SV) (vo : Int) (fa : Int) (th : Int) (ri : Int) (mi : Int) : surelyBase [.agg [.row n sz_s f_s, .int .i64 vo, .int .i64 fa], .int .i64 th, .int .i64 ri, .int .i64 mi] = some ((sz_s = 3 ∧ IntR n 3 f_s) ∧ (voB n (ivf f_s) vo fa = true ∧ (0 ≤ th ∧ th ≤ 1048576) ∧ (0 ≤ ri ∧ ri ≤ 1048576) ∧ 0 ≤ mi ∧ mi ≤ 2000), .int .i64 (suV n (ivf f_s) vo fa th ri mi)) := rfl
theorem surely_base : Base Try.prog 116 surelyBase := by
  intro args p v hq hp
  unfold surelyBase at hq
  split at hq
  rotate_left
  · cases hq
  rename_i n sz_s f_s vo fa th ri mi
  cases hq
  obtain ⟨⟨rfl, i_s⟩, pre⟩ := hp
  refine base_of (C := cx [149] [] [(112, len64Base)] [(138, 5, p138_5)] none) (cx_ok trivial ⟨len64_base, trivial⟩) rfl (g := 116) (fn := Try.f116)
    (args' := [.agg [.row n 3 (rowF .i64 (ivf f_s)), .int .i64 vo, .int .i64 fa], .int .i64 th, .int .i64 ri, .int .i64 mi]) (fn_116) rfl 1000 (by
    simp only [BdL, Bd, and_self, and_true, true_and]
    exact (fun i j hi hj => by rw [i_s i j hi hj]; trivial)) ⟨SameD.agg ⟨SameD.int i_s, SameD.rfl' _, SameD.rfl' _, trivial⟩, SameD.rfl' _, SameD.rfl' _, SameD.rfl' _, trivial⟩ ?_
  generalize ivf f_s = s at *
  simp only [rowF_eq]
  obtain ⟨hvo, hth, hri, hmi⟩ := pre
  obtain ⟨n1, n12, v1, vn, f0, fn, ok⟩ := voB_ok hvo
  have w1 : IntKind.i64.wrap (vo + fa) = vo + fa := wrap_id (by omega) (by omega)
  cases c1 : decide (vo + fa ≤ (n : Int)) with
  | false =>
    have hs : suV n s vo fa th ri mi = 1048577 := by rw [suV, c1]; rfl
    simp only [c1, w1, hs, len64_eq, p138_5, Try.f138, Try.f139, Try.f145, Try.f147, Try.f148, Try.f116, go_sem, ↓reduceIte, Nat.reduceAdd, Nat.reduceSub, Nat.reduceMul, Nat.reduceEqDiff, Nat.reduceLT, Nat.reduceLeDiff, Int.reduceToNat, Int.reduceLE, Int.reduceLT, Int.reduceEq, Int.reduceNeg, reduceCtorEq]
  | true =>
    have hs : suV n s vo fa th ri mi = min 1048577 ((srt (ofL th ri mi s n)).getD (vo + fa - 1).toNat 0) := by rw [suV, c1]; rfl
    simp only [c1, w1, hs, len64_eq, p138_5, Try.f138, Try.f139, Try.f145, Try.f147, Try.f148, Try.f116, go_sem, ↓reduceIte, Nat.reduceAdd, Nat.reduceSub, Nat.reduceMul, Nat.reduceEqDiff, Nat.reduceLT, Nat.reduceLeDiff, Int.reduceToNat, Int.reduceLE, Int.reduceLT, Int.reduceEq, Int.reduceNeg, reduceCtorEq]
    refine ⟨by omega, ?_⟩
    refine loop_ofH { p : Nat × Nat // p.1 ≤ n } (fun p => [(13, .int .i64 (p.1.1 : Int)), (12, .int .i64 (n : Int)), (11, .row n 3 fun i j => .int .i64 (s i j)), (5, .vec 1 p.1.2), (1, .func 138 [.ptr 3 0, .ptr 1 0, .ptr 2 0])]) (fun _ p => ⟨[.live 82 [.row n 3 fun i j => .int .i64 (s i j), .int .i64 vo, .int .i64 fa], .live 3 [.int .i64 th], .live 3 [.int .i64 ri], .live 3 [.int .i64 mi]], [.dead, .live p.1.2 3 1 p.1.1 (fun k _ => .int .i64 ((ofL th ri mi s p.1.1).getD k 0))]⟩) (fun p => n - p.1.1) (fun _ => ⟨rfl, rfl⟩) ⟨(0, 0), by omega⟩ (by (apply sub_of <;> simp only [go_sem, ↓reduceIte, Nat.reduceAdd, Nat.reduceSub, Nat.reduceMul, Nat.reduceEqDiff, Nat.reduceLT, Nat.reduceLeDiff, Int.reduceToNat, Int.reduceLE, Int.reduceLT, Int.reduceEq, Int.reduceNeg, reduceCtorEq] <;> (try simp [catF]) <;> (try exact fun j _ => Bd_nth (by simp [BdL, Bd]) j) <;> (try exact bd_setL (by simp [bdAs, BdL, Bd])) <;> (try exact nestF_bd _ _ _ _ _ _ _ _ _))) ?_
    rintro ⟨⟨i, v⟩, hi⟩
    simp only at hi ⊢
    have wi : IntKind.i64.wrap ((i : Int) + 1) = ((i + 1 : Nat) : Int) := by rw [wrap_id (by omega) (by omega)]; omega
    by_cases hin : i < n
    rotate_left
    · have d1 : decide ((i : Int) < (n : Int)) = false := decide_eq_false (by omega)
      obtain rfl : i = n := by omega
      have d2 : decide ((i : Int) ≤ 12) = true := decide_eq_true (by omega)
      have w2 : IntKind.u64.wrap (i : Int) = (i : Int) := wrap_u64 (by omega) (by omega)
      have w3 : IntKind.i64.wrap ((i : Int) - 0) = (i : Int) := by rw [wrap_id (by omega) (by omega)]; omega
      simp only [d1, d2, w2, w3, len64_eq, p138_5, Try.f138, Try.f139, Try.f145, Try.f147, Try.f148, Try.f116, go_sem, ↓reduceIte, Nat.reduceAdd, Nat.reduceSub, Nat.reduceMul, Nat.reduceEqDiff, Nat.reduceLT, Nat.reduceLeDiff, Int.reduceToNat, Int.reduceLE, Int.reduceLT, Int.reduceEq, Int.reduceNeg, reduceCtorEq]
      have wf : (Lit.int IntKind.u64 (i : Int)).wf = true := by
        simp [Lit.wf, IntKind.min, IntKind.max, IntKind.signed, IntKind.bits]
        omega
      refine ⟨⟨wf, by omega⟩, ?_⟩
      refine loop_ofH Unit (fun _ => [(9, .bool true), (8, .bool true), (3, .int .i64 (bl i : Int)), (2, .int .i64 (i : Int)), (1, .int .i64 0), (0, .vec 1 v)]) (fun h _ => h) (fun _ => 0) (fun _ => ⟨rfl, rfl⟩) () (by (apply sub_of <;> simp only [go_sem, ↓reduceIte, Nat.reduceAdd, Nat.reduceSub, Nat.reduceMul, Nat.reduceEqDiff, Nat.reduceLT, Nat.reduceLeDiff, Int.reduceToNat, Int.reduceLE, Int.reduceLT, Int.reduceEq, Int.reduceNeg, reduceCtorEq] <;> (try simp [catF]) <;> (try exact fun j _ => Bd_nth (by simp [BdL, Bd]) j) <;> (try exact bd_setL (by simp [bdAs, BdL, Bd])) <;> (try exact nestF_bd _ _ _ _ _ _ _ _ _))) ?_
      rintro ⟨⟩
      simp only [d1, d2, w2, w3, len64_eq, p138_5, Try.f138, Try.f139, Try.f145, Try.f147, Try.f148, Try.f116, go_sem, ↓reduceIte, Nat.reduceAdd, Nat.reduceSub, Nat.reduceMul, Nat.reduceEqDiff, Nat.reduceLT, Nat.reduceLeDiff, Int.reduceToNat, Int.reduceLE, Int.reduceLT, Int.reduceEq, Int.reduceNeg, reduceCtorEq]
      unfold callS
      have hl := ofL_len th ri mi s i
      have hc := ins_at (L := ofL th ri mi s i) (by omega) v ⟨[.live 82 [.row i 3 fun i j => .int .i64 (s i j), .int .i64 vo, .int .i64 fa], .live 3 [.int .i64 th], .live 3 [.int .i64 ri], .live 3 [.int .i64 mi]], [.dead, .live v 3 1 i fun k _ => .int .i64 ((ofL th ri mi s i).getD k 0)]⟩ 1 (by simp only [arrV, hl, go_sem, ↓reduceIte, Nat.reduceAdd, Nat.reduceSub, Nat.reduceMul, Nat.reduceEqDiff, Nat.reduceLT, Nat.reduceLeDiff, Int.reduceToNat, Int.reduceLE, Int.reduceLT, Int.reduceEq, Int.reduceNeg, reduceCtorEq])
      rw [hl] at hc
      refine calls_mono ?_ hc
      rintro o h' ⟨rfl, rfl⟩
      have w4 : IntKind.i64.wrap (vo + fa - 1) = vo + fa - 1 := wrap_id (by omega) (by omega)
      simp only [w1, w4, arrV, srt_len, hl, len64_eq, p138_5, Try.f138, Try.f139, Try.f145, Try.f147, Try.f148, Try.f116, go_sem, ↓reduceIte, Nat.reduceAdd, Nat.reduceSub, Nat.reduceMul, Nat.reduceEqDiff, Nat.reduceLT, Nat.reduceLeDiff, Int.reduceToNat, Int.reduceLE, Int.reduceLT, Int.reduceEq, Int.reduceNeg, reduceCtorEq]
      simp only [decide_eq_true_eq] at c1
      refine ⟨⟨by omega, by omega⟩, by omega⟩
    have d1 : decide ((i : Int) < (n : Int)) = true := decide_eq_true (by omega)
    obtain ⟨ob, o1, o2⟩ := ofV_bd (mi := mi) hth hri (ok i hin)
    have hok := ok i hin
    have stp : ∀ X, ofV th ri mi (s i) = X → ∀ k, k < i + 1 → catF i (fun k _ => SV.int .i64 ((ofL th ri mi s i).getD k 0)) (oneF [.int .i64 X]) k 0 = .int .i64 ((ofL th ri mi s (i + 1)).getD k 0) := fun X hX k hk => by
      simp only [catF]
      by_cases h : k < i
      · rw [if_pos h, ofL_get h, ofL_get (by omega)]
      · rw [if_neg h]
        obtain rfl : k = i := by omega
        rw [ofL_get (by omega), hX, Nat.sub_self]; rfl
    cases c2 : decide (mi < s i 0) with
    | true =>
      have hX : ofV th ri mi (s i) = 1048577 := by rw [ofV, if_pos (by simpa using c2)]
      simp only [d1, c2, Int.toNat_natCast, len64_eq, p138_5, Try.f138, Try.f139, Try.f145, Try.f147, Try.f148, Try.f116, go_sem, ↓reduceIte, Nat.reduceAdd, Nat.reduceSub, Nat.reduceMul, Nat.reduceEqDiff, Nat.reduceLT, Nat.reduceLeDiff, Int.reduceToNat, Int.reduceLE, Int.reduceLT, Int.reduceEq, Int.reduceNeg, reduceCtorEq]
      refine ⟨⟨by omega, by omega⟩, ⟨by omega, by omega⟩, ⟨(i + 1, v + 1), by omega⟩, by simp only []; omega, ?_⟩
      apply sub_of <;> simp only [wi, go_sem, ↓reduceIte, Nat.reduceAdd, Nat.reduceSub, Nat.reduceMul, Nat.reduceEqDiff, Nat.reduceLT, Nat.reduceLeDiff, Int.reduceToNat, Int.reduceLE, Int.reduceLT, Int.reduceEq, Int.reduceNeg, reduceCtorEq]
      all_goals first | exact fun _ _ _ _ => trivial | (intro k j hk hj; obtain rfl : j = 0 := (by omega); exact stp _ hX k hk)
    | false =>
      simp only [decide_eq_false_iff_not] at c2
      cases c3 : decide (th = 0) && decide (s i 2 = 0) with
      | true =>
        have hX : ofV th ri mi (s i) = 0 := by rw [ofV, if_neg c2, c3]; rfl
        rw [Bool.and_eq_true] at c3
        obtain ⟨c3, c4⟩ := c3
        simp only [d1, decide_eq_false c2, c3, c4, Int.toNat_natCast, len64_eq, p138_5, Try.f138, Try.f139, Try.f145, Try.f147, Try.f148, Try.f116, go_sem, ↓reduceIte, Nat.reduceAdd, Nat.reduceSub, Nat.reduceMul, Nat.reduceEqDiff, Nat.reduceLT, Nat.reduceLeDiff, Int.reduceToNat, Int.reduceLE, Int.reduceLT, Int.reduceEq, Int.reduceNeg, reduceCtorEq]
        refine ⟨⟨by omega, by omega⟩, ⟨by omega, by omega⟩, ⟨(i + 1, v + 1), by omega⟩, by simp only []; omega, ?_⟩
        apply sub_of <;> simp only [wi, go_sem, ↓reduceIte, Nat.reduceAdd, Nat.reduceSub, Nat.reduceMul, Nat.reduceEqDiff, Nat.reduceLT, Nat.reduceLeDiff, Int.reduceToNat, Int.reduceLE, Int.reduceLT, Int.reduceEq, Int.reduceNeg, reduceCtorEq]
        all_goals first | exact fun _ _ _ _ => trivial | (intro k j hk hj; obtain rfl : j = 0 := (by omega); exact stp _ hX k hk)
      | false =>
        have hX : ofV th ri mi (s i) = th + s i 2 + ri * (mi - s i 0).tmod (s i 1) := by rw [ofV, if_neg c2, c3]; rfl
        have hb := ob (by omega)
        have w2 : IntKind.i64.wrap (th + s i 2) = th + s i 2 := wrap_id (by omega) (by omega)
        have w3 : IntKind.i64.wrap (mi - s i 0) = mi - s i 0 := wrap_id (by omega) (by omega)
        have w4 : IntKind.i64.wrap (ri * (mi - s i 0).tmod (s i 1)) = ri * (mi - s i 0).tmod (s i 1) := wrap_id (by omega) (by omega)
        have w5 : IntKind.i64.wrap (th + s i 2 + ri * (mi - s i 0).tmod (s i 1)) = th + s i 2 + ri * (mi - s i 0).tmod (s i 1) := wrap_id (by omega) (by omega)
        cases c4 : decide (th = 0) with
        | false =>
          simp only [d1, decide_eq_false c2, c4, w2, w3, w4, w5, Int.toNat_natCast, len64_eq, p138_5, Try.f138, Try.f139, Try.f145, Try.f147, Try.f148, Try.f116, go_sem, ↓reduceIte, Nat.reduceAdd, Nat.reduceSub, Nat.reduceMul, Nat.reduceEqDiff, Nat.reduceLT, Nat.reduceLeDiff, Int.reduceToNat, Int.reduceLE, Int.reduceLT, Int.reduceEq, Int.reduceNeg, reduceCtorEq]
          refine ⟨⟨by omega, by omega⟩, ⟨by kernel_rfl, by kernel_rfl⟩, by omega, ⟨by omega, by omega⟩, ⟨(i + 1, v + 1), by omega⟩, by simp only []; omega, ?_⟩
          apply sub_of <;> simp only [wi, go_sem, ↓reduceIte, Nat.reduceAdd, Nat.reduceSub, Nat.reduceMul, Nat.reduceEqDiff, Nat.reduceLT, Nat.reduceLeDiff, Int.reduceToNat, Int.reduceLE, Int.reduceLT, Int.reduceEq, Int.reduceNeg, reduceCtorEq]
          all_goals first | exact fun _ _ _ _ => trivial | (intro k j hk hj; obtain rfl : j = 0 := (by omega); exact stp _ hX k hk)
        | true =>
          rw [c4, Bool.true_and] at c3
          simp only [d1, decide_eq_false c2, c3, c4, w2, w3, w4, w5, Int.toNat_natCast, len64_eq, p138_5, Try.f138, Try.f139, Try.f145, Try.f147, Try.f148, Try.f116, go_sem, ↓reduceIte, Nat.reduceAdd, Nat.reduceSub, Nat.reduceMul, Nat.reduceEqDiff, Nat.reduceLT, Nat.reduceLeDiff, Int.reduceToNat, Int.reduceLE, Int.reduceLT, Int.reduceEq, Int.reduceNeg, reduceCtorEq]
          refine ⟨⟨by omega, by omega⟩, ⟨by kernel_rfl, by kernel_rfl⟩, by omega, ⟨by omega, by omega⟩, ⟨(i + 1, v + 1), by omega⟩, by simp only []; omega, ?_⟩
          apply sub_of <;> simp only [wi, go_sem, ↓reduceIte, Nat.reduceAdd, Nat.reduceSub, Nat.reduceMul, Nat.reduceEqDiff, Nat.reduceLT, Nat.reduceLeDiff, Int.reduceToNat, Int.reduceLE, Int.reduceLT, Int.reduceEq, Int.reduceNeg, reduceCtorEq]
          all_goals first | exact fun _ _ _ _ => trivial | (intro k j hk hj; obtain rfl : j = 0 := (by omega); exact stp _ hX k hk)
end Go.Eng
end

/- alarm: Worst. -/
section
namespace Go.Eng
open Go Go.RowKit Go.Proofs
set_option maxRecDepth 100000
set_option maxHeartbeats 4000000
attribute [local irreducible] OwnT DefS
def worstBase : BaseF := fun args => match args with
  | [.agg [.row n sz_s f_s, .int .i64 vo, .int .i64 fa], .int .i64 th, .int .i64 ri, .int .i64 fr, .int .i64 to] => some ((sz_s = 3 ∧ IntR n 3 f_s) ∧ (voB n (ivf f_s) vo fa = true ∧ (0 ≤ th ∧ th ≤ 1048576) ∧ (0 ≤ ri ∧ ri ≤ 1048576) ∧ (0 ≤ to ∧ to ≤ 2000) ∧ 0 ≤ fr ∧ fr ≤ to), .tup [.int .i64 (wrB n (ivf f_s) vo fa th ri fr to).1, .int .i64 (wrB n (ivf f_s) vo fa th ri fr to).2])
  | _ => none
theorem worst_eq (n : Nat) (sz_s : Nat) (f_s : Nat → Nat → SV) (vo : Int) (fa : Int) (th : Int) (ri : Int) (fr : Int) (to : Int) : worstBase [.agg [.row n sz_s f_s, .int .i64 vo, .int .i64 fa], .int .i64 th, .int .i64 ri, .int .i64 fr, .int .i64 to] = some ((sz_s = 3 ∧ IntR n 3 f_s) ∧ (voB n (ivf f_s) vo fa = true ∧ (0 ≤ th ∧ th ≤ 1048576) ∧ (0 ≤ ri ∧ ri ≤ 1048576) ∧ (0 ≤ to ∧ to ≤ 2000) ∧ 0 ≤ fr ∧ fr ≤ to), .tup [.int .i64 (wrB n (ivf f_s) vo fa th ri fr to).1, .int .i64 (wrB n (ivf f_s) vo fa th ri fr to).2]) := rfl
theorem worst_base : Base Try.prog 80 worstBase := by
  intro args p v hq hp
  unfold worstBase at hq
  split at hq
  rotate_left
  · cases hq
  rename_i n sz_s f_s vo fa th ri fr to
  cases hq
  obtain ⟨⟨rfl, i_s⟩, pre⟩ := hp
  refine base_of (C := cx [] [] [(116, surelyBase)] [] none) (cx_ok trivial ⟨surely_base, trivial⟩) rfl (g := 80) (fn := Try.f80)
    (args' := [.agg [.row n 3 (rowF .i64 (ivf f_s)), .int .i64 vo, .int .i64 fa], .int .i64 th, .int .i64 ri, .int .i64 fr, .int .i64 to]) (fn_80) rfl 1000 (by
    simp only [BdL, Bd, and_self, and_true, true_and]
    exact (fun i j hi hj => by rw [i_s i j hi hj]; trivial)) ⟨SameD.agg ⟨SameD.int i_s, SameD.rfl' _, SameD.rfl' _, trivial⟩, SameD.rfl' _, SameD.rfl' _, SameD.rfl' _, SameD.rfl' _, trivial⟩ ?_
  generalize ivf f_s = s at *
  simp only [rowF_eq]
  obtain ⟨hvo, hth, hri, hto, hfr⟩ := pre
  simp only [surely_eq, Try.f80, go_sem, ↓reduceIte, Nat.reduceAdd, Nat.reduceSub, Nat.reduceMul, Nat.reduceEqDiff, Nat.reduceLT, Nat.reduceLeDiff, Int.reduceToNat, Int.reduceLE, Int.reduceLT, Int.reduceEq, Int.reduceNeg, reduceCtorEq]
  obtain ⟨N, hN⟩ : ∃ N : Nat, (to - fr + 1).toNat = N := ⟨_, rfl⟩
  have hW : wrB n s vo fa th ri fr to = woS (fun mi => suV n s vo fa th ri mi) fr N := by rw [wrB, hN]
  refine loop_ofH { k : Nat // k ≤ N } (fun k => [(12, .int .i64 (fr + (k.1 : Int))), (11, .int .i64 (woS (fun mi => suV n s vo fa th ri mi) fr k.1).2), (10, .int .i64 (woS (fun mi => suV n s vo fa th ri mi) fr k.1).1), (5, .ptr 0 0), (4, .int .i64 to), (2, .int .i64 ri), (1, .int .i64 th)]) (fun h _ => h) (fun k => N - k.1) (fun _ => ⟨rfl, rfl⟩) ⟨0, by omega⟩ (by
    simp only [woS]
    (apply sub_of <;> simp only [go_sem, ↓reduceIte, Nat.reduceAdd, Nat.reduceSub, Nat.reduceMul, Nat.reduceEqDiff, Nat.reduceLT, Nat.reduceLeDiff, Int.reduceToNat, Int.reduceLE, Int.reduceLT, Int.reduceEq, Int.reduceNeg, reduceCtorEq] <;> (try simp [catF]) <;> (try exact fun j _ => Bd_nth (by simp [BdL, Bd]) j) <;> (try exact bd_setL (by simp [bdAs, BdL, Bd])) <;> (try exact nestF_bd _ _ _ _ _ _ _ _ _))) ?_
  rintro ⟨k, hk⟩
  simp only at hk ⊢
  by_cases hkN : k < N
  rotate_left
  · have d1 : decide (fr + (k : Int) ≤ to) = false := decide_eq_false (by omega)
    obtain rfl : k = N := by omega
    simp only [d1, hW, surely_eq, Try.f80, go_sem, ↓reduceIte, Nat.reduceAdd, Nat.reduceSub, Nat.reduceMul, Nat.reduceEqDiff, Nat.reduceLT, Nat.reduceLeDiff, Int.reduceToNat, Int.reduceLE, Int.reduceLT, Int.reduceEq, Int.reduceNeg, reduceCtorEq]
  have d1 : decide (fr + (k : Int) ≤ to) = true := decide_eq_true (by omega)
  have w1 : IntKind.i64.wrap (fr + (k : Int) + 1) = fr + ((k + 1 : Nat) : Int) := by rw [wrap_id (by omega) (by omega)]; omega
  cases c1 : decide ((woS (fun mi => suV n s vo fa th ri mi) fr k).1 < suV n s vo fa th ri (fr + k)) with
  | true =>
    have hs : woS (fun mi => suV n s vo fa th ri mi) fr (k + 1) = (suV n s vo fa th ri (fr + k), fr + k) := by rw [woS, if_pos c1]
    simp only [d1, c1, w1, surely_eq, Try.f80, go_sem, ↓reduceIte, Nat.reduceAdd, Nat.reduceSub, Nat.reduceMul, Nat.reduceEqDiff, Nat.reduceLT, Nat.reduceLeDiff, Int.reduceToNat, Int.reduceLE, Int.reduceLT, Int.reduceEq, Int.reduceNeg, reduceCtorEq]
    refine ⟨⟨hvo, hth, hri, by omega, by omega⟩, ⟨k + 1, by omega⟩, by simp only []; omega, ?_⟩
    apply sub_of <;> simp only [hs, go_sem, ↓reduceIte, Nat.reduceAdd, Nat.reduceSub, Nat.reduceMul, Nat.reduceEqDiff, Nat.reduceLT, Nat.reduceLeDiff, Int.reduceToNat, Int.reduceLE, Int.reduceLT, Int.reduceEq, Int.reduceNeg, reduceCtorEq] <;> (try simp) <;> (try exact fun j _ => Bd_nth (by simp [BdL, Bd]) j) <;> (try exact bd_setL (by simp [bdAs, BdL, Bd])) <;> (try exact nestF_bd _ _ _ _ _ _ _ _ _)
  | false =>
    have hs : woS (fun mi => suV n s vo fa th ri mi) fr (k + 1) = woS (fun mi => suV n s vo fa th ri mi) fr k := by rw [woS, if_neg (by rw [c1]; decide)]
    simp only [d1, c1, w1, surely_eq, Try.f80, go_sem, ↓reduceIte, Nat.reduceAdd, Nat.reduceSub, Nat.reduceMul, Nat.reduceEqDiff, Nat.reduceLT, Nat.reduceLeDiff, Int.reduceToNat, Int.reduceLE, Int.reduceLT, Int.reduceEq, Int.reduceNeg, reduceCtorEq]
    refine ⟨⟨hvo, hth, hri, by omega, by omega⟩, ⟨k + 1, by omega⟩, by simp only []; omega, ?_⟩
    apply sub_of <;> simp only [hs, go_sem, ↓reduceIte, Nat.reduceAdd, Nat.reduceSub, Nat.reduceMul, Nat.reduceEqDiff, Nat.reduceLT, Nat.reduceLeDiff, Int.reduceToNat, Int.reduceLE, Int.reduceLT, Int.reduceEq, Int.reduceNeg, reduceCtorEq] <;> (try simp) <;> (try exact fun j _ => Bd_nth (by simp [BdL, Bd]) j) <;> (try exact bd_setL (by simp [bdAs, BdL, Bd])) <;> (try exact nestF_bd _ _ _ _ _ _ _ _ _)
theorem woS_lo {f : Int → Int} {fr : Int} (h : ∀ x, f x ≤ 1048577) : ∀ k, -1 ≤ (woS f fr k).1 ∧ (woS f fr k).1 ≤ 1048577
  | 0 => by simp [woS]
  | k + 1 => by
    have ih := woS_lo (fr := fr) h k
    have := h (fr + k)
    rw [woS]
    split
    · rename_i h1
      simp only [decide_eq_true_eq] at h1
      simp only []; omega
    · exact ih
theorem suV_le (n : Nat) (s : Nat → Nat → Int) (vo fa th ri mi : Int) : suV n s vo fa th ri mi ≤ 1048577 := by
  unfold suV
  split <;> omega
def worstOBase : BaseF := fun args => match args with
  | [.agg [.row n sz_s f_s, .int .i64 vo, .int .i64 fa], .int .i64 th, .int .i64 ri, .int .i64 fr, .int .i64 to] => some ((sz_s = 3 ∧ IntR n 3 f_s) ∧ (n ≤ 1000000), .tup [.int .i64 (wrO n (ivf f_s) vo fa th ri fr to).most, .int .i64 (wrO n (ivf f_s) vo fa th ri fr to).minute, .int .i64 (wrO n (ivf f_s) vo fa th ri fr to).e])
  | _ => none
theorem worstO_eq (n : Nat) (sz_s : Nat) (f_s : Nat → Nat → SV) (vo : Int) (fa : Int) (th : Int) (ri : Int) (fr : Int) (to : Int) : worstOBase [.agg [.row n sz_s f_s, .int .i64 vo, .int .i64 fa], .int .i64 th, .int .i64 ri, .int .i64 fr, .int .i64 to] = some ((sz_s = 3 ∧ IntR n 3 f_s) ∧ (n ≤ 1000000), .tup [.int .i64 (wrO n (ivf f_s) vo fa th ri fr to).most, .int .i64 (wrO n (ivf f_s) vo fa th ri fr to).minute, .int .i64 (wrO n (ivf f_s) vo fa th ri fr to).e]) := rfl
theorem worstO_base : Base Try.prog 23 worstOBase := by
  intro args p v hq hp
  unfold worstOBase at hq
  split at hq
  rotate_left
  · cases hq
  rename_i n sz_s f_s vo fa th ri fr to
  cases hq
  obtain ⟨⟨rfl, i_s⟩, pre⟩ := hp
  refine base_of (C := cx [] [] [(72, isVotingBase), (73, isGasBase), (79, isTimeBase), (80, worstBase)] [] none) (cx_ok trivial ⟨isVoting_base, isGas_base, isTime_base, worst_base, trivial⟩) rfl (g := 23) (fn := Try.f23)
    (args' := [.agg [.row n 3 (rowF .i64 (ivf f_s)), .int .i64 vo, .int .i64 fa], .int .i64 th, .int .i64 ri, .int .i64 fr, .int .i64 to]) (fn_23) rfl 1000 (by
    simp only [BdL, Bd, and_self, and_true, true_and]
    exact (fun i j hi hj => by rw [i_s i j hi hj]; trivial)) ⟨SameD.agg ⟨SameD.int i_s, SameD.rfl' _, SameD.rfl' _, trivial⟩, SameD.rfl' _, SameD.rfl' _, SameD.rfl' _, SameD.rfl' _, trivial⟩ ?_
  generalize ivf f_s = s at *
  simp only [rowF_eq]
  cases c1 : voB n s vo fa with
  | false =>
    have hO : wrO n s vo fa th ri fr to = ⟨0, 0, 1⟩ := by rw [wrO, c1]; rfl
    simp only [c1, hO, isVoting_eq, isGas_eq, isTime_eq, worst_eq, Try.f23, go_sem, ↓reduceIte, Nat.reduceAdd, Nat.reduceSub, Nat.reduceMul, Nat.reduceEqDiff, Nat.reduceLT, Nat.reduceLeDiff, Int.reduceToNat, Int.reduceLE, Int.reduceLT, Int.reduceEq, Int.reduceNeg, reduceCtorEq]
    exact pre
  | true =>
  cases c2 : in3 th 0 1048576 with
  | false =>
    have hO : wrO n s vo fa th ri fr to = ⟨0, 0, 2⟩ := by rw [wrO, c1, c2]; rfl
    simp only [c1, c2, hO, isVoting_eq, isGas_eq, isTime_eq, worst_eq, Try.f23, go_sem, ↓reduceIte, Nat.reduceAdd, Nat.reduceSub, Nat.reduceMul, Nat.reduceEqDiff, Nat.reduceLT, Nat.reduceLeDiff, Int.reduceToNat, Int.reduceLE, Int.reduceLT, Int.reduceEq, Int.reduceNeg, reduceCtorEq]
    exact pre
  | true =>
  cases c3 : in3 ri 0 1048576 with
  | false =>
    have hO : wrO n s vo fa th ri fr to = ⟨0, 0, 2⟩ := by rw [wrO, c1, c2, c3]; rfl
    simp only [c1, c2, c3, hO, isVoting_eq, isGas_eq, isTime_eq, worst_eq, Try.f23, go_sem, ↓reduceIte, Nat.reduceAdd, Nat.reduceSub, Nat.reduceMul, Nat.reduceEqDiff, Nat.reduceLT, Nat.reduceLeDiff, Int.reduceToNat, Int.reduceLE, Int.reduceLT, Int.reduceEq, Int.reduceNeg, reduceCtorEq]
    exact pre
  | true =>
  cases c4 : in3 to 0 2000 && in3 fr 0 to with
  | false =>
    have hO : wrO n s vo fa th ri fr to = ⟨0, 0, 2⟩ := by rw [wrO, c1, c2, c3, c4]; rfl
    simp only [c1, c2, c3, c4, hO, isVoting_eq, isGas_eq, isTime_eq, worst_eq, Try.f23, go_sem, ↓reduceIte, Nat.reduceAdd, Nat.reduceSub, Nat.reduceMul, Nat.reduceEqDiff, Nat.reduceLT, Nat.reduceLeDiff, Int.reduceToNat, Int.reduceLE, Int.reduceLT, Int.reduceEq, Int.reduceNeg, reduceCtorEq]
    exact pre
  | true =>
  have hO : wrO n s vo fa th ri fr to = if decide ((wrB n s vo fa th ri fr to).1 = 1048577) then ⟨0, 0, 4⟩ else ⟨(wrB n s vo fa th ri fr to).1 - 1, (wrB n s vo fa th ri fr to).2, 0⟩ := by rw [wrO, c1, c2, c3, c4]; rfl
  have h4 := c4
  simp only [Bool.and_eq_true, in3_iff] at h4
  have hb := woS_lo (f := fun mi => suV n s vo fa th ri mi) (fr := fr) (fun x => suV_le n s vo fa th ri x) (to - fr + 1).toNat
  change -1 ≤ (wrB n s vo fa th ri fr to).1 ∧ (wrB n s vo fa th ri fr to).1 ≤ 1048577 at hb
  have w1 : IntKind.i64.wrap ((wrB n s vo fa th ri fr to).1 - 1) = (wrB n s vo fa th ri fr to).1 - 1 := wrap_id (by omega) (by omega)
  cases c5 : decide ((wrB n s vo fa th ri fr to).1 = 1048577) with
  | true =>
    rw [c5, if_pos rfl] at hO
    simp only [c1, c2, c3, c4, c5, hO, isVoting_eq, isGas_eq, isTime_eq, worst_eq, Try.f23, go_sem, ↓reduceIte, Nat.reduceAdd, Nat.reduceSub, Nat.reduceMul, Nat.reduceEqDiff, Nat.reduceLT, Nat.reduceLeDiff, Int.reduceToNat, Int.reduceLE, Int.reduceLT, Int.reduceEq, Int.reduceNeg, reduceCtorEq]
    exact ⟨pre, in3_iff.1 c2, in3_iff.1 c3, h4.1, h4.2⟩
  | false =>
    rw [c5, if_neg (by decide)] at hO
    simp only [c1, c2, c3, c4, c5, w1, hO, isVoting_eq, isGas_eq, isTime_eq, worst_eq, Try.f23, go_sem, ↓reduceIte, Nat.reduceAdd, Nat.reduceSub, Nat.reduceMul, Nat.reduceEqDiff, Nat.reduceLT, Nat.reduceLeDiff, Int.reduceToNat, Int.reduceLE, Int.reduceLT, Int.reduceEq, Int.reduceNeg, reduceCtorEq]
    exact ⟨pre, in3_iff.1 c2, in3_iff.1 c3, h4.1, h4.2⟩
def sniffsBase : BaseF := fun args => match args with
  | [.row n sz_a f_a, .row m sz_b f_b] => some ((sz_a = 3 ∧ IntR n 3 f_a) ∧ (sz_b = 3 ∧ IntR m 3 f_b) ∧ (n = m ∧ n ≤ 1000000 ∧ ∀ i, i < n → ∀ j, j < 3 → (ivf f_a) i j = (ivf f_b) i j), .bool true)
  | _ => none
theorem sniffs_eq (n : Nat) (sz_a : Nat) (f_a : Nat → Nat → SV) (m : Nat) (sz_b : Nat) (f_b : Nat → Nat → SV) : sniffsBase [.row n sz_a f_a, .row m sz_b f_b] = some ((sz_a = 3 ∧ IntR n 3 f_a) ∧ (sz_b = 3 ∧ IntR m 3 f_b) ∧ (n = m ∧ n ≤ 1000000 ∧ ∀ i, i < n → ∀ j, j < 3 → (ivf f_a) i j = (ivf f_b) i j), .bool true) := rfl
theorem sniffs_base : Base Try.prog 25 sniffsBase := by
  intro args p v hq hp
  unfold sniffsBase at hq
  split at hq
  rotate_left
  · cases hq
  rename_i n sz_a f_a m sz_b f_b
  cases hq
  obtain ⟨⟨rfl, i_a⟩, ⟨rfl, i_b⟩, pre⟩ := hp
  refine base_of (C := cx [] [] [] [(25, 6, p25_6)] none) (cx_ok trivial trivial) rfl (g := 25) (fn := Try.f25)
    (args' := [.row n 3 (rowF .i64 (ivf f_a)), .row m 3 (rowF .i64 (ivf f_b))]) (fn_25) rfl 1000 (by
    simp only [BdL, Bd, and_self, and_true, true_and]
    exact ⟨(fun i j hi hj => by rw [i_a i j hi hj]; trivial), (fun i j hi hj => by rw [i_b i j hi hj]; trivial)⟩) ⟨SameD.int i_a, SameD.int i_b, trivial⟩ ?_
  generalize ivf f_a = a at *
  generalize ivf f_b = b at *
  simp only [rowF_eq]
  obtain ⟨rfl, pn, he⟩ := pre
  have d0 : decide ((n : Int) = (n : Int)) = true := decide_eq_true rfl
  simp only [d0, p25_6, Try.f25, go_sem, ↓reduceIte, Nat.reduceAdd, Nat.reduceSub, Nat.reduceMul, Nat.reduceEqDiff, Nat.reduceLT, Nat.reduceLeDiff, Int.reduceToNat, Int.reduceLE, Int.reduceLT, Int.reduceEq, Int.reduceNeg, reduceCtorEq]
  refine loop_ofH { i : Nat // i ≤ n } (fun i => [(5, .int .i64 (i.1 : Int)), (1, .row n 3 fun i j => .int .i64 (b i j)), (0, .row n 3 fun i j => .int .i64 (a i j))]) (fun h _ => h) (fun i => n - i.1) (fun _ => ⟨rfl, rfl⟩) ⟨0, by omega⟩ (by (apply sub_of <;> simp only [go_sem, ↓reduceIte, Nat.reduceAdd, Nat.reduceSub, Nat.reduceMul, Nat.reduceEqDiff, Nat.reduceLT, Nat.reduceLeDiff, Int.reduceToNat, Int.reduceLE, Int.reduceLT, Int.reduceEq, Int.reduceNeg, reduceCtorEq] <;> (try simp [catF]) <;> (try exact fun j _ => Bd_nth (by simp [BdL, Bd]) j) <;> (try exact bd_setL (by simp [bdAs, BdL, Bd])) <;> (try exact nestF_bd _ _ _ _ _ _ _ _ _))) ?_
  rintro ⟨i, hi⟩
  simp only at hi ⊢
  by_cases hin : i < n
  rotate_left
  · have d1 : decide ((i : Int) < (n : Int)) = false := decide_eq_false (by omega)
    simp only [d1, p25_6, Try.f25, go_sem, ↓reduceIte, Nat.reduceAdd, Nat.reduceSub, Nat.reduceMul, Nat.reduceEqDiff, Nat.reduceLT, Nat.reduceLeDiff, Int.reduceToNat, Int.reduceLE, Int.reduceLT, Int.reduceEq, Int.reduceNeg, reduceCtorEq]
  have d1 : decide ((i : Int) < (n : Int)) = true := decide_eq_true (by omega)
  have hw3 : IntKind.i64.wrap ((i : Int) + 1) = ((i + 1 : Nat) : Int) := by rw [wrap_id (by omega) (by omega)]; omega
  have e0 : decide (a i 0 = b i 0) = true := decide_eq_true (he i hin 0 (by omega))
  have e1 : decide (a i 1 = b i 1) = true := decide_eq_true (he i hin 1 (by omega))
  have e2 : decide (a i 2 = b i 2) = true := decide_eq_true (he i hin 2 (by omega))
  simp only [d1, e0, e1, e2, Int.toNat_natCast, p25_6, Try.f25, go_sem, ↓reduceIte, Nat.reduceAdd, Nat.reduceSub, Nat.reduceMul, Nat.reduceEqDiff, Nat.reduceLT, Nat.reduceLeDiff, Int.reduceToNat, Int.reduceLE, Int.reduceLT, Int.reduceEq, Int.reduceNeg, reduceCtorEq]
  refine ⟨⟨by kernel_rfl, by kernel_rfl⟩, ⟨by omega, by omega⟩, ⟨by omega, by omega⟩, ⟨i + 1, by omega⟩, by simp only []; omega, ?_⟩
  apply sub_of <;> simp only [hw3, go_sem, ↓reduceIte, Nat.reduceAdd, Nat.reduceSub, Nat.reduceMul, Nat.reduceEqDiff, Nat.reduceLT, Nat.reduceLeDiff, Int.reduceToNat, Int.reduceLE, Int.reduceLT, Int.reduceEq, Int.reduceNeg, reduceCtorEq] <;> (try simp) <;> (try exact fun j _ => Bd_nth (by simp [BdL, Bd]) j) <;> (try exact bd_setL (by simp [bdAs, BdL, Bd])) <;> (try exact nestF_bd _ _ _ _ _ _ _ _ _)
end Go.Eng
end

/- file: a pen writes bits. -/
section
namespace Go.Eng
open Go Go.RowKit Go.Proofs
set_option maxRecDepth 100000
set_option maxHeartbeats 4000000
attribute [local irreducible] OwnT DefS
def arrS (vs : Nat → Int) : List SV := [.int .i64 (vs 0), .int .i64 (vs 1), .int .i64 (vs 2), .int .i64 (vs 3), .int .i64 (vs 4), .int .i64 (vs 5), .int .i64 (vs 6), .int .i64 (vs 7), .int .i64 (vs 8), .int .i64 (vs 9), .int .i64 (vs 10), .int .i64 (vs 11)]
def trkB (mi : Int) (vs : Nat → Int) : Blk := .live 160 (.int .i64 mi :: arrS vs)
def roomL (L : List Bool) : Nat := 8 * ((L.length + 7) / 8) - L.length
def penB (ver : Nat) (L : List Bool) : Blk := .live 165 [.vec 1 ver, .int .i64 (roomL L : Int)]
def xB (x : Nat → Int) : Blk := .live 95 [.int .i64 (x 0), .int .i64 (x 1), .int .i64 (x 2)]
def bytV (m ver : Nat) (L : List Bool) : Vc := .live ver 5 1 (nB L) (fun i _ => .int .u8 (hdB m L i : Int))
def penH (mi : Int) (vs : Nat → Int) (x : Nat → Int) (m ver : Nat) (L : List Bool) : HS := ⟨[trkB mi vs, penB ver L, xB x], [.dead, bytV m ver L, .dead]⟩
theorem hdB_at (m : Nat) (L : List Bool) (q : Nat) : hdB m L (4 + q) = byt L q := by
  rw [hdB, if_neg (by omega), if_neg (by omega), if_neg (by omega), if_neg (by omega), show 4 + q - 4 = q by omega]
theorem hdB_app {m : Nat} {L : List Bool} {b : Bool} {i : Nat} (h : i < 4 + L.length / 8) : hdB m (L ++ [b]) i = hdB m L i := by
  unfold hdB
  split
  · rfl
  · split
    · rfl
    · split
      · rfl
      · split
        · rfl
        · exact byt_app (by omega)
theorem bit_and {n k : Nat} (hn : n < 2 ^ 50) : bitI .and .u64 ((n / 2 ^ k : Nat) : Int) 1 = ((n.testBit k).toNat : Int) := by
  have h1 : n / 2 ^ k ≤ n := Nat.div_le_self _ _
  have := and64u (a := n / 2 ^ k) (b := 1) (by omega) (by omega)
  rw [Nat.and_one_is_mod] at this
  rw [Nat.testBit_eq_decide_div_mod_eq]
  have h3 := Nat.mod_two_eq_zero_or_one (n / 2 ^ k)
  refine Eq.trans this ?_
  rcases h3 with h3 | h3 <;> simp [h3]
/-- A new byte, and a bit in it. -/
theorem put_new {m : Nat} {M : List Bool} {b : Bool} (hr : roomL M = 0) : nB (M ++ [b]) = nB M + 1 ∧ roomL (M ++ [b]) = 7 ∧
    ∀ i, i < nB M + 1 → (if i = nB M then SV.int .u8 (bitI .or .u8 0 (IntKind.u8.wrap (IntKind.u8.wrap (b.toNat : Int) * 2 ^ min 7 8))) else catF (nB M) (fun i _ => SV.int .u8 (hdB m M i : Int)) (oneF [.int .u8 0]) i 0) = .int .u8 (hdB m (M ++ [b]) i : Int) := by
  have h8 : M.length % 8 = 0 := by unfold roomL at hr; omega
  have hn : nB M = 4 + M.length / 8 := by unfold nB; omega
  refine ⟨by unfold nB; simp; omega, by unfold roomL; simp; omega, fun i hi => ?_⟩
  by_cases hi0 : i = nB M
  · rw [if_pos hi0, hi0]
    have hz : byt M (M.length / 8) = 0 := byt_zero (by omega)
    have hs := byt_snoc M b
    rw [hz, h8] at hs
    have hb := b_le b
    have e1 : IntKind.u8.wrap (b.toNat : Int) = b.toNat := wrap_u8 (by omega) (by omega)
    have e2 : (b.toNat : Int) * 2 ^ min 7 8 = ((b.toNat * 2 ^ 7 : Nat) : Int) := by
      have : (2 : Int) ^ min 7 8 = 128 := rfl
      rw [this]; omega
    rw [e1, e2, wrap_u8 (by omega) (by omega), hn, hdB_at, ← hs]
    have := or8 (a := 0) (b := b.toNat * 2 ^ 7) (by omega) (by omega)
    exact congrArg _ this
  · rw [if_neg hi0]
    simp only [catF, if_pos (show i < nB M by omega)]
    rw [hdB_app (by omega)]
/-- One more bit in the last byte. -/
theorem put_old {m : Nat} {M : List Bool} {b : Bool} (hr : roomL M ≠ 0) : nB (M ++ [b]) = nB M ∧ roomL (M ++ [b]) + 1 = roomL M ∧ roomL M ≤ 8 ∧
    ∀ i, i < nB M → (if i = nB M - 1 then SV.int .u8 (bitI .or .u8 (hdB m M (nB M - 1) : Int) (IntKind.u8.wrap (IntKind.u8.wrap (b.toNat : Int) * 2 ^ min (roomL M - 1) 8))) else SV.int .u8 (hdB m M i : Int)) = .int .u8 (hdB m (M ++ [b]) i : Int) := by
  have h8 : M.length % 8 ≠ 0 := by unfold roomL at hr; omega
  have hn : nB M = 4 + M.length / 8 + 1 := by unfold nB; omega
  have hr2 : roomL M = 8 - M.length % 8 := by unfold roomL; omega
  refine ⟨by unfold nB; simp; omega, by unfold roomL; simp; omega, by omega, fun i hi => ?_⟩
  by_cases hi0 : i = nB M - 1
  · rw [if_pos hi0, hi0]
    have hs := byt_snoc M b
    have hb := b_le b
    have e1 : IntKind.u8.wrap (b.toNat : Int) = b.toNat := wrap_u8 (by omega) (by omega)
    have e3 : min (roomL M - 1) 8 = 7 - M.length % 8 := by omega
    have e2 : (b.toNat : Int) * 2 ^ (7 - M.length % 8) = ((b.toNat * 2 ^ (7 - M.length % 8) : Nat) : Int) := by simp
    have e4 : b.toNat * 2 ^ (7 - M.length % 8) < 256 := by
      have h1 : 2 ^ (7 - M.length % 8) ≤ 2 ^ 7 := Nat.pow_le_pow_right (by omega) (by omega)
      have := Nat.mul_le_mul hb h1
      omega
    rw [e1, e3, e2, wrap_u8 (by omega) (by omega), show nB M - 1 = 4 + M.length / 8 by omega, hdB_at, hdB_at, ← hs]
    exact congrArg _ (or8 (byt_lt _ _) (by omega))
  · rw [if_neg hi0, hdB_app (by omega)]
theorem put_run {mi : Int} {vs x : Nat → Int} {m ver : Nat} {L : List Bool} {n many : Nat} (hn : n < 2 ^ 50) (hm : many ≤ 60) (hL : L.length ≤ 200000) :
    CallsS Try.prog 62 [.ptr 1 0, .int .u64 (n : Int), .int .i64 (many : Int)] (penH mi vs x m ver L) (fun o h' => o = .ret (.tup []) ∧ ∃ ver' V, h' = ⟨(penH mi vs x m ver' (L ++ nb n many)).blks, .dead :: bytV m ver' (L ++ nb n many) :: .dead :: V⟩) := by
  refine calls_of_run (C := cx [] [] [] [(62, 6, p62_6)] none) (cx_ok trivial trivial) rfl (g := 62) (fn := Try.f62) (fn_62) rfl 1000 ?_
  have w0 : IntKind.i64.wrap ((many : Int) - 1) = (many : Int) - 1 := wrap_id (by omega) (by omega)
  simp only [Try.f62, penH, penB, w0, go_sem, ↓reduceIte, Nat.reduceAdd, Nat.reduceSub, Nat.reduceMul, Nat.reduceEqDiff, Nat.reduceLT, Nat.reduceLeDiff, Int.reduceToNat, Int.reduceLE, Int.reduceLT, Int.reduceEq, Int.reduceNeg, reduceCtorEq]
  refine loop_ofH { p : Nat × List Bool × Nat // p.1 ≤ many ∧ p.2.1 ++ nb n p.1 = L ++ nb n many } (fun p => [(6, .int .i64 ((p.1.1 : Int) - 1)), (1, .int .u64 (n : Int)), (0, .ptr 1 0)]) (fun _ p => penH mi vs x m p.1.2.2 p.1.2.1) (fun p => p.1.1) (fun _ => ⟨rfl, rfl⟩) ⟨(many, L, ver), by omega, rfl⟩ (by
    simp only [penH, penB, trkB, arrS, xB, bytV]
    (apply sub_of <;> simp only [go_sem, ↓reduceIte, Nat.reduceAdd, Nat.reduceSub, Nat.reduceMul, Nat.reduceEqDiff, Nat.reduceLT, Nat.reduceLeDiff, Int.reduceToNat, Int.reduceLE, Int.reduceLT, Int.reduceEq, Int.reduceNeg, reduceCtorEq] <;> (try simp [catF]) <;> (try exact fun j _ => Bd_nth (by simp [BdL, Bd]) j) <;> (try exact bd_setL (by simp [bdAs, BdL, Bd])) <;> (try exact nestF_bd _ _ _ _ _ _ _ _ _))) ?_
  rintro ⟨⟨j, M, v⟩, hj, hM⟩
  simp only at hj hM ⊢
  cases j with
  | zero =>
    simp only [nb, List.append_nil] at hM
    subst hM
    have d1 : decide (0 ≤ ((0 : Nat) : Int) - 1) = false := rfl
    simp only [d1, Try.f62, penH, penB, go_sem, ↓reduceIte, Nat.reduceAdd, Nat.reduceSub, Nat.reduceMul, Nat.reduceEqDiff, Nat.reduceLT, Nat.reduceLeDiff, Int.reduceToNat, Int.reduceLE, Int.reduceLT, Int.reduceEq, Int.reduceNeg, reduceCtorEq]
    exact ⟨_, [], rfl⟩
  | succ k =>
  have d1 : decide (0 ≤ (k : Int)) = true := decide_eq_true (by omega)
  have hk : ((k + 1 : Nat) : Int) - 1 = k := by omega
  have wk : IntKind.i64.wrap ((k : Int) - 1) = (k : Int) - 1 := wrap_id (by omega) (by omega)
  have hMl : M.length + (k + 1) = L.length + many := by
    have := congrArg List.length hM
    simpa [nb_len] using this
  have hMn : (M ++ [n.testBit k]) ++ nb n k = L ++ nb n many := by rw [← hM]; simp [nb]
  have hnB : nB M ≤ 1000000 ∧ 4 ≤ nB M := by unfold nB; omega
  by_cases hr : roomL M = 0
  · have d2 : decide ((roomL M : Int) = 0) = true := decide_eq_true (by omega)
    have hw : IntKind.i64.wrap (8 - 1) = 7 := rfl
    have hw2 : IntKind.i64.wrap (((nB M + 1 : Nat) : Int) - 1) = (nB M : Int) := by rw [wrap_id (by omega) (by omega)]; omega
    have hc : catF (nB M) (fun i _ => SV.int .u8 (hdB m M i : Int)) (oneF [.int .u8 0]) (nB M) 0 = .int .u8 0 := by simp [catF, oneF, nth]
    obtain ⟨p1, p2, p3⟩ := put_new (m := m) (b := n.testBit k) hr
    simp only [d1, d2, hk, hw, hw2, hc, wk, fd (show k ≤ 64 by omega), bit_and hn, p62_6, Try.f62, penH, penB, bytV, Int.toNat_natCast, go_sem, ↓reduceIte, Nat.reduceAdd, Nat.reduceSub, Nat.reduceMul, Nat.reduceEqDiff, Nat.reduceLT, Nat.reduceLeDiff, Int.reduceToNat, Int.reduceLE, Int.reduceLT, Int.reduceEq, Int.reduceNeg, reduceCtorEq]
    refine ⟨⟨by omega, by omega⟩, ⟨by kernel_rfl, by kernel_rfl⟩, ⟨by omega, by omega⟩, by omega, by omega, ⟨by omega, by omega⟩, by omega, ⟨(k, M ++ [n.testBit k], v + 1), by omega, hMn⟩, by simp only []; omega, ?_⟩
    apply sub_of <;> simp only [p1, p2, trkB, arrS, xB, go_sem, ↓reduceIte, Nat.reduceAdd, Nat.reduceSub, Nat.reduceMul, Nat.reduceEqDiff, Nat.reduceLT, Nat.reduceLeDiff, Int.reduceToNat, Int.reduceLE, Int.reduceLT, Int.reduceEq, Int.reduceNeg, reduceCtorEq] <;> (try simp)
    exact p3
  · have d2 : decide ((roomL M : Int) = 0) = false := decide_eq_false (by omega)
    obtain ⟨p1, p2, p4, p3⟩ := put_old (m := m) (b := n.testBit k) hr
    have hw2 : IntKind.i64.wrap ((nB M : Int) - 1) = ((nB M - 1 : Nat) : Int) := by rw [wrap_id (by omega) (by omega)]; unfold nB; omega
    have hw3 : IntKind.i64.wrap ((roomL M : Int) - 1) = ((roomL M - 1 : Nat) : Int) := by rw [wrap_id (by omega) (by omega)]; omega
    simp only [d1, d2, hk, hw2, hw3, wk, fd (show k ≤ 64 by omega), bit_and hn, p62_6, Try.f62, penH, penB, bytV, Int.toNat_natCast, go_sem, ↓reduceIte, Nat.reduceAdd, Nat.reduceSub, Nat.reduceMul, Nat.reduceEqDiff, Nat.reduceLT, Nat.reduceLeDiff, Int.reduceToNat, Int.reduceLE, Int.reduceLT, Int.reduceEq, Int.reduceNeg, reduceCtorEq]
    have hrr : ((roomL M - 1 : Nat) : Int) = (roomL (M ++ [n.testBit k]) : Int) := by omega
    refine ⟨⟨by kernel_rfl, by kernel_rfl⟩, ⟨by omega, by omega⟩, by omega, by omega, by omega, ⟨by omega, by omega⟩, by omega, ⟨(k, M ++ [n.testBit k], v), by omega, hMn⟩, by simp only []; omega, ?_⟩
    apply sub_of <;> simp only [p1, hrr, trkB, arrS, xB, go_sem, ↓reduceIte, Nat.reduceAdd, Nat.reduceSub, Nat.reduceMul, Nat.reduceEqDiff, Nat.reduceLT, Nat.reduceLeDiff, Int.reduceToNat, Int.reduceLE, Int.reduceLT, Int.reduceEq, Int.reduceNeg, reduceCtorEq] <;> (try simp)
    exact p3
theorem penH_bd (mi : Int) (vs x : Nat → Int) (m ver : Nat) (L : List Bool) (A B : Nat) (hB : 1 < B) : bdB2 A B (penH mi vs x m ver L).blks := by
  simp [penH, trkB, arrS, penB, xB, bdB2, BdL, Bd, hB]
theorem bytV_bd (m ver : Nat) (L : List Bool) (A B : Nat) : bdV A B [.dead, bytV m ver L, .dead] := ⟨fun _ _ _ _ => trivial, trivial⟩
theorem put_calls {mi : Int} {vs x : Nat → Int} {m ver : Nat} {L : List Bool} {n many : Nat} (hn : n < 2 ^ 50) (hm : many ≤ 60) (hL : L.length ≤ 200000) :
    CallsS Try.prog 62 [.ptr 1 0, .int .u64 (n : Int), .int .i64 (many : Int)] (penH mi vs x m ver L) (fun o h' => o = .ret (.tup []) ∧ ∃ ver', h' = penH mi vs x m ver' (L ++ nb n many)) := by
  refine calls_trim (put_run hn hm hL) ?_
  rintro o h' ⟨rfl, ver', V, rfl⟩
  refine ⟨_, .tup [], penH mi vs x m ver' (L ++ nb n many), ⟨rfl, rfl, ver', rfl⟩, ⟨⟨rfl, trivial⟩, ?_, ?_, ⟨trivial, trivial⟩, penH_bd _ _ _ _ _ _ _ _ (by simp [penH, lenV]), ?_⟩, ⟨by simp [penH, lenB], by simp [penH, lenB]⟩, ⟨by simp [penH, lenV], by simp [penH, lenV]⟩⟩
  · simp [penH, trkB, arrS, penB, xB, subB, subBk, subL, subX]
  · exact ⟨trivial, ⟨rfl, rfl, rfl, rfl, fun _ _ _ _ => rfl⟩, trivial, by cases V <;> trivial⟩
  · exact bytV_bd _ _ _ _ _
theorem code_run {mi : Int} {vs x : Nat → Int} {m ver : Nat} {L : List Bool} {n : Nat} (h0 : n ≠ 0) (hn : n < 4294967296) (hL : L.length ≤ 199000) :
    CallsS Try.prog 61 [.ptr 1 0, .int .u64 (n : Int)] (penH mi vs x m ver L) (fun o h' => o = .ret (.tup []) ∧ ∃ ver', h' = penH mi vs x m ver' (L ++ cod n)) := by
  refine calls_of_run (C := cx [62] [] [(112, len64Base)] [] none) (cx_ok trivial ⟨len64_base, trivial⟩) rfl (g := 61) (fn := Try.f61) (fn_61) rfl 1000 ?_
  obtain ⟨k, hk, h1, h2⟩ := bl_bd h0
  have hk32 := bl_lt (n := n) (k := 32) (by omega)
  have w0 : IntKind.i64.wrap ((bl n : Int) - 1) = ((bl n - 1 : Nat) : Int) := by rw [wrap_id (by omega) (by omega)]; omega
  simp only [Try.f61, len64_eq, w0, Int.toNat_natCast, go_sem, ↓reduceIte, Nat.reduceAdd, Nat.reduceSub, Nat.reduceMul, Nat.reduceEqDiff, Nat.reduceLT, Nat.reduceLeDiff, Int.reduceToNat, Int.reduceLE, Int.reduceLT, Int.reduceEq, Int.reduceNeg, reduceCtorEq]
  have wf : (Lit.int IntKind.u64 (n : Int)).wf = true := by
    simp [Lit.wf, IntKind.min, IntKind.max, IntKind.signed, IntKind.bits]
    omega
  refine ⟨⟨wf, by omega⟩, ?_⟩
  unfold callS
  refine calls_mono ?_ (put_calls (n := 0) (many := bl n - 1) (by omega) (by omega) (by omega))
  rintro o h' ⟨rfl, v1, rfl⟩
  simp only [Try.f61, Int.toNat_natCast, go_sem, ↓reduceIte, Nat.reduceAdd, Nat.reduceSub, Nat.reduceMul, Nat.reduceEqDiff, Nat.reduceLT, Nat.reduceLeDiff, Int.reduceToNat, Int.reduceLE, Int.reduceLT, Int.reduceEq, Int.reduceNeg, reduceCtorEq]
  unfold callS
  refine calls_mono ?_ (put_calls (n := n) (many := bl n) (by omega) (by omega) (by simp [nb_len]; omega))
  rintro o h' ⟨rfl, v2, rfl⟩
  simp only [Try.f61, Int.toNat_natCast, go_sem, ↓reduceIte, Nat.reduceAdd, Nat.reduceSub, Nat.reduceMul, Nat.reduceEqDiff, Nat.reduceLT, Nat.reduceLeDiff, Int.reduceToNat, Int.reduceLE, Int.reduceLT, Int.reduceEq, Int.reduceNeg, reduceCtorEq]
  exact ⟨v2, by rw [cod, List.append_assoc]⟩
end Go.Eng
end

/- file: Log. -/
section
namespace Go.Eng
open Go Go.RowKit Go.Proofs
set_option maxRecDepth 100000
set_option maxHeartbeats 4000000
attribute [local irreducible] OwnT DefS
def lgAll (l : Nat → Nat → Int) : Nat → Bool
  | 0 => true
  | k + 1 => lgAll l k && lgV l k
def lgE (l : Nat → Nat → Int) (m : Nat) : Int := if 1024 < m then 3 else if lgAll l m then 0 else 1
def lgN (l : Nat → Nat → Int) (m : Nat) : Nat := if lgE l m = 0 then nB (enL l m) + 1 else 0
def lgF (l : Nat → Nat → Int) (m : Nat) : Nat → Nat → SV := fun i _ => .int .u8 (fB m (enL l m) i : Int)
theorem lgAll_iff {l : Nat → Nat → Int} : ∀ {m : Nat}, lgAll l m = true ↔ ∀ k, k < m → lgV l k = true
  | 0 => ⟨fun _ k hk => absurd hk (by omega), fun _ => rfl⟩
  | m + 1 => by
    simp only [lgAll, Bool.and_eq_true, lgAll_iff (m := m)]
    constructor
    · rintro ⟨h1, h2⟩ k hk
      rcases Nat.lt_or_ge k m with g | g
      · exact h1 k g
      · obtain rfl : k = m := by omega
        exact h2
    · exact fun h => ⟨fun k hk => h k (by omega), h m (by omega)⟩
theorem nth_arr (a : SV) (vs : Nat → Int) {i : Nat} (h : i < 12) : nth (a :: arrS vs) (1 + i * 1) = .int .i64 (vs i) := by
  rcases (by omega : i = 0 ∨ i = 1 ∨ i = 2 ∨ i = 3 ∨ i = 4 ∨ i = 5 ∨ i = 6 ∨ i = 7 ∨ i = 8 ∨ i = 9 ∨ i = 10 ∨ i = 11) with rfl | rfl | rfl | rfl | rfl | rfl | rfl | rfl | rfl | rfl | rfl | rfl <;> rfl
theorem upd_arr (a : SV) (vs : Nat → Int) {i : Nat} (v : Int) (h : i < 12) : upd (a :: arrS vs) (1 + i * 1) (.int .i64 v) = a :: arrS (upF vs i v) := by
  rcases (by omega : i = 0 ∨ i = 1 ∨ i = 2 ∨ i = 3 ∨ i = 4 ∨ i = 5 ∨ i = 6 ∨ i = 7 ∨ i = 8 ∨ i = 9 ∨ i = 10 ∨ i = 11) with rfl | rfl | rfl | rfl | rfl | rfl | rfl | rfl | rfl | rfl | rfl | rfl <;> rfl
theorem bdL_arr (vs : Nat → Int) (A B : Nat) : BdL A B (arrS vs) := by simp [arrS, BdL, Bd]
theorem lenS_arr (vs : Nat → Int) : lenS (arrS vs) = 12 := rfl
theorem hd_start {m : Nat} (hm : m ≤ 1024) : 4 = nB [] ∧ ∀ i, i < nB [] → nth [.int IntKind.u8 73, .int IntKind.u8 76, .int IntKind.u8 (IntKind.u8.wrap ((m : Int).fdiv 256)), .int IntKind.u8 (IntKind.u8.wrap (m : Int))] i = SV.int .u8 (hdB m [] i : Int) := by
  refine ⟨rfl, fun i hi => ?_⟩
  have e1 : (m : Int).fdiv 256 = ((m / 256 : Nat) : Int) := by rw [Int.fdiv_eq_ediv_of_nonneg _ (by omega)]; rfl
  have e2 : IntKind.u8.wrap ((m / 256 : Nat) : Int) = ((m / 256 % 256 : Nat) : Int) := by
    simp only [IntKind.wrap, IntKind.signed, IntKind.bits]; simp
  have e3 : IntKind.u8.wrap (m : Int) = ((m % 256 : Nat) : Int) := by
    simp only [IntKind.wrap, IntKind.signed, IntKind.bits]; simp
  rw [e1, e2, e3]
  have hi4 : i < 4 := hi
  rcases (by omega : i = 0 ∨ i = 1 ∨ i = 2 ∨ i = 3) with rfl | rfl | rfl | rfl <;> rfl
def logBase : BaseF := fun args => match args with
  | [.row m sz_l f_l] => some ((sz_l = 3 ∧ IntR m 3 f_l), .tup [.row (lgN (ivf f_l) m) 1 (lgF (ivf f_l) m), .int .i64 (lgE (ivf f_l) m)])
  | _ => none
theorem log_eq (m : Nat) (sz_l : Nat) (f_l : Nat → Nat → SV) : logBase [.row m sz_l f_l] = some ((sz_l = 3 ∧ IntR m 3 f_l), .tup [.row (lgN (ivf f_l) m) 1 (lgF (ivf f_l) m), .int .i64 (lgE (ivf f_l) m)]) := rfl
theorem log_base : Base Try.prog 20 logBase := by
  intro args p v hq hp
  unfold logBase at hq
  split at hq
  rotate_left
  · cases hq
  rename_i m sz_l f_l
  cases hq
  obtain ⟨rfl, i_l⟩ := hp
  refine baseF_of (C := cx [61, 62] [] [(60, isSniffBase), (63, foldBase), (64, lastBase)] [(20, 12, p20_12), (20, 13, p20_13), (20, 15, p20_15)] none) (cx_ok trivial ⟨isSniff_base, fold_base, last_base, trivial⟩) rfl (g := 20) (fn := Try.f20)
    (args' := [.row m 3 (rowF .i64 (ivf f_l))]) (fn_20) rfl 1000 (by
    simp only [BdL, Bd, and_self, and_true, true_and]
    exact (fun i j hi hj => by rw [i_l i j hi hj]; trivial)) ⟨SameD.int i_l, trivial⟩ ?_
  generalize ivf f_l = l
  simp only [rowF_eq]
  cases c1 : decide (1024 < (m : Int)) with
  | true =>
    simp only [decide_eq_true_eq] at c1
    have hE : lgE l m = 3 := by rw [lgE, if_pos (by omega)]
    have hN : lgN l m = 0 := by rw [lgN, hE]; rfl
    have c1' : decide (1024 < (m : Int)) = true := decide_eq_true c1
    simp only [c1', hE, hN, isSniff_eq, fold_eq, last_eq, p20_12, p20_13, p20_15, Try.f20, go_sem, ↓reduceIte, Nat.reduceAdd, Nat.reduceSub, Nat.reduceMul, Nat.reduceEqDiff, Nat.reduceLT, Nat.reduceLeDiff, Int.reduceToNat, Int.reduceLE, Int.reduceLT, Int.reduceEq, Int.reduceNeg, reduceCtorEq]
    exact fun i _ hi _ => absurd hi (by omega)
  | false =>
  simp only [c1, isSniff_eq, fold_eq, last_eq, p20_12, p20_13, p20_15, Try.f20, go_sem, ↓reduceIte, Nat.reduceAdd, Nat.reduceSub, Nat.reduceMul, Nat.reduceEqDiff, Nat.reduceLT, Nat.reduceLeDiff, Int.reduceToNat, Int.reduceLE, Int.reduceLT, Int.reduceEq, Int.reduceNeg, reduceCtorEq]
  simp only [decide_eq_false_iff_not] at c1
  refine loop_ofH { p : Nat × Nat // p.1 ≤ m ∧ ∀ k, k < p.1 → lgV l k = true } (fun p => [(23, .int .i64 (p.1.1 : Int)), (22, .int .i64 (m : Int)), (21, .row m 3 fun i j => .int .i64 (l i j)), (5, .ptr 1 0), (4, .ptr 0 0)]) (fun _ p => ⟨[trkB (tmi l p.1.1) (tvs l p.1.1), penB p.1.2 (enL l p.1.1)], [.dead, bytV m p.1.2 (enL l p.1.1), .dead]⟩) (fun p => m - p.1.1) (fun _ => ⟨rfl, rfl⟩) ⟨(0, 0), by omega, fun k hk => absurd hk (by omega)⟩ (by
    simp only [trkB, arrS, penB, bytV, enL, tmi, tvs]
    (apply sub_of <;> simp only [go_sem, ↓reduceIte, Nat.reduceAdd, Nat.reduceSub, Nat.reduceMul, Nat.reduceEqDiff, Nat.reduceLT, Nat.reduceLeDiff, Int.reduceToNat, Int.reduceLE, Int.reduceLT, Int.reduceEq, Int.reduceNeg, reduceCtorEq] <;> (try simp [catF]) <;> (try exact fun j _ => Bd_nth (by simp [BdL, Bd]) j) <;> (try exact bd_setL (by simp [bdAs, BdL, Bd])) <;> (try exact nestF_bd _ _ _ _ _ _ _ _ _))
    · rfl
    · exact hd_start (by omega)) ?_
  rintro ⟨⟨k, v⟩, hk, hv⟩
  simp only at hk hv ⊢
  by_cases hkm : k < m
  rotate_left
  · obtain rfl : m = k := by omega
    have d1 : decide ((m : Int) < (m : Int)) = false := decide_eq_false (by omega)
    have hE : lgE l m = 0 := by rw [lgE, if_neg (by omega), if_pos (lgAll_iff.2 hv)]
    have hN : lgN l m = nB (enL l m) + 1 := by rw [lgN, hE, if_pos rfl]
    have hlen := enL_len hv m (Nat.le_refl _)
    have hnb : nB (enL l m) ≤ 100000 := by unfold nB; omega
    simp only [d1, penB, bytV, hE, hN, last_eq, p20_15, isSniff_eq, fold_eq, last_eq, p20_12, p20_13, p20_15, Try.f20, go_sem, ↓reduceIte, Nat.reduceAdd, Nat.reduceSub, Nat.reduceMul, Nat.reduceEqDiff, Nat.reduceLT, Nat.reduceLeDiff, Int.reduceToNat, Int.reduceLE, Int.reduceLT, Int.reduceEq, Int.reduceNeg, reduceCtorEq]
    refine ⟨⟨by kernel_rfl, by kernel_rfl⟩, ⟨by omega, fun i _ => ?_⟩, ⟨by omega, by omega⟩, fun i j hi hj => ⟨?_, trivial⟩⟩
    · have := hdB_lt m (enL l m) i; omega
    · obtain rfl : j = 0 := by omega
      simp only [catF, lgF, fB]
      by_cases g : i < nB (enL l m)
      · rw [if_pos g, if_pos g]
      · rw [if_neg g, if_neg g, show i - nB (enL l m) = 0 by omega]; rfl
  have d1 : decide ((k : Int) < (m : Int)) = true := decide_eq_true (by omega)
  cases c2 : lgV l k with
  | false =>
    have c2' : snB (l k 0) (l k 1) (l k 2) (tmi l k) = false := c2
    have hE : lgE l m = 1 := by
      rw [lgE, if_neg (by omega), if_neg]
      intro h
      rw [lgAll_iff.1 h k hkm] at c2; cases c2
    have hN : lgN l m = 0 := by rw [lgN, hE]; rfl
    simp only [d1, c2', hE, hN, trkB, isSniff_eq, Int.toNat_natCast, isSniff_eq, fold_eq, last_eq, p20_12, p20_13, p20_15, Try.f20, go_sem, ↓reduceIte, Nat.reduceAdd, Nat.reduceSub, Nat.reduceMul, Nat.reduceEqDiff, Nat.reduceLT, Nat.reduceLeDiff, Int.reduceToNat, Int.reduceLE, Int.reduceLT, Int.reduceEq, Int.reduceNeg, reduceCtorEq]
    exact ⟨by omega, fun i _ hi _ => absurd hi (by omega)⟩
  | true =>
  have c2' : snB (l k 0) (l k 1) (l k 2) (tmi l k) = true := c2
  have hv1 : ∀ a, a < k + 1 → lgV l a = true := fun a ha => by
    rcases Nat.lt_or_ge a k with g | g
    · exact hv a g
    · obtain rfl : a = k := by omega
      exact c2
  have hs := snB_iff.1 c2
  have ht := tmi_bd hv k (Nat.le_refl _)
  have htv := tvs_bd hv k (Nat.le_refl _) (l k 1).toNat
  have hlen := enL_len hv k (Nat.le_refl _)
  obtain ⟨a1, a2, a3⟩ := enA_bd hv1 (Nat.lt_succ_self k)
  obtain ⟨b1, b2⟩ := enV_bd hv1 (Nat.lt_succ_self k)
  have w1 : IntKind.i64.wrap (1 + l k 0) = 1 + l k 0 := wrap_id (by omega) (by omega)
  have w2 : IntKind.i64.wrap (1 + l k 0 - tmi l k) = (enA (tmi l k) (l k) : Int) := by rw [wrap_id (by omega) (by omega)]; omega
  have w3 : IntKind.u64.wrap (enA (tmi l k) (l k) : Int) = (enA (tmi l k) (l k) : Int) := wrap_u64 (by omega) (by omega)
  obtain ⟨se, hse⟩ : ∃ se : Nat, l k 1 = se := ⟨(l k 1).toNat, by omega⟩
  have w4 : IntKind.u64.wrap (se : Int) = (se : Int) := wrap_u64 (by omega) (by omega)
  simp only [d1, c2', w1, w2, w3, trkB, isSniff_eq, Int.toNat_natCast, isSniff_eq, fold_eq, last_eq, p20_12, p20_13, p20_15, Try.f20, go_sem, ↓reduceIte, Nat.reduceAdd, Nat.reduceSub, Nat.reduceMul, Nat.reduceEqDiff, Nat.reduceLT, Nat.reduceLeDiff, Int.reduceToNat, Int.reduceLE, Int.reduceLT, Int.reduceEq, Int.reduceNeg, reduceCtorEq]
  refine ⟨by omega, ?_⟩
  unfold callS
  refine calls_mono ?_ (code_run (mi := tmi l k) (vs := tvs l k) (x := l k) a1 (by omega) (by omega))
  rintro o h' ⟨rfl, v1, rfl⟩
  simp only [penH, xB, hse, w4, Try.f20, Int.toNat_natCast, isSniff_eq, fold_eq, last_eq, p20_12, p20_13, p20_15, Try.f20, go_sem, ↓reduceIte, Nat.reduceAdd, Nat.reduceSub, Nat.reduceMul, Nat.reduceEqDiff, Nat.reduceLT, Nat.reduceLeDiff, Int.reduceToNat, Int.reduceLE, Int.reduceLT, Int.reduceEq, Int.reduceNeg, reduceCtorEq]
  unfold callS
  have hx1 : [SV.int .i64 (l k 0), .int .i64 (se : Int), .int .i64 (l k 2)] = [.int .i64 (l k 0), .int .i64 (l k 1), .int .i64 (l k 2)] := by rw [hse]
  rw [hx1]
  refine calls_mono ?_ (put_calls (mi := tmi l k) (vs := tvs l k) (x := l k) (n := se) (many := 4) (by omega) (by omega) (by have := cod_len (n := enA (tmi l k) (l k)) (B := 22) (by omega); simp; omega))
  rintro o h' ⟨rfl, v2, rfl⟩
  have hn := nth_arr (.int .i64 (tmi l k)) (tvs l k) (show se < 12 by omega)
  have hseN : (l k 1).toNat = se := by omega
  rw [hseN] at htv
  have hev : enV (tvs l k) (l k) = 1 + zz (l k 2 - tvs l k se) := by rw [enV, hseN]
  have w5 : IntKind.i64.wrap (l k 2 - tvs l k se) = l k 2 - tvs l k se := wrap_id (by omega) (by omega)
  have w6 : IntKind.u64.wrap (1 + (zz (l k 2 - tvs l k se) : Int)) = (enV (tvs l k) (l k) : Int) := by rw [wrap_u64 (by omega) (by omega), hev]; omega
  simp only [penH, xB, trkB, hse, hn, lenS_arr, w5, w6, fold_eq, p20_12, Try.f20, Int.toNat_natCast, isSniff_eq, fold_eq, last_eq, p20_12, p20_13, p20_15, Try.f20, go_sem, ↓reduceIte, Nat.reduceAdd, Nat.reduceSub, Nat.reduceMul, Nat.reduceEqDiff, Nat.reduceLT, Nat.reduceLeDiff, Int.reduceToNat, Int.reduceLE, Int.reduceLT, Int.reduceEq, Int.reduceNeg, reduceCtorEq]
  refine ⟨⟨by kernel_rfl, by kernel_rfl⟩, by omega, by omega, by omega, ?_⟩
  rw [show [SV.int .i64 (l k 0), .int .i64 (se : Int), .int .i64 (l k 2)] = [.int .i64 (l k 0), .int .i64 (l k 1), .int .i64 (l k 2)] by rw [hse]]
  refine calls_mono ?_ (code_run (mi := tmi l k) (vs := tvs l k) (x := l k) b1 (by omega) (by have := cod_len (n := enA (tmi l k) (l k)) (B := 22) (by omega); simp [nb_len]; omega))
  rintro o h' ⟨rfl, v3, rfl⟩
  simp only [penH, xB, trkB, hse, hn, lenS_arr, p20_13, p20_12, Try.f20, Int.toNat_natCast, isSniff_eq, fold_eq, last_eq, p20_12, p20_13, p20_15, Try.f20, go_sem, ↓reduceIte, Nat.reduceAdd, Nat.reduceSub, Nat.reduceMul, Nat.reduceEqDiff, Nat.reduceLT, Nat.reduceLeDiff, Int.reduceToNat, Int.reduceLE, Int.reduceLT, Int.reduceEq, Int.reduceNeg, reduceCtorEq]
  have wk : IntKind.i64.wrap ((k : Int) + 1) = ((k + 1 : Nat) : Int) := by rw [wrap_id (by omega) (by omega)]; omega
  refine ⟨⟨by kernel_rfl, by kernel_rfl⟩, by omega, by omega, ⟨(k + 1, v3), by omega, hv1⟩, by simp only []; omega, ?_⟩
  have henL : enL l k ++ cod (enA (tmi l k) (l k)) ++ nb se 4 ++ cod (enV (tvs l k) (l k)) = enL l (k + 1) := by rw [enL, enX, hseN]; simp [List.append_assoc]
  have hup := upd_arr (.int .i64 (l k 0)) (tvs l k) (l k 2) (show se < 12 by omega)
  have htm : tmi l (k + 1) = l k 0 := rfl
  have htv1 : tvs l (k + 1) = upF (tvs l k) se (l k 2) := by rw [← hseN]; rfl
  apply sub_of <;> simp only [trkB, penB, bytV, wk, henL, hup, htm, htv1, go_sem, ↓reduceIte, Nat.reduceAdd, Nat.reduceSub, Nat.reduceMul, Nat.reduceEqDiff, Nat.reduceLT, Nat.reduceLeDiff, Int.reduceToNat, Int.reduceLE, Int.reduceLT, Int.reduceEq, Int.reduceNeg, reduceCtorEq]
  all_goals first
    | exact fun _ _ _ _ => trivial
    | exact bdL_arr _ _ _
    | (simp [subX]; done)
    | (simp [arrS, subL, subX]; done)
end Go.Eng
end

/- What awake tells: true. -/
section
namespace Go.Eng
open Go Go.RowKit Go.Proofs
set_option maxRecDepth 100000
set_option maxHeartbeats 4000000
attribute [local irreducible] OwnT DefS
theorem spl_tr {q : Bool} {A B : Prop} (h : q = true) (a : A) : spl q A B := ⟨fun _ => a, fun hf => by rw [h] at hf; cases hf⟩
def awakeBase : BaseF := fun args => match args with
  | [] => some (True, .bool true)
  | _ => none
theorem awake_eq  : awakeBase [] = some (True, .bool true) := rfl
theorem awake_base : Base Try.prog 19 awakeBase := by
  intro args p v hq hp
  unfold awakeBase at hq
  split at hq
  rotate_left
  · cases hq
  cases hq
  refine base_of (C := cx [] [] [(20, logBase), (23, worstOBase)] [] none) (cx_ok trivial ⟨log_base, worstO_base, trivial⟩) rfl (g := 19) (fn := Try.f19)
    (args' := []) (fn_19) rfl 1000 (by simp only [BdL, Bd, and_self, and_true, true_and]) trivial ?_
  simp only [log_eq, worstO_eq, Try.f19, go_sem, ↓reduceIte, Nat.reduceAdd, Nat.reduceSub, Nat.reduceMul, Nat.reduceEqDiff, Nat.reduceLT, Nat.reduceLeDiff, Int.reduceToNat, Int.reduceLE, Int.reduceLT, Int.reduceEq, Int.reduceNeg, reduceCtorEq]
  refine ⟨?_, ?_, fun i _ => rfl, ?_⟩
  · intro i j hi hj
    rcases (by omega : i = 0 ∨ i = 1) with rfl | rfl <;> rcases (by omega : j = 0 ∨ j = 1 ∨ j = 2) with rfl | rfl | rfl <;> rfl
  · intro i j hi hj
    rcases (by omega : i = 0 ∨ i = 1 ∨ i = 2) with rfl | rfl | rfl <;> rcases (by omega : j = 0 ∨ j = 1 ∨ j = 2) with rfl | rfl | rfl <;> rfl
  refine spl_tr (by kernel_rfl) (spl_tr (by kernel_rfl) (spl_tr (by kernel_rfl) (spl_tr (by kernel_rfl) ?_)))
  congr 1 <;> kernel_rfl
end Go.Eng
end

/- alarm and file together: the steepest course, and its alarm. No program in sight. -/
section
namespace Go.Eng
/-- A reading. -/
structure Sn where
  mi : Int
  se : Nat
  va : Int
def sf (L : List Sn) (i j : Nat) : Int := if j = 0 then (L.getD i ⟨0, 0, 0⟩).mi else if j = 1 then ((L.getD i ⟨0, 0, 0⟩).se : Int) else (L.getD i ⟨0, 0, 0⟩).va
theorem sf_app (L K : List Sn) {i : Nat} (h : i < L.length) (j : Nat) : sf (L ++ K) i j = sf L i j := by
  have : (L ++ K).getD i ⟨0, 0, 0⟩ = L.getD i ⟨0, 0, 0⟩ := by simp only [List.getD_eq_getElem?_getD]; rw [List.getElem?_append_left h]
  simp only [sf, this]
theorem sf_snoc (L : List Sn) (x : Sn) (j : Nat) : sf (L ++ [x]) L.length j = if j = 0 then x.mi else if j = 1 then (x.se : Int) else x.va := by
  have : (L ++ [x]).getD L.length ⟨0, 0, 0⟩ = x := by simp [List.getD_eq_getElem?_getD]
  simp only [sf, this]
def yF (th : Int) (f : Nat → Bool) (L : List Sn) : Nat → Bool := L.foldl (fun f x => clB f x.se (decide (th ≤ x.va))) f
theorem yF_app (th : Int) (f : Nat → Bool) (L K : List Sn) : yF th f (L ++ K) = yF th (yF th f L) K := by simp [yF]
theorem yB_F (th : Int) (L : List Sn) : ∀ k, k ≤ L.length → yB th (sf L) k = yF th (fun _ => false) (L.take k)
  | 0, _ => by simp [yB, yF]
  | k + 1, hk => by
    have hk' : k < L.length := by omega
    have e1 : sf L k 1 = (L[k].se : Int) := by simp [sf, List.getD_eq_getElem?_getD, hk']
    have e2 : sf L k 2 = L[k].va := by simp [sf, List.getD_eq_getElem?_getD, hk']
    rw [List.take_succ_eq_append_getElem hk', yF_app, ← yB_F th L k (by omega), yB, e1, e2, Int.toNat_natCast]
    rfl
/- ### the steepest course -/
section
variable (n : Nat) (s : Nat → Nat → Int) (fa ri W mu : Int) (B : Nat → Bool)
/-- How many of the first sensors have failed, and which. -/
def fcN : Nat → Nat
  | 0 => 0
  | i + 1 => fcN i + (B i && decide ((fcN i : Int) < fa)).toNat
def bdN (i : Nat) : Bool := B i && decide ((fcN fa B i : Int) < fa)
def dueB (m i : Nat) : Bool := !(decide ((m : Int) < s i 0) || !decide (((m : Int) - s i 0).tmod (s i 1) = 0))
def vaN (m i : Nat) : Int := if bdN fa B i then 0 else max (-1048576) (max 0 (W - ri * (mu - m)) - s i 2)
def rwN (m : Nat) : Nat → List Sn
  | 0 => []
  | i + 1 => rwN m i ++ (if dueB s m i then [⟨m, i, vaN s fa ri W mu B m i⟩] else [])
def alN : Nat → List Sn
  | 0 => []
  | m + 1 => alN m ++ rwN s fa ri W mu B m n
end
section
variable {n : Nat} {s : Nat → Nat → Int} {fa ri W mu : Int} {B : Nat → Bool}
theorem rwN_len (m : Nat) : ∀ i, (rwN s fa ri W mu B m i).length ≤ i
  | 0 => Nat.le_refl _
  | i + 1 => by
    have := rwN_len m i
    rw [rwN, List.length_append]
    split <;> simp <;> omega
theorem alN_len : ∀ m, (alN n s fa ri W mu B m).length ≤ n * m
  | 0 => by simp [alN]
  | m + 1 => by
    have h1 := alN_len m
    have h2 := rwN_len (s := s) (fa := fa) (ri := ri) (W := W) (mu := mu) (B := B) m n
    rw [alN, List.length_append, Nat.mul_succ]; omega
theorem rwN_mem (m : Nat) : ∀ i, ∀ x ∈ rwN s fa ri W mu B m i, x.mi = m ∧ x.se < i ∧ x.va = vaN s fa ri W mu B m x.se
  | 0, x, h => absurd h (by simp [rwN])
  | i + 1, x, h => by
    rw [rwN, List.mem_append] at h
    rcases h with h | h
    · obtain ⟨h1, h2, h3⟩ := rwN_mem m i x h
      exact ⟨h1, by omega, h3⟩
    · split at h
      · rw [List.mem_singleton] at h
        subst h
        exact ⟨rfl, by simp only []; omega, rfl⟩
      · simp at h
theorem alN_mem : ∀ m, ∀ x ∈ alN n s fa ri W mu B m, (∃ k : Nat, k < m ∧ x.mi = k ∧ x.va = vaN s fa ri W mu B k x.se) ∧ x.se < n
  | 0, x, h => absurd h (by simp [alN])
  | m + 1, x, h => by
    rw [alN, List.mem_append] at h
    rcases h with h | h
    · obtain ⟨⟨k, h1, h2, h3⟩, h4⟩ := alN_mem m x h
      exact ⟨⟨k, by omega, h2, h3⟩, h4⟩
    · obtain ⟨h1, h2, h3⟩ := rwN_mem m n x h
      exact ⟨⟨m, by omega, h1, h3⟩, h2⟩
/-- In order of time. -/
def Tim : List Sn → Prop := List.Pairwise fun x y => x.mi ≤ y.mi
theorem alN_tim : ∀ m, Tim (alN n s fa ri W mu B m)
  | 0 => by simp [alN, Tim]
  | m + 1 => by
    have ih := alN_tim m
    have hr : Tim (rwN s fa ri W mu B m n) := by
      refine List.pairwise_of_forall_mem_list fun x hx y hy => ?_
      rw [(rwN_mem m n x hx).1, (rwN_mem m n y hy).1]; exact Int.le_refl _
    refine List.pairwise_append.2 ⟨ih, hr, fun x hx y hy => ?_⟩
    obtain ⟨⟨k, h1, h2, _⟩, _⟩ := alN_mem m x hx
    rw [(rwN_mem m n y hy).1, h2]; omega
theorem yF_rw (th : Int) (f : Nat → Bool) (m : Nat) (j : Nat) : ∀ i, yF th f (rwN s fa ri W mu B m i) j = if j < i then (if dueB s m j then decide (th ≤ vaN s fa ri W mu B m j) else f j) else f j
  | 0 => by simp [rwN, yF]
  | i + 1 => by
    have ih := yF_rw th f m j i
    rw [rwN, yF_app]
    by_cases hd : dueB s m i = true
    · rw [if_pos hd]
      have e : ∀ g : Nat → Bool, yF th g [⟨m, i, vaN s fa ri W mu B m i⟩] = clB g i (decide (th ≤ vaN s fa ri W mu B m i)) := fun g => rfl
      rw [e, clB]
      by_cases hj : j = i
      · subst hj
        rw [if_pos rfl, if_pos (by omega), if_pos hd]
      · rw [if_neg hj, ih]
        by_cases h2 : j < i
        · rw [if_pos h2, if_pos (show j < i + 1 by omega)]
        · rw [if_neg h2, if_neg (show ¬ j < i + 1 by omega)]
    · rw [if_neg hd]
      have e : ∀ g : Nat → Bool, yF th g [] = g := fun g => rfl
      rw [e, ih]
      by_cases hj : j = i
      · subst hj
        rw [if_neg (by omega), if_pos (by omega), if_neg hd]
      · by_cases h2 : j < i
        · rw [if_pos h2, if_pos (show j < i + 1 by omega)]
        · rw [if_neg h2, if_neg (show ¬ j < i + 1 by omega)]
/-- What a sensor says behind some minutes. -/
def yA (s : Nat → Nat → Int) (fa ri W mu : Int) (B : Nat → Bool) (th : Int) (j : Nat) : Nat → Bool
  | 0 => false
  | m + 1 => if dueB s m j then decide (th ≤ vaN s fa ri W mu B m j) else yA s fa ri W mu B th j m
theorem yF_al (th : Int) {j : Nat} (hj : j < n) : ∀ m, yF th (fun _ => false) (alN n s fa ri W mu B m) j = yA s fa ri W mu B th j m
  | 0 => by simp [alN, yF, yA]
  | m + 1 => by rw [alN, yF_app, yF_rw, if_pos hj, yF_al th hj m, yA]
/-- Nothing was read for a while. -/
theorem yA_skip {th : Int} {j m : Nat} : ∀ r, (∀ t, t < r → dueB s (m + t) j = false) → yA s fa ri W mu B th j (m + r) = yA s fa ri W mu B th j m
  | 0, _ => rfl
  | r + 1, h => by
    rw [← Nat.add_assoc, yA, if_neg (by rw [h r (by omega)]; decide)]
    exact yA_skip r fun t ht => h t (by omega)
theorem due_iff {m i : Nat} (h1 : 1 ≤ s i 1) : dueB s m i = true ↔ s i 0 ≤ m ∧ ((m : Int) - s i 0) % s i 1 = 0 := by
  unfold dueB
  simp only [Bool.not_eq_true', Bool.or_eq_false_iff, Bool.not_eq_false', decide_eq_false_iff_not, decide_eq_true_eq, Int.not_lt]
  constructor
  · rintro ⟨h2, h3⟩
    rw [Int.tmod_eq_emod_of_nonneg (by omega)] at h3
    exact ⟨h2, h3⟩
  · rintro ⟨h2, h3⟩
    rw [Int.tmod_eq_emod_of_nonneg (by omega)]
    exact ⟨h2, h3⟩
/-- A sensor that has not failed says yes in time. -/
theorem yA_yes {th : Int} {j M : Nat} (hth : 0 ≤ th ∧ th ≤ 1048576) (hri : 0 ≤ ri ∧ ri ≤ 1048576) (ok : (0 ≤ s j 0 ∧ s j 0 ≤ 2000) ∧ (1 ≤ s j 1 ∧ s j 1 ≤ 1000) ∧ 0 ≤ s j 2 ∧ s j 2 ≤ 1048576) (hW : W ≤ 1048576)
    (hof : ofV th ri (M : Int) (s j) ≤ W) (hb : bdN fa B j = false) : yA s fa ri W (M : Int) B th j (M + 1) = true := by
  have h0 : s j 0 ≤ M := by
    unfold ofV at hof
    split at hof
    · omega
    · omega
  obtain ⟨r, hr⟩ : ∃ r : Nat, ((M : Int) - s j 0) % s j 1 = r := ⟨(((M : Int) - s j 0) % s j 1).toNat, by have := Int.emod_nonneg ((M : Int) - s j 0) (show s j 1 ≠ 0 by omega); omega⟩
  have hr2 : (r : Int) < s j 1 := by rw [← hr]; exact Int.emod_lt_of_pos _ (by omega)
  have hr3 : (r : Int) ≤ (M : Int) - s j 0 := by
    have h1 := Int.mul_ediv_add_emod ((M : Int) - s j 0) (s j 1)
    have h2 := Int.mul_nonneg (show 0 ≤ s j 1 by omega) (Int.ediv_nonneg (show 0 ≤ (M : Int) - s j 0 by omega) (show 0 ≤ s j 1 by omega))
    omega
  obtain ⟨k, hk⟩ : ∃ k, M = k + r := ⟨M - r, by omega⟩
  have hd : ((k : Int) - s j 0) % s j 1 = 0 := by
    have e : (k : Int) - s j 0 = (M : Int) - s j 0 - ((M : Int) - s j 0) % s j 1 := by omega
    rw [e]
    exact Int.emod_eq_zero_of_dvd (Int.dvd_self_sub_emod)
  have hdue : dueB s k j = true := (due_iff ok.2.1.1).2 ⟨by omega, hd⟩
  have hsk : ∀ t, t < r → dueB s (k + 1 + t) j = false := fun t ht => by
    cases hc : dueB s (k + 1 + t) j with
    | false => rfl
    | true =>
      have h3 := ((due_iff ok.2.1.1).1 hc).2
      have e : ((k + 1 + t : Nat) : Int) - s j 0 = (k : Int) - s j 0 + (1 + (t : Int)) := by omega
      rw [e, Int.add_emod, hd, Int.zero_add, Int.emod_emod_of_dvd _ (Int.dvd_refl _), Int.emod_eq_of_lt (by omega) (by omega)] at h3
      omega
  have hs := yA_skip (s := s) (fa := fa) (ri := ri) (W := W) (mu := (M : Int)) (B := B) (th := th) (m := k + 1) r hsk
  rw [show M + 1 = k + 1 + r by omega, hs, yA, if_pos hdue, vaN, hb, if_neg (by decide)]
  have hmk : (M : Int) - (k : Int) = (r : Int) := by omega
  rw [hmk]
  have hM : (M : Int).sub (s j 0) = (M : Int) - s j 0 := rfl
  unfold ofV at hof
  rw [if_neg (by omega)] at hof
  rw [decide_eq_true_eq]
  split at hof
  · rename_i hz
    simp only [Bool.and_eq_true, decide_eq_true_eq] at hz
    omega
  · rw [Int.tmod_eq_emod_of_nonneg (by omega), hr] at hof
    generalize ri * (r : Int) = z at *
    omega
theorem fcN_eq : ∀ i, fcN fa B i = cnN (bdN fa B) i
  | 0 => rfl
  | i + 1 => by rw [fcN, cnN, fcN_eq i, bdN, fcN_eq i]
theorem fcN_le (h : 0 ≤ fa) : ∀ i, (fcN fa B i : Int) ≤ fa
  | 0 => by simpa [fcN] using h
  | i + 1 => by
    have ih := fcN_le h i
    rw [fcN]
    by_cases hd : (fcN fa B i : Int) < fa
    · have := b_le (B i && decide ((fcN fa B i : Int) < fa)); omega
    · rw [decide_eq_false hd, Bool.and_false]; exact ih
end
theorem cnN_sub {f g b : Nat → Bool} : ∀ n, (∀ i, i < n → f i = true → g i = true ∨ b i = true) → cnN f n ≤ cnN g n + cnN b n
  | 0, _ => Nat.zero_le _
  | n + 1, h => by
    have ih := cnN_sub (f := f) (g := g) (b := b) n (fun i hi => h i (by omega))
    have h1 := h n (by omega)
    simp only [cnN]
    cases hf : f n with
    | false => simp; omega
    | true =>
      rcases h1 hf with h2 | h2
      · rw [h2]; simp; omega
      · rw [h2]; simp; omega
theorem cnN_up {f : Nat → Bool} {n : Nat} : ∀ m, n ≤ m → cnN f n ≤ cnN f m
  | 0, h => by obtain rfl : n = 0 := by omega
               exact Nat.le_refl _
  | m + 1, h => by
    rcases Nat.lt_or_ge m n with g | g
    · obtain rfl : n = m + 1 := by omega
      exact Nat.le_refl _
    · have := cnN_up (f := f) m g
      rw [cnN]; omega
theorem alS_some {vo th : Int} {m : Nat} {l : Nat → Nat → Int} (h : hitB vo th m l m = true) : ∀ f k, 1 ≤ f → k + f = m → ∃ j, j < m ∧ alS vo th m l k f = some (l j 0)
  | 0, _, h1, _ => absurd h1 (by omega)
  | f + 1, k, _, h2 => by
    rw [alS]
    by_cases g : hitB vo th m l (k + 1) = true
    · rw [if_pos g]; exact ⟨k, by omega, rfl⟩
    · rw [if_neg g]
      rcases Nat.eq_zero_or_pos f with h3 | h3
      · exact absurd (by rw [show k + 1 = m by omega]; exact h) g
      · exact alS_some h f (k + 1) h3 (by omega)
/-- What Worst says, when it says something. -/
theorem wrO_ok {n : Nat} {s : Nat → Nat → Int} {vo fa th ri fr to : Int} (he : (wrO n s vo fa th ri fr to).e = 0) (hm : 0 ≤ (wrO n s vo fa th ri fr to).most) :
    voB n s vo fa = true ∧ (0 ≤ th ∧ th ≤ 1048576) ∧ (0 ≤ ri ∧ ri ≤ 1048576) ∧ (0 ≤ (wrO n s vo fa th ri fr to).minute ∧ (wrO n s vo fa th ri fr to).minute ≤ to) ∧
    (wrO n s vo fa th ri fr to).most + 1 ≤ 1048576 ∧ vo + fa ≤ (cnN (fun i => decide (ofV th ri (wrO n s vo fa th ri fr to).minute (s i) ≤ (wrO n s vo fa th ri fr to).most + 1)) n : Int) := by
  cases c1 : voB n s vo fa with
  | false =>
    have hO : wrO n s vo fa th ri fr to = ⟨0, 0, 1⟩ := by rw [wrO, c1]; rfl
    rw [hO] at he; exact absurd he (by decide)
  | true =>
  cases c2 : in3 th 0 1048576 && (in3 ri 0 1048576 && (in3 to 0 2000 && in3 fr 0 to)) with
  | false =>
    have hO : wrO n s vo fa th ri fr to = ⟨0, 0, 2⟩ := by rw [wrO, c1, c2]; rfl
    rw [hO] at he; exact absurd he (by decide)
  | true =>
  cases c3 : decide ((wrB n s vo fa th ri fr to).1 = 1048577) with
  | true =>
    have hO : wrO n s vo fa th ri fr to = ⟨0, 0, 4⟩ := by rw [wrO, c1, c2, c3]; rfl
    rw [hO] at he; exact absurd he (by decide)
  | false =>
  have hO : wrO n s vo fa th ri fr to = ⟨(wrB n s vo fa th ri fr to).1 - 1, (wrB n s vo fa th ri fr to).2, 0⟩ := by rw [wrO, c1, c2, c3]; rfl
  rw [hO] at hm ⊢
  simp only [] at hm ⊢
  simp only [Bool.and_eq_true, in3_iff] at c2
  simp only [decide_eq_false_iff_not] at c3
  obtain ⟨n1, n12, v1, vn, f0, fn, ok⟩ := voB_ok c1
  rcases woS_at (f := fun mi => suV n s vo fa th ri mi) (fr := fr) (to - fr + 1).toNat with h | ⟨j, h1, h2, h3⟩
  · change (wrB n s vo fa th ri fr to).1 = -1 at h
    omega
  change (wrB n s vo fa th ri fr to).2 = fr + j at h2
  change (wrB n s vo fa th ri fr to).1 = suV n s vo fa th ri (fr + j) at h3
  rw [h2]
  generalize (wrB n s vo fa th ri fr to).1 = X at *
  refine ⟨trivial, c2.1, c2.2.1, by omega, ?_⟩
  unfold suV at h3
  split at h3
  · rename_i hn
    simp only [decide_eq_true_eq] at hn
    have hk := kth_count (L := ofL th ri (fr + j) s n) (q := (vo + fa).toNat) (W := X) (by omega) (by rw [ofL_len]; omega) (by
      rw [show (vo + fa).toNat - 1 = (vo + fa - 1).toNat by omega]; omega)
    rw [ofL_count] at hk
    rw [show X - 1 + 1 = X by omega]
    refine ⟨by omega, by omega⟩
  · omega
/-- There is an alarm by then. -/
theorem steep {n : Nat} {s : Nat → Nat → Int} {vo fa th ri W : Int} {M : Nat} {B : Nat → Bool} (hvo : voB n s vo fa = true) (hth : 0 ≤ th ∧ th ≤ 1048576) (hri : 0 ≤ ri ∧ ri ≤ 1048576) (hM : M ≤ 60) (hW : 0 ≤ W ∧ W ≤ 1048576)
    (hc : vo + fa ≤ (cnN (fun i => decide (ofV th ri (M : Int) (s i) ≤ W)) n : Int)) {L : List Sn} (hL : L = alN n s fa ri W (M : Int) B (M + 1)) :
    L.length ≤ 732 ∧ (∀ k, k < L.length → lgV (sf L) k = true) ∧ (alO n s vo fa th L.length (sf L)).2 = 0 ∧ (alO n s vo fa th L.length (sf L)).1 ≤ M := by
  obtain ⟨n1, n12, v1, vn, f0, fn, ok⟩ := voB_ok hvo
  have hlen : L.length ≤ 732 := by
    have h1 := alN_len (n := n) (s := s) (fa := fa) (ri := ri) (W := W) (mu := (M : Int)) (B := B) (M + 1)
    have h2 : n * (M + 1) ≤ 12 * 61 := Nat.mul_le_mul n12 (by omega)
    rw [hL]; omega
  have hmem : ∀ k, (hk : k < L.length) → (0 ≤ sf L k 0 ∧ sf L k 0 ≤ (M : Int)) ∧ (0 ≤ sf L k 1 ∧ sf L k 1 ≤ (n : Int) - 1) ∧ -1048576 ≤ sf L k 2 ∧ sf L k 2 ≤ 2097152 := fun k hk => by
    have e0 : sf L k 0 = L[k].mi := by simp [sf, List.getD_eq_getElem?_getD, hk]
    have e1 : sf L k 1 = (L[k].se : Int) := by simp [sf, List.getD_eq_getElem?_getD, hk]
    have e2 : sf L k 2 = L[k].va := by simp [sf, List.getD_eq_getElem?_getD, hk]
    have hx : L[k] ∈ alN n s fa ri W (M : Int) B (M + 1) := by rw [← hL]; exact List.getElem_mem hk
    obtain ⟨⟨m, h1, h2, h3⟩, h4⟩ := alN_mem (M + 1) _ hx
    rw [e0, e1, e2]
    refine ⟨by omega, by omega, ?_⟩
    rw [h3, vaN]
    split
    · omega
    · have hs := (ok L[k].se h4).2.2
      have hz : 0 ≤ ri * ((M : Int) - (m : Int)) := Int.mul_nonneg hri.1 (by omega)
      generalize ri * ((M : Int) - (m : Int)) = z at hz
      omega
  have htim : ∀ k, k + 1 < L.length → sf L k 0 ≤ sf L (k + 1) 0 := fun k hk => by
    have e0 : sf L k 0 = (L[k]'(by omega)).mi := by simp [sf, List.getD_eq_getElem?_getD, show k < L.length by omega]
    have e1 : sf L (k + 1) 0 = L[k + 1].mi := by simp [sf, List.getD_eq_getElem?_getD, hk]
    rw [e0, e1]
    have ht : Tim L := by rw [hL]; exact alN_tim (M + 1)
    exact List.pairwise_iff_getElem.1 ht k (k + 1) (by omega) hk (by omega)
  refine ⟨hlen, fun k hk => ?_, ?_⟩
  · obtain ⟨h1, h2, h3⟩ := hmem k hk
    refine snB_iff.2 ⟨⟨?_, by omega⟩, ⟨h2.1, by omega⟩, h3⟩
    cases k with
    | zero => exact h1.1
    | succ k => exact htim k hk
  · have hck : ckA n (sf L) L.length = 0 := ckA_zero.2 fun k hk => by
      obtain ⟨h1, h2, h3⟩ := hmem k hk
      refine ckE_iff.2 ⟨by omega, h2, ?_⟩
      cases k with
      | zero => exact .inl rfl
      | succ k => right; exact htim k hk
    have hy : ∀ j, j < n → yB th (sf L) L.length j = yA s fa ri W (M : Int) B th j (M + 1) := fun j hj => by
      rw [yB_F th L L.length (Nat.le_refl _), List.take_of_length_le (Nat.le_refl _), hL, yF_al th hj]
    have hcount : vo ≤ (cnN (yB th (sf L) L.length) 12 : Int) := by
      have h1 := cnN_sub (f := fun i => decide (ofV th ri (M : Int) (s i) ≤ W)) (g := yB th (sf L) L.length) (b := bdN fa B) n (fun j hj hf => by
        cases hb : bdN fa B j with
        | true => exact .inr rfl
        | false =>
          left
          rw [hy j hj]
          exact yA_yes hth hri (ok j hj) hW.2 (by simpa using hf) hb)
      have h2 := cnN_up (f := yB th (sf L) L.length) 12 n12
      have h3 := fcN_le (B := B) f0 n
      rw [fcN_eq] at h3
      omega
    have hl1 : 1 ≤ L.length := by
      rcases Nat.eq_zero_or_pos L.length with h0 | h0
      · rw [h0] at hcount
        have : cnN (yB th (sf L) 0) 12 = 0 := rfl
        omega
      · exact h0
    have hhit : hitB vo th L.length (sf L) L.length = true := by
      rw [hitB, decide_eq_true rfl, Bool.true_or, Bool.true_and]
      exact decide_eq_true hcount
    obtain ⟨j, hj, hs⟩ := alS_some hhit L.length 0 hl1 (by omega)
    have hO : alO n s vo fa th L.length (sf L) = (sf L j 0, 0) := by
      rw [alO, hvo, if_pos rfl, if_pos (in3_iff.2 hth), if_pos (by omega), if_pos hck, hs]
    rw [hO]
    exact ⟨rfl, (hmem j hj).1.2⟩
end Go.Eng
end

/- Rounds that run apart: the iterator is walked for whatever a round does; a round is walked by itself. -/
section
namespace Go.Eng
set_option maxRecDepth 100000
open Go Go.RowKit Go.Proofs
set_option linter.unusedVariables false
noncomputable def cxs (hof : List Nat) (NL : List (Nat × BaseF)) (OL : List (Nat × Nat × BaseF)) (GL : List (Nat × BaseF)) (PL : List (Nat × Nat × Plan)) : Ctx := { cxn hof NL OL GL PL none with rs := true }
noncomputable def cxd (hof : List Nat) (NL : List (Nat × BaseF)) (OL : List (Nat × Nat × BaseF)) (GL : List (Nat × BaseF)) (PL : List (Nat × Nat × Plan)) : Ctx := { cxn hof NL OL GL PL none with rd := true }
section
variable (hof : List Nat) (NL : List (Nat × BaseF)) (OL : List (Nat × Nat × BaseF)) (GL : List (Nat × BaseF)) (PL : List (Nat × Nat × Plan))
theorem cxs_P : (cxs hof NL OL GL PL).P = Try.prog := rfl
theorem cxs_T : (cxs hof NL OL GL PL).T = tab := rfl
theorem cxs_F : (cxs hof NL OL GL PL).F = entB Try.prog := rfl
theorem cxs_FN (g : Nat) : (cxs hof NL OL GL PL).FN g = Try.prog.funcs[g]? := rfl
theorem cxs_inl (g : Nat) : (cxs hof NL OL GL PL).inl g = !memN hof g := rfl
theorem cxs_G (g : Nat) : (cxs hof NL OL GL PL).G g = mapN (lookG NL g) (mapS (lookG GL g) (lookO OL g)) := rfl
theorem cxs_plan (g id : Nat) : (cxs hof NL OL GL PL).plan g id = lookP PL g id := rfl
theorem cxs_D : (cxs hof NL OL GL PL).D = none := rfl
theorem cxs_rs : (cxs hof NL OL GL PL).rs = true := rfl
theorem cxs_rd : (cxs hof NL OL GL PL).rd = false := rfl
theorem cxs_off : (cxs hof NL OL GL PL).off = cxn hof NL OL GL PL none := rfl
theorem cxd_P : (cxd hof NL OL GL PL).P = Try.prog := rfl
theorem cxd_T : (cxd hof NL OL GL PL).T = tab := rfl
theorem cxd_F : (cxd hof NL OL GL PL).F = entB Try.prog := rfl
theorem cxd_FN (g : Nat) : (cxd hof NL OL GL PL).FN g = Try.prog.funcs[g]? := rfl
theorem cxd_inl (g : Nat) : (cxd hof NL OL GL PL).inl g = !memN hof g := rfl
theorem cxd_G (g : Nat) : (cxd hof NL OL GL PL).G g = mapN (lookG NL g) (mapS (lookG GL g) (lookO OL g)) := rfl
theorem cxd_plan (g id : Nat) : (cxd hof NL OL GL PL).plan g id = lookP PL g id := rfl
theorem cxd_D : (cxd hof NL OL GL PL).D = none := rfl
theorem cxd_rs : (cxd hof NL OL GL PL).rs = false := rfl
theorem cxd_rd : (cxd hof NL OL GL PL).rd = true := rfl
theorem cxd_off : (cxd hof NL OL GL PL).off = cxn hof NL OL GL PL none := rfl
end
theorem cxd_ok {hof : List Nat} {NL : List (Nat × BaseF)} {OL : List (Nat × Nat × BaseF)} {GL : List (Nat × BaseF)} {PL : List (Nat × Nat × Plan)} (hN : AllN NL) (hO : AllO OL) (h : AllB GL) : CtxOk (cxd hof NL OL GL PL) :=
  let c : CtxOk (cxn hof NL OL GL PL none) := cxn_ok hN hO h
  ⟨c.T, c.F, c.FN, c.G, c.mix⟩
attribute [go_sem] cxs_P cxs_T cxs_F cxs_FN cxs_inl cxs_G cxs_plan cxs_D cxs_rs cxs_rd cxs_off cxd_P cxd_T cxd_F cxd_FN cxd_inl cxd_G cxd_plan cxd_D cxd_rs cxd_rd cxd_off
end Go.Eng
end

/- alarm: Alarm. -/
section
namespace Go.Eng
open Go Go.RowKit Go.Proofs
set_option maxRecDepth 100000
set_option maxHeartbeats 4000000
attribute [local irreducible] OwnT DefS
theorem rounds_go {C : Ctx} (hC : CtxOk C) (hD : C.D = none) (hrd : C.rd = true) {nm rf : Nat} {rt : List SV} {assign body : Code} {h : HS} {K : SV → HS → Prop} (n : Nat) (hfn : (C.FN rf).isSome = true)
    (hrun : run C n rf [.code assign, .beginR, .code body, .endR nm] rt [] h (fun o h' => ∃ v, o = .rnd v ∧ K v h')) : RoundS C.P nm rf rt assign body h K := rounds_of_run hC hD hrd (fun _ _ h => h) n hfn hrun
def alarmBase : BaseF := fun args => match args with
  | [.agg [.row n sz_s f_s, .int .i64 vo, .int .i64 fa], .int .i64 th, .row m sz_l f_l] => some ((sz_s = 3 ∧ IntR n 3 f_s) ∧ (sz_l = 3 ∧ IntR m 3 f_l) ∧ (n ≤ 1000000 ∧ m ≤ 1000000), .tup [.int .i64 (alO n (ivf f_s) vo fa th m (ivf f_l)).1, .int .i64 (alO n (ivf f_s) vo fa th m (ivf f_l)).2])
  | _ => none
theorem alarm_eq (n : Nat) (sz_s : Nat) (f_s : Nat → Nat → SV) (vo : Int) (fa : Int) (th : Int) (m : Nat) (sz_l : Nat) (f_l : Nat → Nat → SV) : alarmBase [.agg [.row n sz_s f_s, .int .i64 vo, .int .i64 fa], .int .i64 th, .row m sz_l f_l] = some ((sz_s = 3 ∧ IntR n 3 f_s) ∧ (sz_l = 3 ∧ IntR m 3 f_l) ∧ (n ≤ 1000000 ∧ m ≤ 1000000), .tup [.int .i64 (alO n (ivf f_s) vo fa th m (ivf f_l)).1, .int .i64 (alO n (ivf f_s) vo fa th m (ivf f_l)).2]) := rfl
theorem alarm_base : Base Try.prog 22 alarmBase := by
  intro args p v hq hp
  unfold alarmBase at hq
  split at hq
  rotate_left
  · cases hq
  rename_i n sz_s f_s vo fa th m sz_l f_l
  cases hq
  obtain ⟨⟨rfl, i_s⟩, ⟨rfl, i_l⟩, pre⟩ := hp
  refine ⟨(by
    simp only [BdL, Bd, and_self, and_true, true_and]
    exact ⟨(fun i j hi hj => by rw [i_s i j hi hj]; trivial), (fun i j hi hj => by rw [i_l i j hi hj]; trivial)⟩), calls_mono (fun _ _ ⟨u, e1, e2, e3⟩ => ⟨u, e1, .inl ⟨e2, by rw [e3]; exact SameD.rfl' _⟩⟩) (calls_congr (args' := [.agg [.row n 3 (rowF .i64 (ivf f_s)), .int .i64 vo, .int .i64 fa], .int .i64 th, .row m 3 (rowF .i64 (ivf f_l))]) ⟨SameD.agg ⟨SameD.int i_s, SameD.rfl' _, SameD.rfl' _, trivial⟩, SameD.rfl' _, SameD.int i_l, trivial⟩ (calls_of_defer (C := cx [] [] [(72, isVotingBase), (73, isGasBase), (76, awithinBase), (78, countBase)] [(22, 12, p22_12), (22, 21, p22_21), (22, 23, p22_23), (22, 25, p22_25), (115, 2, p115_2), (115, 4, p115_4)] (some [6, 7])) (cx_ok trivial ⟨isVoting_base, isGas_base, awithin_base, count_base, trivial⟩) (g := 22) (fn := Try.f22) (fn_22) rfl rfl
    (args := [.agg [.row n 3 (rowF .i64 (ivf f_s)), .int .i64 vo, .int .i64 fa], .int .i64 th, .row m 3 (rowF .i64 (ivf f_l))]) (K := fun o h' => ∃ u, o = .ret u ∧ Fl u ∧ u = .tup [.int .i64 (alO n (ivf f_s) vo fa th m (ivf f_l)).1, .int .i64 (alO n (ivf f_s) vo fa th m (ivf f_l)).2]) 1000 1000 ?_))⟩
  generalize ivf f_s = s at *
  generalize ivf f_l = l at *
  simp only [rowF_eq]
  obtain ⟨pn, pm⟩ := pre
  cases c1 : voB n s vo fa with
  | false =>
    have hO : alO n s vo fa th m l = (0, 1) := by rw [alO, c1]; rfl
    simp only [c1, hO, isVoting_eq, isGas_eq, awithin_eq, count_eq, p22_12, p22_21, p22_23, p22_25, p115_2, p115_4, Try.f75, Try.f77, Try.f115, Try.f22, go_sem, ↓reduceIte, Nat.reduceAdd, Nat.reduceSub, Nat.reduceMul, Nat.reduceEqDiff, Nat.reduceLT, Nat.reduceLeDiff, Int.reduceToNat, Int.reduceLE, Int.reduceLT, Int.reduceEq, Int.reduceNeg, reduceCtorEq]
    exact pn
  | true =>
  have hv := voB_ok c1
  cases c2 : in3 th 0 1048576 with
  | false =>
    have hO : alO n s vo fa th m l = (0, 2) := by rw [alO, c1, c2]; rfl
    simp only [c1, c2, hO, isVoting_eq, isGas_eq, awithin_eq, count_eq, p22_12, p22_21, p22_23, p22_25, p115_2, p115_4, Try.f75, Try.f77, Try.f115, Try.f22, go_sem, ↓reduceIte, Nat.reduceAdd, Nat.reduceSub, Nat.reduceMul, Nat.reduceEqDiff, Nat.reduceLT, Nat.reduceLeDiff, Int.reduceToNat, Int.reduceLE, Int.reduceLT, Int.reduceEq, Int.reduceNeg, reduceCtorEq]
    exact pn
  | true =>
  have hth := in3_iff.1 c2
  cases c3 : decide (1024 < (m : Int)) with
  | true =>
    have hO : alO n s vo fa th m l = (0, 3) := by rw [alO, c1, c2, if_pos rfl, if_pos rfl, if_neg (by simp only [decide_eq_true_eq] at c3; omega)]
    simp only [c1, c2, c3, hO, isVoting_eq, isGas_eq, awithin_eq, count_eq, p22_12, p22_21, p22_23, p22_25, p115_2, p115_4, Try.f75, Try.f77, Try.f115, Try.f22, go_sem, ↓reduceIte, Nat.reduceAdd, Nat.reduceSub, Nat.reduceMul, Nat.reduceEqDiff, Nat.reduceLT, Nat.reduceLeDiff, Int.reduceToNat, Int.reduceLE, Int.reduceLT, Int.reduceEq, Int.reduceNeg, reduceCtorEq]
    exact pn
  | false =>
  have hm : m ≤ 1024 := by simp only [decide_eq_false_iff_not] at c3; omega
  have hO : alO n s vo fa th m l = if ckA n l m = 0 then (match alS vo th m l 0 m with | some x => (x, 0) | none => (0, 4)) else (0, ckA n l m) := by rw [alO, c1, c2, if_pos rfl, if_pos rfl, if_pos hm] <;> rfl
  simp only [c1, c2, c3, isVoting_eq, isGas_eq, awithin_eq, count_eq, p22_12, p22_21, p22_23, p22_25, p115_2, p115_4, Try.f75, Try.f77, Try.f115, Try.f22, go_sem, ↓reduceIte, Nat.reduceAdd, Nat.reduceSub, Nat.reduceMul, Nat.reduceEqDiff, Nat.reduceLT, Nat.reduceLeDiff, Int.reduceToNat, Int.reduceLE, Int.reduceLT, Int.reduceEq, Int.reduceNeg, reduceCtorEq]
  refine ⟨pn, ?_⟩
  have bad : ∀ (i : Nat) (e : Int), i < m → (∀ j, j < i → ckE n l j = 0) → ckE n l i = e → e ≠ 0 → alO n s vo fa th m l = (0, e) := fun i e hi h1 h2 h3 => by
    have h4 := ckA_first h1 (by rw [h2]; exact h3) m hi
    rw [hO, if_neg (by rw [h4, h2]; exact h3), h4, h2]
  refine loop_ofH { i : Nat // i ≤ m ∧ ∀ j, j < i → ckE n l j = 0 } (fun i => [(30, .int .i64 (i.1 : Int)), (29, .int .i64 (m : Int)), (28, .row m 3 fun i j => .int .i64 (l i j)), (7, .ptr 3 0), (6, .ptr 2 0), (4, .ptr 1 0), (3, .ptr 0 0), (2, .row m 3 fun i j => .int .i64 (l i j))]) (fun h _ => h) (fun i => m - i.1) (fun _ => ⟨rfl, rfl⟩) ⟨0, by omega, fun j hj => absurd hj (by omega)⟩ (by (apply sub_of <;> simp only [go_sem, ↓reduceIte, Nat.reduceAdd, Nat.reduceSub, Nat.reduceMul, Nat.reduceEqDiff, Nat.reduceLT, Nat.reduceLeDiff, Int.reduceToNat, Int.reduceLE, Int.reduceLT, Int.reduceEq, Int.reduceNeg, reduceCtorEq] <;> (try simp [catF]) <;> (try exact fun j _ => Bd_nth (by simp [BdL, Bd]) j) <;> (try exact bd_setL (by simp [bdAs, BdL, Bd])) <;> (try exact nestF_bd _ _ _ _ _ _ _ _ _))) ?_
  rintro ⟨i, hi, h3⟩
  simp only at hi h3 ⊢
  have hw3 : IntKind.i64.wrap ((i : Int) + 1) = ((i + 1 : Nat) : Int) := by rw [wrap_id (by omega) (by omega)]; omega
  by_cases him : i < m
  rotate_left
  · have d1 : decide ((i : Int) < (m : Int)) = false := decide_eq_false (by omega)
    obtain rfl : i = m := by omega
    simp only [d1, isVoting_eq, isGas_eq, awithin_eq, count_eq, p22_12, p22_21, p22_23, p22_25, p115_2, p115_4, Try.f75, Try.f77, Try.f115, Try.f22, go_sem, ↓reduceIte, Nat.reduceAdd, Nat.reduceSub, Nat.reduceMul, Nat.reduceEqDiff, Nat.reduceLT, Nat.reduceLeDiff, Int.reduceToNat, Int.reduceLE, Int.reduceLT, Int.reduceEq, Int.reduceNeg, reduceCtorEq]
    have hO2 : alO n s vo fa th i l = (match alS vo th i l 0 i with | some x => (x, 0) | none => (0, 4)) := by rw [hO, if_pos (ckA_zero.2 h3)]
    have hck := fun j hj => ckE_iff.1 (h3 j hj)
    refine loop_ofH { p : Nat × Nat // p.1 + p.2 = i ∧ alS vo th i l 0 i = alS vo th i l p.1 p.2 } (fun _ => [(1, .ptr 5 0), (0, .yield 6)]) (fun h p => ⟨[.live 82 [.row n 3 fun i j => .int .i64 (s i j), .int .i64 vo, .int .i64 fa], .live 3 [.int .i64 th], .live 3 [.int .i64 0], .live 27 [.int .i64 0], .live 3 [.int .i64 (mkN (yB th l p.1.1) 12 : Int)], .live 83 [.row p.1.2 3 fun a j => .int .i64 (l (p.1.1 + a) j)], getB h.blks 6], []⟩) (fun p => p.1.2) (fun _ => ⟨rfl, rfl⟩) ⟨(0, i), by omega, rfl⟩ (by
      have h0 : mkN (yB th l 0) 12 = 0 := rfl
      simp only [h0, Nat.zero_add]
      (apply sub_of <;> simp only [go_sem, ↓reduceIte, Nat.reduceAdd, Nat.reduceSub, Nat.reduceMul, Nat.reduceEqDiff, Nat.reduceLT, Nat.reduceLeDiff, Int.reduceToNat, Int.reduceLE, Int.reduceLT, Int.reduceEq, Int.reduceNeg, reduceCtorEq] <;> (try simp [catF]) <;> (try exact fun j _ => Bd_nth (by simp [BdL, Bd]) j) <;> (try exact bd_setL (by simp [bdAs, BdL, Bd])) <;> (try exact nestF_bd _ _ _ _ _ _ _ _ _))) ?_
    rintro ⟨⟨p, c0⟩, hp, hal⟩
    simp only at hp hal ⊢
    by_cases hc : 0 < c0
    rotate_left
    · have d2 : decide (0 < (c0 : Int)) = false := decide_eq_false (by omega)
      obtain rfl : c0 = 0 := by omega
      have hO3 : alO n s vo fa th i l = (0, 4) := by rw [hO2, hal]; rfl
      simp only [d2, hO3, isVoting_eq, isGas_eq, awithin_eq, count_eq, p22_12, p22_21, p22_23, p22_25, p115_2, p115_4, Try.f75, Try.f77, Try.f115, Try.f22, go_sem, ↓reduceIte, Nat.reduceAdd, Nat.reduceSub, Nat.reduceMul, Nat.reduceEqDiff, Nat.reduceLT, Nat.reduceLeDiff, Int.reduceToNat, Int.reduceLE, Int.reduceLT, Int.reduceEq, Int.reduceNeg, reduceCtorEq]
      refine defS_mono (def74_none _ _ _) ?_
      rintro p' h' ⟨rfl, rfl⟩
      simp only [isVoting_eq, isGas_eq, awithin_eq, count_eq, p22_12, p22_21, p22_23, p22_25, p115_2, p115_4, Try.f75, Try.f77, Try.f115, Try.f22, go_sem, ↓reduceIte, Nat.reduceAdd, Nat.reduceSub, Nat.reduceMul, Nat.reduceEqDiff, Nat.reduceLT, Nat.reduceLeDiff, Int.reduceToNat, Int.reduceLE, Int.reduceLT, Int.reduceEq, Int.reduceNeg, reduceCtorEq]
    have d2 : decide (0 < (c0 : Int)) = true := decide_eq_true (by omega)
    simp only [d2, isVoting_eq, isGas_eq, awithin_eq, count_eq, p22_12, p22_21, p22_23, p22_25, p115_2, p115_4, Try.f75, Try.f77, Try.f115, Try.f22, go_sem, ↓reduceIte, Nat.reduceAdd, Nat.reduceSub, Nat.reduceMul, Nat.reduceEqDiff, Nat.reduceLT, Nat.reduceLeDiff, Int.reduceToNat, Int.reduceLE, Int.reduceLT, Int.reduceEq, Int.reduceNeg, reduceCtorEq]
    refine loop_ofH { c : Nat // 1 ≤ c ∧ c ≤ c0 ∧ ∀ j, 1 ≤ j → j < c → l (p + j) 0 = l p 0 } (fun c => [(3, .int .i64 (c.1 : Int)), (1, .ptr 5 0), (0, .yield 6)]) (fun h _ => h) (fun c => c0 - c.1) (fun _ => ⟨rfl, rfl⟩) ⟨1, by omega, by omega, fun j h1 h2 => absurd h1 (by omega)⟩ (by (apply sub_of <;> simp only [go_sem, ↓reduceIte, Nat.reduceAdd, Nat.reduceSub, Nat.reduceMul, Nat.reduceEqDiff, Nat.reduceLT, Nat.reduceLeDiff, Int.reduceToNat, Int.reduceLE, Int.reduceLT, Int.reduceEq, Int.reduceNeg, reduceCtorEq] <;> (try simp [catF]) <;> (try exact fun j _ => Bd_nth (by simp [BdL, Bd]) j) <;> (try exact bd_setL (by simp [bdAs, BdL, Bd])) <;> (try exact nestF_bd _ _ _ _ _ _ _ _ _))) ?_
    rintro ⟨c, hc1, hc2, hc3⟩
    simp only at hc1 hc2 hc3 ⊢
    have wc : IntKind.i64.wrap ((c : Int) + 1) = ((c + 1 : Nat) : Int) := by rw [wrap_id (by omega) (by omega)]; omega
    cases g1 : decide (c < c0) && decide (l (p + c) 0 = l p 0) with
    | true =>
      simp only [Bool.and_eq_true, decide_eq_true_eq] at g1
      have g2 : decide ((c : Int) < (c0 : Int)) = true := decide_eq_true (by omega)
      have g3 : decide (l (p + c) 0 = l p 0) = true := decide_eq_true g1.2
      simp only [g2, g3, Int.toNat_natCast, Nat.add_zero, isVoting_eq, isGas_eq, awithin_eq, count_eq, p22_12, p22_21, p22_23, p22_25, p115_2, p115_4, Try.f75, Try.f77, Try.f115, Try.f22, go_sem, ↓reduceIte, Nat.reduceAdd, Nat.reduceSub, Nat.reduceMul, Nat.reduceEqDiff, Nat.reduceLT, Nat.reduceLeDiff, Int.reduceToNat, Int.reduceLE, Int.reduceLT, Int.reduceEq, Int.reduceNeg, reduceCtorEq]
      refine ⟨⟨by kernel_rfl, by kernel_rfl⟩, ⟨by omega, by omega⟩, by omega, ⟨c + 1, by omega, by omega, fun j h1 h2 => ?_⟩, by simp only []; omega, ?_⟩
      · rcases Nat.lt_or_ge j c with g | g
        · exact hc3 j h1 g
        · obtain rfl : j = c := by omega
          exact g1.2
      · apply sub_of <;> simp only [wc, go_sem, ↓reduceIte, Nat.reduceAdd, Nat.reduceSub, Nat.reduceMul, Nat.reduceEqDiff, Nat.reduceLT, Nat.reduceLeDiff, Int.reduceToNat, Int.reduceLE, Int.reduceLT, Int.reduceEq, Int.reduceNeg, reduceCtorEq] <;> (try simp) <;> (try exact fun j _ => Bd_nth (by simp [BdL, Bd]) j) <;> (try exact bd_setL (by simp [bdAs, BdL, Bd])) <;> (try exact nestF_bd _ _ _ _ _ _ _ _ _)
    | false =>
      have hend : p + c = i ∨ ¬ l (p + c) 0 = l p 0 := by
        simp only [Bool.and_eq_false_iff, decide_eq_false_iff_not] at g1
        omega
      have hal2 := alS_end (vo := vo) (th := th) hc1 hc2 hp hc3 hend
      by_cases g2 : c < c0
      · have g4 : decide ((c : Int) < (c0 : Int)) = true := decide_eq_true (by omega)
        have g3 : decide (l (p + c) 0 = l p 0) = false := decide_eq_false (by omega)
        simp only [g4, g3, Int.toNat_natCast, Nat.add_zero, isVoting_eq, isGas_eq, awithin_eq, count_eq, p22_12, p22_21, p22_23, p22_25, p115_2, p115_4, Try.f75, Try.f77, Try.f115, Try.f22, go_sem, ↓reduceIte, Nat.reduceAdd, Nat.reduceSub, Nat.reduceMul, Nat.reduceEqDiff, Nat.reduceLT, Nat.reduceLeDiff, Int.reduceToNat, Int.reduceLE, Int.reduceLT, Int.reduceEq, Int.reduceNeg, reduceCtorEq]
        refine ⟨⟨by kernel_rfl, by kernel_rfl⟩, ⟨by omega, by omega⟩, by omega, ⟨by kernel_rfl, by kernel_rfl⟩, by omega, ⟨by omega, by omega⟩, ?_⟩
        refine rounds_go (C := cxd [] [] [] [(78, countBase)] [(22, 21, p22_21), (22, 23, p22_23), (22, 25, p22_25)]) (cxd_ok trivial trivial ⟨count_base, trivial⟩) rfl rfl 1000 rfl ?_
        simp only [Int.toNat_natCast, Nat.add_zero, isVoting_eq, isGas_eq, awithin_eq, count_eq, p22_12, p22_21, p22_23, p22_25, p115_2, p115_4, Try.f75, Try.f77, Try.f115, Try.f22, go_sem, ↓reduceIte, Nat.reduceAdd, Nat.reduceSub, Nat.reduceMul, Nat.reduceEqDiff, Nat.reduceLT, Nat.reduceLeDiff, Int.reduceToNat, Int.reduceLE, Int.reduceLT, Int.reduceEq, Int.reduceNeg, reduceCtorEq]
        refine loop_ofH { k : Nat // k ≤ c } (fun k => [(69, .int .i64 (k.1 : Int)), (68, .int .i64 (c : Int)), (67, .row c 3 fun a j => .int .i64 (l (p + a) j)), (11, .int .i64 (l p 0)), (10, .ptr 4 0), (7, .ptr 3 0), (6, .ptr 2 0), (4, .ptr 1 0), (3, .ptr 0 0)]) (fun h k => ⟨[.live 82 [.row n 3 fun i j => .int .i64 (s i j), .int .i64 vo, .int .i64 fa], .live 3 [.int .i64 th], .live 3 [.int .i64 0], .live 27 [.int .i64 0], .live 3 [.int .i64 (mkN (yB th l (p + k.1)) 12 : Int)], .live 83 [.row c0 3 fun a j => .int .i64 (l (p + a) j)], getB h.blks 6], []⟩) (fun k => c - k.1) (fun _ => ⟨rfl, rfl⟩) ⟨0, by omega⟩ (by simp only [Nat.add_zero]; (apply sub_of <;> simp only [go_sem, ↓reduceIte, Nat.reduceAdd, Nat.reduceSub, Nat.reduceMul, Nat.reduceEqDiff, Nat.reduceLT, Nat.reduceLeDiff, Int.reduceToNat, Int.reduceLE, Int.reduceLT, Int.reduceEq, Int.reduceNeg, reduceCtorEq] <;> (try simp [catF]) <;> (try exact fun j _ => Bd_nth (by simp [BdL, Bd]) j) <;> (try exact bd_setL (by simp [bdAs, BdL, Bd])) <;> (try exact nestF_bd _ _ _ _ _ _ _ _ _))) ?_
        rintro ⟨k, hk⟩
        simp only at hk ⊢
        have wk : IntKind.i64.wrap ((k : Int) + 1) = ((k + 1 : Nat) : Int) := by rw [wrap_id (by omega) (by omega)]; omega
        by_cases hkc : k < c
        rotate_left
        · obtain rfl : k = c := by omega
          have e1 : decide ((k : Int) < (k : Int)) = false := decide_eq_false (by omega)
          have e2 := mkN_lt (yB th l (p + k)) 12
          have hx : (0 : Int) ≤ (mkN (yB th l (p + k)) 12 : Int) ∧ (mkN (yB th l (p + k)) 12 : Int) < 4096 := by omega
          cases e3 : decide (vo ≤ (cnN (yB th l (p + k)) 12 : Int)) with
          | true =>
            rw [e3, if_pos rfl] at hal2
            have hO3 : alO n s vo fa th i l = (l p 0, 0) := by rw [hO2, hal, hal2]
            simp only [e1, e3, cnN_mk, Int.toNat_natCast, p22_25, popR, cxd_D, cxd_rd, isVoting_eq, isGas_eq, awithin_eq, count_eq, p22_12, p22_21, p22_23, p22_25, p115_2, p115_4, Try.f75, Try.f77, Try.f115, Try.f22, go_sem, ↓reduceIte, Nat.reduceAdd, Nat.reduceSub, Nat.reduceMul, Nat.reduceEqDiff, Nat.reduceLT, Nat.reduceLeDiff, Int.reduceToNat, Int.reduceLE, Int.reduceLT, Int.reduceEq, Int.reduceNeg, reduceCtorEq]
            refine ⟨⟨by kernel_rfl, by kernel_rfl⟩, hx, _, rfl, ?_⟩
            simp only [hO3, popR, cxd_D, cxd_rd, Option.isNone_some, Bool.not_false, Bool.false_eq_true, isVoting_eq, isGas_eq, awithin_eq, count_eq, p22_12, p22_21, p22_23, p22_25, p115_2, p115_4, Try.f75, Try.f77, Try.f115, Try.f22, go_sem, ↓reduceIte, Nat.reduceAdd, Nat.reduceSub, Nat.reduceMul, Nat.reduceEqDiff, Nat.reduceLT, Nat.reduceLeDiff, Int.reduceToNat, Int.reduceLE, Int.reduceLT, Int.reduceEq, Int.reduceNeg, reduceCtorEq]
            refine defS_mono (def74_none _ _ _) ?_
            rintro p' h' ⟨rfl, rfl⟩
            simp only [isVoting_eq, isGas_eq, awithin_eq, count_eq, p22_12, p22_21, p22_23, p22_25, p115_2, p115_4, Try.f75, Try.f77, Try.f115, Try.f22, go_sem, ↓reduceIte, Nat.reduceAdd, Nat.reduceSub, Nat.reduceMul, Nat.reduceEqDiff, Nat.reduceLT, Nat.reduceLeDiff, Int.reduceToNat, Int.reduceLE, Int.reduceLT, Int.reduceEq, Int.reduceNeg, reduceCtorEq]
          | false =>
            rw [e3] at hal2
            simp only [e1, e3, cnN_mk, Int.toNat_natCast, p22_25, popR, cxd_D, cxd_rd, isVoting_eq, isGas_eq, awithin_eq, count_eq, p22_12, p22_21, p22_23, p22_25, p115_2, p115_4, Try.f75, Try.f77, Try.f115, Try.f22, go_sem, ↓reduceIte, Nat.reduceAdd, Nat.reduceSub, Nat.reduceMul, Nat.reduceEqDiff, Nat.reduceLT, Nat.reduceLeDiff, Int.reduceToNat, Int.reduceLE, Int.reduceLT, Int.reduceEq, Int.reduceNeg, reduceCtorEq]
            refine ⟨⟨by kernel_rfl, by kernel_rfl⟩, hx, _, rfl, ?_⟩
            simp only [popR, cxd_D, cxd_rd, isVoting_eq, isGas_eq, awithin_eq, count_eq, p22_12, p22_21, p22_23, p22_25, p115_2, p115_4, Try.f75, Try.f77, Try.f115, Try.f22, go_sem, ↓reduceIte, Nat.reduceAdd, Nat.reduceSub, Nat.reduceMul, Nat.reduceEqDiff, Nat.reduceLT, Nat.reduceLeDiff, Int.reduceToNat, Int.reduceLE, Int.reduceLT, Int.reduceEq, Int.reduceNeg, reduceCtorEq]
            refine ⟨⟨by omega, by omega⟩, ⟨(p + k, c0 - k), by omega, by rw [hal, hal2]; rfl⟩, by simp only []; omega, ?_⟩
            apply sub_of <;> simp only [go_sem, ↓reduceIte, Nat.reduceAdd, Nat.reduceSub, Nat.reduceMul, Nat.reduceEqDiff, Nat.reduceLT, Nat.reduceLeDiff, Int.reduceToNat, Int.reduceLE, Int.reduceLT, Int.reduceEq, Int.reduceNeg, reduceCtorEq] <;> (try simp) <;> (try exact fun j _ => Bd_nth (by simp [BdL, Bd]) j) <;> (try exact bd_setL (by simp [bdAs, BdL, Bd])) <;> (try exact nestF_bd _ _ _ _ _ _ _ _ _)
            exact fun a j _ _ => by rw [Nat.add_assoc]
        have e1 : decide ((k : Int) < (c : Int)) = true := decide_eq_true (by omega)
        have hse := (hck (p + k) (by omega)).2.1
        obtain ⟨se, hse1⟩ : ∃ se : Nat, l (p + k) 1 = se := ⟨(l (p + k) 1).toNat, by omega⟩
        have hse2 : se < 12 := by have := hv.n12; omega
        have s1 := one_shl hse2
        have s2 := mkN_clr (f := yB th l (p + k)) hse2
        have s3 := mkN_set (f := clB (yB th l (p + k)) se false) hse2
        rw [clB_two] at s3
        have hy : yB th l (p + k + 1) = clB (yB th l (p + k)) se (decide (th ≤ l (p + k) 2)) := by rw [yB, hse1, Int.toNat_natCast]
        cases e4 : decide (th ≤ l (p + k) 2) with
        | true =>
          rw [e4] at hy
          simp only [e1, e4, hse1, s1, s2, s3, Int.toNat_natCast, p22_21, p22_23, isVoting_eq, isGas_eq, awithin_eq, count_eq, p22_12, p22_21, p22_23, p22_25, p115_2, p115_4, Try.f75, Try.f77, Try.f115, Try.f22, go_sem, ↓reduceIte, Nat.reduceAdd, Nat.reduceSub, Nat.reduceMul, Nat.reduceEqDiff, Nat.reduceLT, Nat.reduceLeDiff, Int.reduceToNat, Int.reduceLE, Int.reduceLT, Int.reduceEq, Int.reduceNeg, reduceCtorEq]
          refine ⟨⟨by omega, by omega⟩, ⟨by kernel_rfl, by kernel_rfl⟩, by omega, ⟨by kernel_rfl, by kernel_rfl⟩, by omega, ⟨k + 1, by omega⟩, by simp only []; omega, ?_⟩
          rw [← hy]
          apply sub_of <;> simp only [wk, Nat.add_assoc, go_sem, ↓reduceIte, Nat.reduceAdd, Nat.reduceSub, Nat.reduceMul, Nat.reduceEqDiff, Nat.reduceLT, Nat.reduceLeDiff, Int.reduceToNat, Int.reduceLE, Int.reduceLT, Int.reduceEq, Int.reduceNeg, reduceCtorEq] <;> (try simp) <;> (try exact fun j _ => Bd_nth (by simp [BdL, Bd]) j) <;> (try exact bd_setL (by simp [bdAs, BdL, Bd])) <;> (try exact nestF_bd _ _ _ _ _ _ _ _ _)
        | false =>
          rw [e4] at hy
          simp only [e1, e4, hse1, s1, s2, Int.toNat_natCast, p22_21, p22_23, isVoting_eq, isGas_eq, awithin_eq, count_eq, p22_12, p22_21, p22_23, p22_25, p115_2, p115_4, Try.f75, Try.f77, Try.f115, Try.f22, go_sem, ↓reduceIte, Nat.reduceAdd, Nat.reduceSub, Nat.reduceMul, Nat.reduceEqDiff, Nat.reduceLT, Nat.reduceLeDiff, Int.reduceToNat, Int.reduceLE, Int.reduceLT, Int.reduceEq, Int.reduceNeg, reduceCtorEq]
          refine ⟨⟨by omega, by omega⟩, ⟨by kernel_rfl, by kernel_rfl⟩, by omega, ⟨k + 1, by omega⟩, by simp only []; omega, ?_⟩
          rw [← hy]
          apply sub_of <;> simp only [wk, Nat.add_assoc, go_sem, ↓reduceIte, Nat.reduceAdd, Nat.reduceSub, Nat.reduceMul, Nat.reduceEqDiff, Nat.reduceLT, Nat.reduceLeDiff, Int.reduceToNat, Int.reduceLE, Int.reduceLT, Int.reduceEq, Int.reduceNeg, reduceCtorEq] <;> (try simp) <;> (try exact fun j _ => Bd_nth (by simp [BdL, Bd]) j) <;> (try exact bd_setL (by simp [bdAs, BdL, Bd])) <;> (try exact nestF_bd _ _ _ _ _ _ _ _ _)
      · have g4 : decide ((c : Int) < (c0 : Int)) = false := decide_eq_false (by omega)
        simp only [g4, Int.toNat_natCast, Nat.add_zero, isVoting_eq, isGas_eq, awithin_eq, count_eq, p22_12, p22_21, p22_23, p22_25, p115_2, p115_4, Try.f75, Try.f77, Try.f115, Try.f22, go_sem, ↓reduceIte, Nat.reduceAdd, Nat.reduceSub, Nat.reduceMul, Nat.reduceEqDiff, Nat.reduceLT, Nat.reduceLeDiff, Int.reduceToNat, Int.reduceLE, Int.reduceLT, Int.reduceEq, Int.reduceNeg, reduceCtorEq]
        refine ⟨⟨by kernel_rfl, by kernel_rfl⟩, ⟨by kernel_rfl, by kernel_rfl⟩, by omega, ⟨by omega, by omega⟩, ?_⟩
        refine rounds_go (C := cxd [] [] [] [(78, countBase)] [(22, 21, p22_21), (22, 23, p22_23), (22, 25, p22_25)]) (cxd_ok trivial trivial ⟨count_base, trivial⟩) rfl rfl 1000 rfl ?_
        simp only [Int.toNat_natCast, Nat.add_zero, isVoting_eq, isGas_eq, awithin_eq, count_eq, p22_12, p22_21, p22_23, p22_25, p115_2, p115_4, Try.f75, Try.f77, Try.f115, Try.f22, go_sem, ↓reduceIte, Nat.reduceAdd, Nat.reduceSub, Nat.reduceMul, Nat.reduceEqDiff, Nat.reduceLT, Nat.reduceLeDiff, Int.reduceToNat, Int.reduceLE, Int.reduceLT, Int.reduceEq, Int.reduceNeg, reduceCtorEq]
        refine loop_ofH { k : Nat // k ≤ c } (fun k => [(69, .int .i64 (k.1 : Int)), (68, .int .i64 (c : Int)), (67, .row c 3 fun a j => .int .i64 (l (p + a) j)), (11, .int .i64 (l p 0)), (10, .ptr 4 0), (7, .ptr 3 0), (6, .ptr 2 0), (4, .ptr 1 0), (3, .ptr 0 0)]) (fun h k => ⟨[.live 82 [.row n 3 fun i j => .int .i64 (s i j), .int .i64 vo, .int .i64 fa], .live 3 [.int .i64 th], .live 3 [.int .i64 0], .live 27 [.int .i64 0], .live 3 [.int .i64 (mkN (yB th l (p + k.1)) 12 : Int)], .live 83 [.row c0 3 fun a j => .int .i64 (l (p + a) j)], getB h.blks 6], []⟩) (fun k => c - k.1) (fun _ => ⟨rfl, rfl⟩) ⟨0, by omega⟩ (by simp only [Nat.add_zero]; (apply sub_of <;> simp only [go_sem, ↓reduceIte, Nat.reduceAdd, Nat.reduceSub, Nat.reduceMul, Nat.reduceEqDiff, Nat.reduceLT, Nat.reduceLeDiff, Int.reduceToNat, Int.reduceLE, Int.reduceLT, Int.reduceEq, Int.reduceNeg, reduceCtorEq] <;> (try simp [catF]) <;> (try exact fun j _ => Bd_nth (by simp [BdL, Bd]) j) <;> (try exact bd_setL (by simp [bdAs, BdL, Bd])) <;> (try exact nestF_bd _ _ _ _ _ _ _ _ _))) ?_
        rintro ⟨k, hk⟩
        simp only at hk ⊢
        have wk : IntKind.i64.wrap ((k : Int) + 1) = ((k + 1 : Nat) : Int) := by rw [wrap_id (by omega) (by omega)]; omega
        by_cases hkc : k < c
        rotate_left
        · obtain rfl : k = c := by omega
          have e1 : decide ((k : Int) < (k : Int)) = false := decide_eq_false (by omega)
          have e2 := mkN_lt (yB th l (p + k)) 12
          have hx : (0 : Int) ≤ (mkN (yB th l (p + k)) 12 : Int) ∧ (mkN (yB th l (p + k)) 12 : Int) < 4096 := by omega
          cases e3 : decide (vo ≤ (cnN (yB th l (p + k)) 12 : Int)) with
          | true =>
            rw [e3, if_pos rfl] at hal2
            have hO3 : alO n s vo fa th i l = (l p 0, 0) := by rw [hO2, hal, hal2]
            simp only [e1, e3, cnN_mk, Int.toNat_natCast, p22_25, popR, cxd_D, cxd_rd, isVoting_eq, isGas_eq, awithin_eq, count_eq, p22_12, p22_21, p22_23, p22_25, p115_2, p115_4, Try.f75, Try.f77, Try.f115, Try.f22, go_sem, ↓reduceIte, Nat.reduceAdd, Nat.reduceSub, Nat.reduceMul, Nat.reduceEqDiff, Nat.reduceLT, Nat.reduceLeDiff, Int.reduceToNat, Int.reduceLE, Int.reduceLT, Int.reduceEq, Int.reduceNeg, reduceCtorEq]
            refine ⟨⟨by kernel_rfl, by kernel_rfl⟩, hx, _, rfl, ?_⟩
            simp only [hO3, popR, cxd_D, cxd_rd, Option.isNone_some, Bool.not_false, Bool.false_eq_true, isVoting_eq, isGas_eq, awithin_eq, count_eq, p22_12, p22_21, p22_23, p22_25, p115_2, p115_4, Try.f75, Try.f77, Try.f115, Try.f22, go_sem, ↓reduceIte, Nat.reduceAdd, Nat.reduceSub, Nat.reduceMul, Nat.reduceEqDiff, Nat.reduceLT, Nat.reduceLeDiff, Int.reduceToNat, Int.reduceLE, Int.reduceLT, Int.reduceEq, Int.reduceNeg, reduceCtorEq]
            refine defS_mono (def74_none _ _ _) ?_
            rintro p' h' ⟨rfl, rfl⟩
            simp only [isVoting_eq, isGas_eq, awithin_eq, count_eq, p22_12, p22_21, p22_23, p22_25, p115_2, p115_4, Try.f75, Try.f77, Try.f115, Try.f22, go_sem, ↓reduceIte, Nat.reduceAdd, Nat.reduceSub, Nat.reduceMul, Nat.reduceEqDiff, Nat.reduceLT, Nat.reduceLeDiff, Int.reduceToNat, Int.reduceLE, Int.reduceLT, Int.reduceEq, Int.reduceNeg, reduceCtorEq]
          | false =>
            rw [e3] at hal2
            simp only [e1, e3, cnN_mk, Int.toNat_natCast, p22_25, popR, cxd_D, cxd_rd, isVoting_eq, isGas_eq, awithin_eq, count_eq, p22_12, p22_21, p22_23, p22_25, p115_2, p115_4, Try.f75, Try.f77, Try.f115, Try.f22, go_sem, ↓reduceIte, Nat.reduceAdd, Nat.reduceSub, Nat.reduceMul, Nat.reduceEqDiff, Nat.reduceLT, Nat.reduceLeDiff, Int.reduceToNat, Int.reduceLE, Int.reduceLT, Int.reduceEq, Int.reduceNeg, reduceCtorEq]
            refine ⟨⟨by kernel_rfl, by kernel_rfl⟩, hx, _, rfl, ?_⟩
            simp only [popR, cxd_D, cxd_rd, isVoting_eq, isGas_eq, awithin_eq, count_eq, p22_12, p22_21, p22_23, p22_25, p115_2, p115_4, Try.f75, Try.f77, Try.f115, Try.f22, go_sem, ↓reduceIte, Nat.reduceAdd, Nat.reduceSub, Nat.reduceMul, Nat.reduceEqDiff, Nat.reduceLT, Nat.reduceLeDiff, Int.reduceToNat, Int.reduceLE, Int.reduceLT, Int.reduceEq, Int.reduceNeg, reduceCtorEq]
            refine ⟨⟨by omega, by omega⟩, ⟨(p + k, c0 - k), by omega, by rw [hal, hal2]; rfl⟩, by simp only []; omega, ?_⟩
            apply sub_of <;> simp only [go_sem, ↓reduceIte, Nat.reduceAdd, Nat.reduceSub, Nat.reduceMul, Nat.reduceEqDiff, Nat.reduceLT, Nat.reduceLeDiff, Int.reduceToNat, Int.reduceLE, Int.reduceLT, Int.reduceEq, Int.reduceNeg, reduceCtorEq] <;> (try simp) <;> (try exact fun j _ => Bd_nth (by simp [BdL, Bd]) j) <;> (try exact bd_setL (by simp [bdAs, BdL, Bd])) <;> (try exact nestF_bd _ _ _ _ _ _ _ _ _)
            exact fun a j _ _ => by rw [Nat.add_assoc]
        have e1 : decide ((k : Int) < (c : Int)) = true := decide_eq_true (by omega)
        have hse := (hck (p + k) (by omega)).2.1
        obtain ⟨se, hse1⟩ : ∃ se : Nat, l (p + k) 1 = se := ⟨(l (p + k) 1).toNat, by omega⟩
        have hse2 : se < 12 := by have := hv.n12; omega
        have s1 := one_shl hse2
        have s2 := mkN_clr (f := yB th l (p + k)) hse2
        have s3 := mkN_set (f := clB (yB th l (p + k)) se false) hse2
        rw [clB_two] at s3
        have hy : yB th l (p + k + 1) = clB (yB th l (p + k)) se (decide (th ≤ l (p + k) 2)) := by rw [yB, hse1, Int.toNat_natCast]
        cases e4 : decide (th ≤ l (p + k) 2) with
        | true =>
          rw [e4] at hy
          simp only [e1, e4, hse1, s1, s2, s3, Int.toNat_natCast, p22_21, p22_23, isVoting_eq, isGas_eq, awithin_eq, count_eq, p22_12, p22_21, p22_23, p22_25, p115_2, p115_4, Try.f75, Try.f77, Try.f115, Try.f22, go_sem, ↓reduceIte, Nat.reduceAdd, Nat.reduceSub, Nat.reduceMul, Nat.reduceEqDiff, Nat.reduceLT, Nat.reduceLeDiff, Int.reduceToNat, Int.reduceLE, Int.reduceLT, Int.reduceEq, Int.reduceNeg, reduceCtorEq]
          refine ⟨⟨by omega, by omega⟩, ⟨by kernel_rfl, by kernel_rfl⟩, by omega, ⟨by kernel_rfl, by kernel_rfl⟩, by omega, ⟨k + 1, by omega⟩, by simp only []; omega, ?_⟩
          rw [← hy]
          apply sub_of <;> simp only [wk, Nat.add_assoc, go_sem, ↓reduceIte, Nat.reduceAdd, Nat.reduceSub, Nat.reduceMul, Nat.reduceEqDiff, Nat.reduceLT, Nat.reduceLeDiff, Int.reduceToNat, Int.reduceLE, Int.reduceLT, Int.reduceEq, Int.reduceNeg, reduceCtorEq] <;> (try simp) <;> (try exact fun j _ => Bd_nth (by simp [BdL, Bd]) j) <;> (try exact bd_setL (by simp [bdAs, BdL, Bd])) <;> (try exact nestF_bd _ _ _ _ _ _ _ _ _)
        | false =>
          rw [e4] at hy
          simp only [e1, e4, hse1, s1, s2, Int.toNat_natCast, p22_21, p22_23, isVoting_eq, isGas_eq, awithin_eq, count_eq, p22_12, p22_21, p22_23, p22_25, p115_2, p115_4, Try.f75, Try.f77, Try.f115, Try.f22, go_sem, ↓reduceIte, Nat.reduceAdd, Nat.reduceSub, Nat.reduceMul, Nat.reduceEqDiff, Nat.reduceLT, Nat.reduceLeDiff, Int.reduceToNat, Int.reduceLE, Int.reduceLT, Int.reduceEq, Int.reduceNeg, reduceCtorEq]
          refine ⟨⟨by omega, by omega⟩, ⟨by kernel_rfl, by kernel_rfl⟩, by omega, ⟨k + 1, by omega⟩, by simp only []; omega, ?_⟩
          rw [← hy]
          apply sub_of <;> simp only [wk, Nat.add_assoc, go_sem, ↓reduceIte, Nat.reduceAdd, Nat.reduceSub, Nat.reduceMul, Nat.reduceEqDiff, Nat.reduceLT, Nat.reduceLeDiff, Int.reduceToNat, Int.reduceLE, Int.reduceLT, Int.reduceEq, Int.reduceNeg, reduceCtorEq] <;> (try simp) <;> (try exact fun j _ => Bd_nth (by simp [BdL, Bd]) j) <;> (try exact bd_setL (by simp [bdAs, BdL, Bd])) <;> (try exact nestF_bd _ _ _ _ _ _ _ _ _)
  have d1 : decide ((i : Int) < (m : Int)) = true := decide_eq_true (by omega)
  have w1 : IntKind.i64.wrap ((n : Int) - 1) = (n : Int) - 1 := wrap_id (by omega) (by omega)
  cases k1 : in3 (l i 0) 0 1048576 with
  | false =>
    have hE := bad i 1 him h3 (by rw [ckE, k1]; rfl) (by decide)
    simp only [d1, k1, w1, Int.toNat_natCast, isVoting_eq, isGas_eq, awithin_eq, count_eq, p22_12, p22_21, p22_23, p22_25, p115_2, p115_4, Try.f75, Try.f77, Try.f115, Try.f22, go_sem, ↓reduceIte, Nat.reduceAdd, Nat.reduceSub, Nat.reduceMul, Nat.reduceEqDiff, Nat.reduceLT, Nat.reduceLeDiff, Int.reduceToNat, Int.reduceLE, Int.reduceLT, Int.reduceEq, Int.reduceNeg, reduceCtorEq]
    refine ⟨⟨by omega, by omega⟩, defS_mono (def74_some _ 2 3 1 _ _ rfl rfl (by decide)) ?_⟩
    rintro p' h' ⟨rfl, rfl⟩
    simp only [hE, isVoting_eq, isGas_eq, awithin_eq, count_eq, p22_12, p22_21, p22_23, p22_25, p115_2, p115_4, Try.f75, Try.f77, Try.f115, Try.f22, go_sem, ↓reduceIte, Nat.reduceAdd, Nat.reduceSub, Nat.reduceMul, Nat.reduceEqDiff, Nat.reduceLT, Nat.reduceLeDiff, Int.reduceToNat, Int.reduceLE, Int.reduceLT, Int.reduceEq, Int.reduceNeg, reduceCtorEq]
  | true =>
  cases k2 : in3 (l i 1) 0 ((n : Int) - 1) with
  | false =>
    have hE := bad i 1 him h3 (by rw [ckE, k1, k2]; rfl) (by decide)
    simp only [d1, k1, k2, w1, Int.toNat_natCast, isVoting_eq, isGas_eq, awithin_eq, count_eq, p22_12, p22_21, p22_23, p22_25, p115_2, p115_4, Try.f75, Try.f77, Try.f115, Try.f22, go_sem, ↓reduceIte, Nat.reduceAdd, Nat.reduceSub, Nat.reduceMul, Nat.reduceEqDiff, Nat.reduceLT, Nat.reduceLeDiff, Int.reduceToNat, Int.reduceLE, Int.reduceLT, Int.reduceEq, Int.reduceNeg, reduceCtorEq]
    refine ⟨⟨by omega, by omega⟩, defS_mono (def74_some _ 2 3 1 _ _ rfl rfl (by decide)) ?_⟩
    rintro p' h' ⟨rfl, rfl⟩
    simp only [hE, isVoting_eq, isGas_eq, awithin_eq, count_eq, p22_12, p22_21, p22_23, p22_25, p115_2, p115_4, Try.f75, Try.f77, Try.f115, Try.f22, go_sem, ↓reduceIte, Nat.reduceAdd, Nat.reduceSub, Nat.reduceMul, Nat.reduceEqDiff, Nat.reduceLT, Nat.reduceLeDiff, Int.reduceToNat, Int.reduceLE, Int.reduceLT, Int.reduceEq, Int.reduceNeg, reduceCtorEq]
  | true =>
  cases k3 : decide (i = 0) || decide (l (i - 1) 0 ≤ l i 0) with
  | false =>
    have hE := bad i 7 him h3 (by rw [ckE, k1, k2, k3]; rfl) (by decide)
    rw [Bool.or_eq_false_iff] at k3
    obtain ⟨k3, k4⟩ := k3
    have k3 : decide ((i : Int) = 0) = false := by simp only [decide_eq_false_iff_not] at k3 ⊢; omega
    have w2 : IntKind.i64.wrap ((i : Int) - 1) = ((i - 1 : Nat) : Int) := by simp only [decide_eq_false_iff_not] at k3; rw [wrap_id (by omega) (by omega)]; omega
    simp only [d1, k1, k2, k3, w2, k4, w1, Int.toNat_natCast, isVoting_eq, isGas_eq, awithin_eq, count_eq, p22_12, p22_21, p22_23, p22_25, p115_2, p115_4, Try.f75, Try.f77, Try.f115, Try.f22, go_sem, ↓reduceIte, Nat.reduceAdd, Nat.reduceSub, Nat.reduceMul, Nat.reduceEqDiff, Nat.reduceLT, Nat.reduceLeDiff, Int.reduceToNat, Int.reduceLE, Int.reduceLT, Int.reduceEq, Int.reduceNeg, reduceCtorEq]
    refine ⟨⟨by omega, by omega⟩, ⟨by kernel_rfl, by kernel_rfl⟩, ⟨by omega, by omega⟩, defS_mono (def74_some _ 2 3 7 _ _ rfl rfl (by decide)) ?_⟩
    rintro p' h' ⟨rfl, rfl⟩
    simp only [hE, isVoting_eq, isGas_eq, awithin_eq, count_eq, p22_12, p22_21, p22_23, p22_25, p115_2, p115_4, Try.f75, Try.f77, Try.f115, Try.f22, go_sem, ↓reduceIte, Nat.reduceAdd, Nat.reduceSub, Nat.reduceMul, Nat.reduceEqDiff, Nat.reduceLT, Nat.reduceLeDiff, Int.reduceToNat, Int.reduceLE, Int.reduceLT, Int.reduceEq, Int.reduceNeg, reduceCtorEq]
  | true =>
    have hE : ckE n l i = 0 := by rw [ckE, k1, k2, k3]; rfl
    have step : ∀ j, j < i + 1 → ckE n l j = 0 := fun j hj => by
      rcases Nat.lt_or_ge j i with g | g
      · exact h3 j g
      · obtain rfl : j = i := by omega
        exact hE
    by_cases hi0 : i = 0
    · have k3 : decide ((i : Int) = 0) = true := decide_eq_true (by omega)
      simp only [d1, k1, k2, k3, w1, Int.toNat_natCast, isVoting_eq, isGas_eq, awithin_eq, count_eq, p22_12, p22_21, p22_23, p22_25, p115_2, p115_4, Try.f75, Try.f77, Try.f115, Try.f22, go_sem, ↓reduceIte, Nat.reduceAdd, Nat.reduceSub, Nat.reduceMul, Nat.reduceEqDiff, Nat.reduceLT, Nat.reduceLeDiff, Int.reduceToNat, Int.reduceLE, Int.reduceLT, Int.reduceEq, Int.reduceNeg, reduceCtorEq]
      refine ⟨⟨by omega, by omega⟩, ⟨by kernel_rfl, by kernel_rfl⟩, ⟨i + 1, by omega, step⟩, by simp only []; omega, ?_⟩
      apply sub_of <;> simp only [hw3, go_sem, ↓reduceIte, Nat.reduceAdd, Nat.reduceSub, Nat.reduceMul, Nat.reduceEqDiff, Nat.reduceLT, Nat.reduceLeDiff, Int.reduceToNat, Int.reduceLE, Int.reduceLT, Int.reduceEq, Int.reduceNeg, reduceCtorEq] <;> (try simp) <;> (try exact fun j _ => Bd_nth (by simp [BdL, Bd]) j) <;> (try exact bd_setL (by simp [bdAs, BdL, Bd])) <;> (try exact nestF_bd _ _ _ _ _ _ _ _ _)
    · rw [decide_eq_false hi0, Bool.false_or] at k3
      have k4 : decide ((i : Int) = 0) = false := decide_eq_false (by omega)
      have w2 : IntKind.i64.wrap ((i : Int) - 1) = ((i - 1 : Nat) : Int) := by rw [wrap_id (by omega) (by omega)]; omega
      simp only [d1, k1, k2, k3, k4, w1, w2, Int.toNat_natCast, isVoting_eq, isGas_eq, awithin_eq, count_eq, p22_12, p22_21, p22_23, p22_25, p115_2, p115_4, Try.f75, Try.f77, Try.f115, Try.f22, go_sem, ↓reduceIte, Nat.reduceAdd, Nat.reduceSub, Nat.reduceMul, Nat.reduceEqDiff, Nat.reduceLT, Nat.reduceLeDiff, Int.reduceToNat, Int.reduceLE, Int.reduceLT, Int.reduceEq, Int.reduceNeg, reduceCtorEq]
      refine ⟨⟨by omega, by omega⟩, ⟨by kernel_rfl, by kernel_rfl⟩, ⟨by omega, by omega⟩, ⟨i + 1, by omega, step⟩, by simp only []; omega, ?_⟩
      apply sub_of <;> simp only [hw3, go_sem, ↓reduceIte, Nat.reduceAdd, Nat.reduceSub, Nat.reduceMul, Nat.reduceEqDiff, Nat.reduceLT, Nat.reduceLeDiff, Int.reduceToNat, Int.reduceLE, Int.reduceLT, Int.reduceEq, Int.reduceNeg, reduceCtorEq] <;> (try simp) <;> (try exact fun j _ => Bd_nth (by simp [BdL, Bd]) j) <;> (try exact bd_setL (by simp [bdAs, BdL, Bd])) <;> (try exact nestF_bd _ _ _ _ _ _ _ _ _)
end Go.Eng
end

/- file: an eye reads bits. -/
section
namespace Go.Eng
open Go Go.RowKit Go.Proofs
set_option maxRecDepth 100000
set_option maxHeartbeats 4000000
attribute [local irreducible] OwnT DefS
def byN (b : Nat → Nat → Int) : Nat → Nat := fun i => (b i 0).toNat
def eyB (n : Nat) (b : Nat → Nat → Int) (p : Nat) : Blk := .live 175 [.row n 1 (fun i j => .int .u8 (b i j)), .int .i64 (p : Int)]
theorem get_or {r c : Nat} (hr : r < 2 ^ 60) (hc : c ≤ 1) : bitI .or .u64 (IntKind.u64.wrap ((r : Int) * 2 ^ min 1 64)) (IntKind.u64.wrap (c : Int)) = ((2 * r + c : Nat) : Int) := by
  have e1 : (r : Int) * 2 ^ min 1 64 = ((2 * r : Nat) : Int) := by
    have : (2 : Int) ^ min 1 64 = 2 := rfl
    rw [this]; omega
  rw [e1, wrap_u64 (by omega) (by omega), wrap_u64 (by omega) (by omega), or64u (by omega) (by omega)]
  have := or_low (q := r) (b := c) (i := 1) (by omega)
  rw [Nat.pow_one] at this
  rw [this]
theorem get_bit {b : Nat} (hb : b < 256) {s : Nat} (hs : s < 8) : bitI .and .u8 ((b : Int).fdiv (2 ^ min s 8)) 1 = ((b / 2 ^ s % 2 : Nat) : Int) := by
  have e1 : ((b : Nat) : Int).fdiv (2 ^ min s 8) = ((b / 2 ^ s : Nat) : Int) := by
    rw [Nat.min_eq_left (by omega)]
    have : ((2 : Int) ^ s) = ((2 ^ s : Nat) : Int) := by simp
    rw [this, Int.fdiv_eq_ediv_of_nonneg _ (Int.natCast_nonneg _)]
    rfl
  have h1 : b / 2 ^ s ≤ b := Nat.div_le_self _ _
  have := and8 (a := b / 2 ^ s) (b := 1) (by omega) (by omega)
  rw [Nat.and_one_is_mod] at this
  rw [e1]
  exact this
theorem get_run {n : Nat} (hn : n ≤ 1000000) {b : Nat → Nat → Int} (hb : ∀ i, i < n → 0 ≤ b i 0 ∧ b i 0 < 256) {p many : Nat} (hm : many ≤ 50) (hp : p + many ≤ 8 * n) :
    CallsS Try.prog 69 [.ptr 0 0, .int .i64 (many : Int)] ⟨[eyB n b p], []⟩ (fun o h' => o = .ret (.int .u64 (rdB (biA (byN b)) p many : Int)) ∧ h' = ⟨[eyB n b (p + many)], []⟩) := by
  refine calls_of_run (C := cx [] [] [(67, needBase)] [(69, 3, p69_3), (69, 4, p69_4)] none) (cx_ok trivial ⟨need_base, trivial⟩) rfl (g := 69) (fn := Try.f69) (fn_69) rfl 1000 ?_
  simp only [Try.f69, eyB, go_sem, ↓reduceIte, Nat.reduceAdd, Nat.reduceSub, Nat.reduceMul, Nat.reduceEqDiff, Nat.reduceLT, Nat.reduceLeDiff, Int.reduceToNat, Int.reduceLE, Int.reduceLT, Int.reduceEq, Int.reduceNeg, reduceCtorEq]
  refine loop_ofH { i : Nat // i ≤ many } (fun i => [(6, .int .i64 (i.1 : Int)), (5, .int .i64 (many : Int)), (4, .int .u64 (rdB (biA (byN b)) p i.1 : Int)), (0, .ptr 0 0)]) (fun _ i => ⟨[eyB n b (p + i.1)], []⟩) (fun i => many - i.1) (fun _ => ⟨rfl, rfl⟩) ⟨0, by omega⟩ (by simp only [rdB, eyB, Nat.add_zero]; (apply sub_of <;> simp only [go_sem, ↓reduceIte, Nat.reduceAdd, Nat.reduceSub, Nat.reduceMul, Nat.reduceEqDiff, Nat.reduceLT, Nat.reduceLeDiff, Int.reduceToNat, Int.reduceLE, Int.reduceLT, Int.reduceEq, Int.reduceNeg, reduceCtorEq] <;> (try simp [catF]) <;> (try exact fun j _ => Bd_nth (by simp [BdL, Bd]) j) <;> (try exact bd_setL (by simp [bdAs, BdL, Bd])) <;> (try exact nestF_bd _ _ _ _ _ _ _ _ _))) ?_
  rintro ⟨i, hi⟩
  simp only at hi ⊢
  have hr := rdB_lt (biA_le (byN b)) p i
  have hr2 : 2 ^ i ≤ 2 ^ 50 := Nat.pow_le_pow_right (by omega) (by omega)
  by_cases him : i < many
  rotate_left
  · obtain rfl : many = i := by omega
    have d1 : decide ((many : Int) < (many : Int)) = false := decide_eq_false (by omega)
    simp only [d1, Try.f69, eyB, go_sem, ↓reduceIte, Nat.reduceAdd, Nat.reduceSub, Nat.reduceMul, Nat.reduceEqDiff, Nat.reduceLT, Nat.reduceLeDiff, Int.reduceToNat, Int.reduceLE, Int.reduceLT, Int.reduceEq, Int.reduceNeg, reduceCtorEq]
  have d1 : decide ((i : Int) < (many : Int)) = true := decide_eq_true (by omega)
  obtain ⟨q, hq⟩ : ∃ q, p + i = q := ⟨_, rfl⟩
  rw [hq]
  have w1 : IntKind.i64.wrap (8 * (n : Int)) = 8 * (n : Int) := wrap_id (by omega) (by omega)
  have d2 : decide ((q : Int) < 8 * (n : Int)) = true := decide_eq_true (by omega)
  have w2 : IntKind.i64.wrap ((q : Int).tdiv 8) = ((q / 8 : Nat) : Int) := by
    rw [Int.tdiv_eq_ediv_of_nonneg (by omega), wrap_id (by omega) (by omega)]; rfl
  have w3 : (q : Int).tmod 8 = ((q % 8 : Nat) : Int) := by
    rw [Int.tmod_eq_emod_of_nonneg (by omega)]; rfl
  have w4 : IntKind.i64.wrap (7 - ((q % 8 : Nat) : Int)) = ((7 - q % 8 : Nat) : Int) := by rw [wrap_id (by omega) (by omega)]; omega
  have w5 : IntKind.i64.wrap ((q : Int) + 1) = ((p + (i + 1) : Nat) : Int) := by rw [wrap_id (by omega) (by omega)]; omega
  have w6 : IntKind.i64.wrap ((i : Int) + 1) = ((i + 1 : Nat) : Int) := by rw [wrap_id (by omega) (by omega)]; omega
  simp only [d1, d2, w1, w2, w3, w4, w5, w6, need_eq, p69_3, p69_4, Try.f69, eyB, Int.toNat_natCast, go_sem, ↓reduceIte, Nat.reduceAdd, Nat.reduceSub, Nat.reduceMul, Nat.reduceEqDiff, Nat.reduceLT, Nat.reduceLeDiff, Int.reduceToNat, Int.reduceLE, Int.reduceLT, Int.reduceEq, Int.reduceNeg, reduceCtorEq]
  have hq8 : q / 8 < n := by omega
  obtain ⟨hb1, hb2⟩ := hb (q / 8) hq8
  have hbq : b (q / 8) 0 = (byN b (q / 8) : Int) := by unfold byN; omega
  have e1 := get_bit (b := byN b (q / 8)) (by unfold byN; omega) (s := 7 - q % 8) (by omega)
  have e2 := get_or (r := rdB (biA (byN b)) p i) (c := byN b (q / 8) / 2 ^ (7 - q % 8) % 2) (by omega) (by omega)
  have e3 : 2 * rdB (biA (byN b)) p i + byN b (q / 8) / 2 ^ (7 - q % 8) % 2 = rdB (biA (byN b)) p (i + 1) := by rw [rdB, hq]; rfl
  refine ⟨⟨by kernel_rfl, by kernel_rfl⟩, ⟨by kernel_rfl, by kernel_rfl⟩, by decide, by omega, by decide, by omega, ⟨i + 1, by omega⟩, by simp only []; omega, ?_⟩
  apply sub_of <;> simp only [hbq, e1, e2, e3, go_sem, ↓reduceIte, Nat.reduceAdd, Nat.reduceSub, Nat.reduceMul, Nat.reduceEqDiff, Nat.reduceLT, Nat.reduceLeDiff, Int.reduceToNat, Int.reduceLE, Int.reduceLT, Int.reduceEq, Int.reduceNeg, reduceCtorEq] <;> (try simp)
theorem rd_code {n : Nat} (hn : n ≤ 1000000) {b : Nat → Nat → Int} (hb : ∀ i, i < n → 0 ≤ b i 0 ∧ b i 0 < 256) {p : Nat} (hk : cdK (biA (byN b)) p < 40) (hp : cdE (biA (byN b)) p ≤ 8 * n) :
    CallsS Try.prog 68 [.ptr 0 0] ⟨[eyB n b p], []⟩ (fun o h' => o = .ret (.int .u64 (cdV (biA (byN b)) p : Int)) ∧ h' = ⟨[eyB n b (cdE (biA (byN b)) p)], []⟩) := by
  refine calls_of_run (C := cx [69] [] [(67, needBase)] [(68, 5, p68_5)] none) (cx_ok trivial ⟨need_base, trivial⟩) rfl (g := 68) (fn := Try.f68) (fn_68) rfl 1000 ?_
  obtain ⟨hz, h1⟩ := zc_get (β := biA (byN b)) (f := 40) (p := p) hk
  have hle := biA_le (byN b)
  have hrl := rdB_lt hle (p + cdK (biA (byN b)) p + 1) (cdK (biA (byN b)) p)
  have hE : cdE (biA (byN b)) p = p + 2 * cdK (biA (byN b)) p + 1 := rfl
  have hV : cdV (biA (byN b)) p = 2 ^ cdK (biA (byN b)) p + rdB (biA (byN b)) (p + cdK (biA (byN b)) p + 1) (cdK (biA (byN b)) p) := rfl
  change ∀ i, i < cdK (biA (byN b)) p → _ at hz
  change biA (byN b) (p + cdK (biA (byN b)) p) ≠ 0 at h1
  rw [hV]
  generalize cdK (biA (byN b)) p = K at hk hz h1 hrl hE
  rw [hE] at hp ⊢
  simp only [Try.f68, go_sem, ↓reduceIte, Nat.reduceAdd, Nat.reduceSub, Nat.reduceMul, Nat.reduceEqDiff, Nat.reduceLT, Nat.reduceLeDiff, Int.reduceToNat, Int.reduceLE, Int.reduceLT, Int.reduceEq, Int.reduceNeg, reduceCtorEq]
  refine loop_ofH { i : Nat // i ≤ K } (fun i => [(3, .int .i64 (i.1 : Int)), (0, .ptr 0 0)]) (fun _ i => ⟨[eyB n b (p + i.1)], []⟩) (fun i => K - i.1) (fun _ => ⟨rfl, rfl⟩) ⟨0, by omega⟩ (by simp only [eyB, Nat.add_zero]; (apply sub_of <;> simp only [go_sem, ↓reduceIte, Nat.reduceAdd, Nat.reduceSub, Nat.reduceMul, Nat.reduceEqDiff, Nat.reduceLT, Nat.reduceLeDiff, Int.reduceToNat, Int.reduceLE, Int.reduceLT, Int.reduceEq, Int.reduceNeg, reduceCtorEq] <;> (try simp [catF]) <;> (try exact fun j _ => Bd_nth (by simp [BdL, Bd]) j) <;> (try exact bd_setL (by simp [bdAs, BdL, Bd])) <;> (try exact nestF_bd _ _ _ _ _ _ _ _ _))) ?_
  rintro ⟨i, hi⟩
  simp only at hi ⊢
  simp only [Try.f68, go_sem, ↓reduceIte, Nat.reduceAdd, Nat.reduceSub, Nat.reduceMul, Nat.reduceEqDiff, Nat.reduceLT, Nat.reduceLeDiff, Int.reduceToNat, Int.reduceLE, Int.reduceLT, Int.reduceEq, Int.reduceNeg, reduceCtorEq]
  unfold callS
  refine calls_mono ?_ (get_run hn hb (p := p + i) (many := 1) (by omega) (by omega))
  rintro o h' ⟨rfl, rfl⟩
  have hr1 : rdB (biA (byN b)) (p + i) 1 = biA (byN b) (p + i) := by simp [rdB]
  by_cases hiK : i < K
  · have d1 : decide ((biA (byN b) (p + i) : Int) = 0) = true := decide_eq_true (by rw [hz i hiK]; rfl)
    have w1 : IntKind.i64.wrap ((i : Int) + 1) = ((i + 1 : Nat) : Int) := by rw [wrap_id (by omega) (by omega)]; omega
    simp only [hr1, d1, w1, Try.f68, go_sem, ↓reduceIte, Nat.reduceAdd, Nat.reduceSub, Nat.reduceMul, Nat.reduceEqDiff, Nat.reduceLT, Nat.reduceLeDiff, Int.reduceToNat, Int.reduceLE, Int.reduceLT, Int.reduceEq, Int.reduceNeg, reduceCtorEq]
    refine ⟨⟨i + 1, by omega⟩, by simp only []; omega, ?_⟩
    apply sub_of <;> simp only [eyB, go_sem, ↓reduceIte, Nat.reduceAdd, Nat.reduceSub, Nat.reduceMul, Nat.reduceEqDiff, Nat.reduceLT, Nat.reduceLeDiff, Int.reduceToNat, Int.reduceLE, Int.reduceLT, Int.reduceEq, Int.reduceNeg, reduceCtorEq] <;> (try simp)
    all_goals omega
  · obtain rfl : K = i := by omega
    have d1 : decide ((biA (byN b) (p + K) : Int) = 0) = false := decide_eq_false (by omega)
    have d2 : decide ((K : Int) < 40) = true := decide_eq_true (by omega)
    simp only [hr1, d1, d2, need_eq, p68_5, Try.f68, go_sem, ↓reduceIte, Nat.reduceAdd, Nat.reduceSub, Nat.reduceMul, Nat.reduceEqDiff, Nat.reduceLT, Nat.reduceLeDiff, Int.reduceToNat, Int.reduceLE, Int.reduceLT, Int.reduceEq, Int.reduceNeg, reduceCtorEq]
    refine ⟨⟨by kernel_rfl, by kernel_rfl⟩, by omega, ?_⟩
    refine calls_mono ?_ (get_run hn hb (p := p + K + 1) (many := K) (by omega) (by omega))
    rintro o h' ⟨rfl, rfl⟩
    have hK2 : 2 ^ K ≤ 2 ^ 40 := Nat.pow_le_pow_right (by omega) (by omega)
    have e1 : IntKind.u64.wrap (1 * 2 ^ min K 64) = ((2 ^ K : Nat) : Int) := by
      rw [Nat.min_eq_left (by omega), Int.one_mul]
      have : ((2 : Int) ^ K) = ((2 ^ K : Nat) : Int) := by simp
      rw [this, wrap_u64 (by omega) (by omega)]
    have e2 : bitI .or .u64 (((2 ^ K : Nat) : Int)) (rdB (biA (byN b)) (p + K + 1) K : Int) = ((2 ^ K + rdB (biA (byN b)) (p + K + 1) K : Nat) : Int) := by
      rw [or64u (by omega) (by omega)]
      have := or_low (q := 1) hrl
      rw [Nat.mul_one] at this
      rw [this]
    simp only [e1, e2, p68_5, Try.f68, go_sem, ↓reduceIte, Nat.reduceAdd, Nat.reduceSub, Nat.reduceMul, Nat.reduceEqDiff, Nat.reduceLT, Nat.reduceLeDiff, Int.reduceToNat, Int.reduceLE, Int.reduceLT, Int.reduceEq, Int.reduceNeg, reduceCtorEq]
    rw [show p + K + 1 + K = p + 2 * K + 1 by omega]
end Go.Eng
end
