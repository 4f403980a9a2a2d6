/-
  IceApart: for every input the law returns true, and each argument reads afterwards as it read before. No condition.
-/
import Derived.Test.YtmpcdcphgepeiaaRows
import Derived.WalkKit
import Derived.Test.YtmpcdcphgepeiaaBR
set_option linter.unusedSimpArgs false
set_option linter.unusedVariables false
/- Events in two parts, and each zone alone: the plain laws. -/
section
namespace Go.Eng
def addS (d : Nat → Int) (x : PSt) : PSt := ⟨x.z, fun j => x.s j + d j⟩
theorem stepZ_sh (d : Nat → Int) (e : Nat → Int) (k : Nat) (x : PSt) : stepZ e k (addS d x) = addS d (stepZ e k x) := by
  simp only [stepZ, addS]
  congr 1
  funext j
  omega
theorem zRun_sh (d : Nat → Int) (e : Nat → Int) : ∀ (c k : Nat) (x y : PSt), zRun e c k x = .inr y → zRun e c k (addS d x) = .inr (addS d y)
  | 0, k, x, y, h => by simp only [zRun] at h ⊢; cases h; rfl
  | c + 1, k, x, y, h => by
    simp only [zRun] at h ⊢
    split at h
    · rename_i h0
      rw [if_pos (show zErr e ((addS d x).z k) = 0 from h0), stepZ_sh]
      exact zRun_sh d e c (k + 1) _ y h
    · cases h
theorem evRun_sh (d : Nat → Int) (n : Int) (l : Nat → Nat → Int) : ∀ (c i : Nat) (x y : PSt), evRun n l c i x = .inr y → evRun n l c i (addS d x) = .inr (addS d y)
  | 0, i, x, y, h => by simp only [evRun] at h ⊢; cases h; rfl
  | c + 1, i, x, y, h => by
    simp only [evRun] at h ⊢
    split at h
    · rename_i h0
      rw [if_pos h0]
      split at h
      · cases h
      · rename_i x' hx
        rw [zRun_sh d _ _ _ _ _ hx]
        exact evRun_sh d n l c (i + 1) x' y h
    · cases h
theorem evRun_off (n : Int) (l : Nat → Nat → Int) (k : Nat) : ∀ (c i : Nat) (x y : PSt), evRun n l c (k + i) x = .inr y → evRun n (fun a => l (k + a)) c i x = .inr y
  | 0, i, x, y, h => by simp only [evRun] at h ⊢; exact h
  | c + 1, i, x, y, h => by
    simp only [evRun] at h ⊢
    split at h
    · rename_i h0
      rw [if_pos h0]
      split at h
      · cases h
      · rename_i x' hx
        exact evRun_off n l k c (i + 1) x' y h
    · cases h
theorem evRun_app (n : Int) (l : Nat → Nat → Int) (b : Nat) : ∀ (a i : Nat) (x y : PSt), evRun n l (a + b) i x = .inr y → ∃ w, evRun n l a i x = .inr w ∧ evRun n l b (i + a) w = .inr y
  | 0, i, x, y, h => ⟨x, rfl, by simpa using h⟩
  | a + 1, i, x, y, h => by
    rw [show a + 1 + b = a + b + 1 by omega] at h
    simp only [evRun] at h ⊢
    split at h
    · rename_i h0
      rw [if_pos h0]
      split at h
      · cases h
      · rename_i x' hx
        obtain ⟨w, h1, h2⟩ := evRun_app n l b a (i + 1) x' y h
        exact ⟨w, h1, by rw [show i + (a + 1) = i + 1 + a by omega]; exact h2⟩
    · cases h
theorem evRun_join (n : Int) (l : Nat → Nat → Int) (b : Nat) : ∀ (a i : Nat) (x w y : PSt), evRun n l a i x = .inr w → evRun n l b (i + a) w = .inr y → evRun n l (a + b) i x = .inr y
  | 0, i, x, w, y, h, h' => by simp only [evRun] at h; cases h; simpa using h'
  | a + 1, i, x, w, y, h, h' => by
    rw [show a + 1 + b = a + b + 1 by omega]
    simp only [evRun] at h ⊢
    split at h
    · rename_i h0
      rw [if_pos h0]
      split at h
      · cases h
      · rename_i x' hx
        exact evRun_join n l b a (i + 1) x' w y h (by rw [show i + 1 + a = i + (a + 1) by omega]; exact h')
    · cases h
theorem evRun_congr (n : Int) (l l' : Nat → Nat → Int) : ∀ (c i : Nat) (x : PSt), (∀ a, i ≤ a → a < i + c → l a = l' a) → evRun n l c i x = evRun n l' c i x
  | 0, i, x, h => rfl
  | c + 1, i, x, h => by
    simp only [evRun]
    rw [h i (by omega) (by omega)]
    split
    · split
      · rfl
      · exact evRun_congr n l l' c (i + 1) _ (fun a h1 h2 => h a (by omega) (by omega))
    · rfl
theorem stepZ_z (e : Nat → Int) (k : Nat) (x : PSt) (i : Nat) : (stepZ e k x).z i = if i = k then dZ e (x.z i) else x.z i := by
  by_cases h : i = k
  · subst h; simp [stepZ]
  · simp [stepZ, h]
theorem zRun_inv {n : Nat} {e : Nat → Int} (he : EvB e) : ∀ (c k : Nat) (x y : PSt) (b : Int), AllOk n x → SumB b x → k + c ≤ n → zRun e c k x = .inr y →
    AllOk n y ∧ SumB (b + 20000 * c) y ∧ ∀ i, (k ≤ i → i < k + c → zErr e (x.z i) = 0 ∧ y.z i = dZ e (x.z i)) ∧ (i < k ∨ k + c ≤ i → y.z i = x.z i)
  | 0, k, x, y, b, hx, hs, hk, h => by
    simp only [zRun] at h; cases h
    exact ⟨hx, by simpa using hs, fun i => ⟨fun h1 h2 => by omega, fun _ => rfl⟩⟩
  | c + 1, k, x, y, b, hx, hs, hk, h => by
    simp only [zRun] at h
    split at h
    · rename_i h0
      obtain ⟨h1, h2, h3⟩ := zRun_inv he c (k + 1) (stepZ e k x) y (b + 20000) (step_ok he hx (by omega) h0) (step_sum he hx (by omega) hs) (by omega) h
      refine ⟨h1, fun j => by have := h2 j; omega, fun i => ⟨fun a1 a2 => ?_, fun a => ?_⟩⟩
      · rcases Nat.lt_or_ge k i with hki | hki
        · obtain ⟨q1, q2⟩ := (h3 i).1 (by omega) (by omega)
          rw [stepZ_z, if_neg (by omega)] at q1 q2
          exact ⟨q1, q2⟩
        · obtain rfl : i = k := by omega
          have := (h3 i).2 (.inl (by omega))
          rw [stepZ_z, if_pos rfl] at this
          exact ⟨h0, this⟩
      · have := (h3 i).2 (by omega)
        rw [stepZ_z, if_neg (by omega)] at this
        exact this
    · cases h
theorem evRun_one {n : Int} {l : Nat → Nat → Int} {i : Nat} {x y : PSt} (h : evRun n l 1 i x = .inr y) : evOk n (l i) = true ∧ zRun (l i) (toOf (l i) - l i 1 + 1).toNat (l i 1).toNat x = .inr y := by
  simp only [evRun] at h
  split at h
  · rename_i h0
    split at h
    · cases h
    · rename_i x' hx; cases h; exact ⟨h0, hx⟩
  · cases h
theorem evRun_inv {n : Nat} {l : Nat → Nat → Int} : ∀ (c i : Nat) (x y : PSt) (b : Int), AllOk n x → SumB b x → evRun (n : Int) l c i x = .inr y → AllOk n y ∧ SumB (b + 20000 * n * c) y
  | 0, i, x, y, b, hx, hs, h => by simp only [evRun] at h; cases h; exact ⟨hx, by simpa using hs⟩
  | c + 1, i, x, y, b, hx, hs, h => by
    rw [show c + 1 = 1 + c by omega] at h
    obtain ⟨w, h1, h2⟩ := evRun_app (n : Int) l c 1 i x y h
    obtain ⟨h3, h4⟩ := evRun_one h1
    have h5 := evOk_iff.1 h3
    obtain ⟨q1, q2, _⟩ := zRun_inv (n := n) h5.2 _ _ _ _ b hx hs (by omega) h4
    have q3 : SumB (b + 20000 * n) w := fun j => by have := q2 j; omega
    obtain ⟨r1, r2⟩ := evRun_inv c (i + 1) w y (b + 20000 * n) q1 q3 h2
    refine ⟨r1, fun j => ?_⟩
    have := r2 j
    rw [show b + 20000 * (n : Int) * ((c + 1 : Nat) : Int) = b + 20000 * n + 20000 * n * c by push_cast; rw [Int.mul_add]; omega]
    exact this
/-- An event as it is for the zone alone. -/
def e0 (e : Nat → Int) : Nat → Int := fun j => if j = 1 ∨ j = 2 then 0 else e j
def takeB (w : Int) (e : Nat → Int) : Bool := decide (e 1 ≤ w) && decide (w ≤ toOf e)
def ownC (w : Int) (l : Nat → Nat → Int) : Nat → Nat
  | 0 => 0
  | i + 1 => if takeB w (l i) = true then ownC w l i + 1 else ownC w l i
def ownA (w : Int) (l : Nat → Nat → Int) : Nat → Nat → Nat → Int
  | 0 => fun _ _ => 0
  | i + 1 => if takeB w (l i) = true then fun a b => if a < ownC w l i then ownA w l i a b else e0 (l i) b else ownA w l i
theorem ownC_le (w : Int) (l : Nat → Nat → Int) : ∀ i, ownC w l i ≤ i
  | 0 => Nat.le_refl _
  | i + 1 => by have := ownC_le w l i; unfold ownC; split <;> omega
theorem own_run {n w : Nat} (hw : w < n) {l z : Nat → Nat → Int} (hz : ∀ i, i < n → okZ (z i) = true) {s0 s1 : Nat → Int} : ∀ (i : Nat) (y : PSt), evRun (n : Int) l i 0 ⟨z, fun _ => 0⟩ = .inr y →
    ∃ y1, evRun 1 (ownA (w : Int) l i) (ownC (w : Int) l i) 0 ⟨fun a => z (w + a), fun _ => 0⟩ = .inr y1 ∧ y1.z 0 = y.z w
  | 0, y, h => by
    simp only [evRun] at h; cases h
    exact ⟨_, rfl, rfl⟩
  | i + 1, y, h => by
    obtain ⟨v, h1, h2⟩ := evRun_app (n : Int) l 1 i 0 _ y h
    obtain ⟨y1, q1, q2⟩ := own_run hw hz (s0 := s0) (s1 := s1) i v h1
    rw [Nat.zero_add] at h2
    obtain ⟨h3, h4⟩ := evRun_one h2
    have h5 := evOk_iff.1 h3
    obtain ⟨v1, v2⟩ := evRun_inv i 0 ⟨z, fun _ => 0⟩ v 0 hz (fun j => ⟨Int.le_refl _, Int.le_refl _⟩) h1
    obtain ⟨_, _, q3⟩ := zRun_inv (n := n) h5.2 _ _ _ _ _ v1 v2 (by omega) h4
    unfold ownC ownA
    by_cases ht : takeB (w : Int) (l i) = true
    · rw [if_pos ht, if_pos ht]
      simp only [takeB, Bool.and_eq_true, decide_eq_true_eq] at ht
      obtain ⟨r1, r2⟩ := (q3 w).1 (by omega) (by omega)
      have hto : toOf (e0 (l i)) = 0 := by simp [toOf, e0]
      have hok : evOk 1 (e0 (l i)) = true := evOk_iff.2 ⟨⟨by simp [e0], by rw [hto]; simp [e0], by rw [hto]; omega⟩, h5.2⟩
      refine ⟨stepZ (e0 (l i)) 0 y1, evRun_join 1 _ 1 _ 0 _ y1 _ ?_ ?_, ?_⟩
      · rw [← q1]
        exact evRun_congr 1 _ _ _ 0 _ (fun a _ ha => by funext b; simp [show a < ownC (w : Int) l i by omega])
      · simp only [evRun, Nat.zero_add, Nat.lt_irrefl, if_false]
        have e1 : (fun b => e0 (l i) b) = e0 (l i) := rfl
        rw [e1, if_pos hok, hto]
        have e2 : ((0 : Int) - e0 (l i) 1 + 1).toNat = 1 := by simp [e0]
        have e3 : (e0 (l i) 1).toNat = 0 := by simp [e0]
        rw [e2, e3]
        have hz0 : zErr (e0 (l i)) (y1.z 0) = 0 := by rw [q2]; exact r1
        simp only [zRun, if_pos hz0]
      · rw [stepZ_z, if_pos rfl, q2, r2]
        rfl
    · rw [if_neg ht, if_neg ht]
      refine ⟨y1, q1, ?_⟩
      rw [q2]
      refine ((q3 w).2 ?_).symm
      simp only [takeB, Bool.and_eq_true, decide_eq_true_eq] at ht
      omega
theorem playT_def {n m : Nat} {z l : Nat → Nat → Int} {x : PSt} (hr : rinkB n z = true) (hm : m ≤ 256) (h : evRun (n : Int) l m 0 ⟨z, fun _ => 0⟩ = .inr x) : playT n m z l = ⟨n, x.z, x.s, m, 0⟩ := by
  unfold playT playO
  rw [if_pos hr, if_pos hm, h]
  rfl
/-- Events in two parts. -/
theorem play_split {n m k : Nat} {z l : Nat → Nat → Int} (hk : k ≤ m) (h : (playT n m z l).e = 0) : ∃ (h1 h2 : Nat → Nat → Int) (s1 s2 : Nat → Int), playT n k z l = ⟨n, h1, s1, k, 0⟩ ∧
    playT n (m - k) h1 (fun i => l (k + i)) = ⟨n, h2, s2, (m - k : Nat), 0⟩ ∧ (playT n m z l).z = h2 ∧ ∀ j, (playT n m z l).s j = s1 j + s2 j ∧ (0 ≤ s1 j ∧ s1 j ≤ 20000 * n * m) ∧ (0 ≤ s2 j ∧ s2 j ≤ 20000 * n * m) := by
  obtain ⟨hr, hm, _, x, hx, hp⟩ := playT_ok h
  have hb := rinkB_iff.1 hr
  have hx' := hx
  rw [show m = k + (m - k) by omega] at hx'
  obtain ⟨v, q1, q2⟩ := evRun_app (n : Int) l (m - k) k 0 _ x hx'
  rw [Nat.zero_add] at q2
  have z0 : SumB 0 (⟨z, fun _ => 0⟩ : PSt) := fun j => ⟨Int.le_refl _, Int.le_refl _⟩
  obtain ⟨v1, v2⟩ := evRun_inv k 0 ⟨z, fun _ => 0⟩ v 0 hb.2 z0 q1
  obtain ⟨x1, x2⟩ := evRun_inv m 0 ⟨z, fun _ => 0⟩ x 0 hb.2 z0 hx
  have hr1 : rinkB n v.z = true := rinkB_iff.2 ⟨hb.1, v1⟩
  have q3 := evRun_off (n : Int) l k (m - k) 0 v x q2
  have q4 := evRun_sh (fun j => - v.s j) (n : Int) (fun a => l (k + a)) (m - k) 0 v x q3
  have e1 : addS (fun j => - v.s j) v = ⟨v.z, fun _ => 0⟩ := by
    simp only [addS]; congr 1; funext j; omega
  rw [e1] at q4
  have y0 : SumB 0 (⟨v.z, fun _ => 0⟩ : PSt) := fun j => ⟨Int.le_refl _, Int.le_refl _⟩
  obtain ⟨_, y2⟩ := evRun_inv (m - k) 0 ⟨v.z, fun _ => 0⟩ _ 0 v1 y0 q4
  have hle : 20000 * (n : Int) * (k : Int) ≤ 20000 * n * m := Int.mul_le_mul_of_nonneg_left (by omega) (by omega)
  refine ⟨v.z, x.z, v.s, (addS (fun j => - v.s j) x).s, playT_def hr (by omega) q1, playT_def hr1 (by omega) q4, by rw [hp], fun j => ⟨by rw [hp]; simp only [addS]; omega, ?_, ?_⟩⟩
  · have := v2 j; omega
  · have a := y2 j
    have b := x2 j
    have c := v2 j
    exact ⟨a.1, by simp only [addS]; omega⟩
theorem play_alone {n m w : Nat} (hw : w < n) {z l : Nat → Nat → Int} (h : (playT n m z l).e = 0) : ∃ (h1 : Nat → Nat → Int) (s1 : Nat → Int),
    playT 1 (ownC (w : Int) l m) (fun a => z (w + a)) (ownA (w : Int) l m) = ⟨1, h1, s1, (ownC (w : Int) l m : Nat), 0⟩ ∧ h1 0 = (playT n m z l).z w := by
  obtain ⟨hr, hm, _, x, hx, hp⟩ := playT_ok h
  have hb := rinkB_iff.1 hr
  obtain ⟨y1, q1, q2⟩ := own_run hw hb.2 (s0 := fun _ => 0) (s1 := fun _ => 0) m x hx
  have := ownC_le (w : Int) l m
  refine ⟨y1.z, y1.s, playT_def (rinkB_iff.2 ⟨by omega, fun i hi => ?_⟩) (by omega) q1, by rw [q2, hp]⟩
  obtain rfl : i = 0 := by omega
  exact hb.2 w hw
end Go.Eng
end

/- IceApart: its call returns true. -/
section
namespace Go.Eng
open Go Go.RowKit Go.Proofs
set_option maxRecDepth 100000
set_option maxHeartbeats 4000000
attribute [local irreducible] OwnT DefS
theorem wf_u8 {w : Int} (h : (Lit.int .u8 w).wf = true) : 0 ≤ w ∧ w ≤ 255 := by
  have : (decide (IntKind.min .u8 ≤ w) && decide (w ≤ IntKind.max .u8)) = true := h
  have h1 : IntKind.min .u8 = 0 := by decide
  have h2 : IntKind.max .u8 = 255 := by decide
  rw [h1, h2] at this
  simpa using this
theorem tmod_nat {c : Int} {m : Nat} (hc : 0 ≤ c) (hm : 0 < m) : c.tmod (m : Int) = ((c.toNat % m : Nat) : Int) := by
  obtain ⟨k, rfl⟩ := Int.eq_ofNat_of_zero_le hc
  rw [Int.tmod_eq_emod_of_nonneg hc]
  simp
theorem takeB_iff (w : Int) (e : Nat → Int) : takeB w e = true ↔ e 1 ≤ w ∧ ((e 0 = 3 ∧ e 1 = w) ∨ (e 0 ≠ 3 ∧ w ≤ e 2)) := by
  have h : takeB w e = true ↔ e 1 ≤ w ∧ w ≤ toOf e := by simp [takeB]
  rw [h]
  by_cases h3 : e 0 = 3
  · have : toOf e = e 1 := by simp [toOf, h3]
    rw [this]
    exact ⟨fun ⟨a, b⟩ => ⟨a, .inl ⟨h3, by omega⟩⟩, fun ⟨a, b⟩ => ⟨a, by omega⟩⟩
  · have : toOf e = e 2 := by simp [toOf, h3]
    rw [this]
    exact ⟨fun ⟨a, b⟩ => ⟨a, .inr ⟨h3, by omega⟩⟩, fun ⟨a, b⟩ => ⟨a, by omega⟩⟩
theorem own_snoc {k : Nat} {z : Nat → Nat → Int} {e : Nat → Int} {a b : Nat} (ha : a < k + 1) (hb : b < 5) : catF k (fun i j => SV.int .i64 (z i j)) (oneF [.int .i64 (e 0), .int .i64 0, .int .i64 0, .int .i64 (e 3), .int .i64 (e 4)]) a b = .int .i64 (if a < k then z a b else e0 e b) := by
  unfold catF oneF
  split
  · rfl
  · have : a = k := by omega
    subst this
    have hc4 : b = 0 ∨ b = 1 ∨ b = 2 ∨ b = 3 ∨ b = 4 := by omega
    rcases hc4 with rfl | rfl | rfl | rfl | rfl <;> first | rfl | (simp [e0]; rfl)
def iceApartBase : BaseF := fun args => match args with
  | [.row n sz_z f_z, .row m sz_l f_l, .int .u8 c, .int .u8 w] => some ((sz_z = 4 ∧ IntR n 4 f_z) ∧ (sz_l = 5 ∧ IntR m 5 f_l) ∧ ((Lit.int .u8 c).wf = true) ∧ ((Lit.int .u8 w).wf = true), .bool true)
  | _ => none
theorem iceApart_eq (n : Nat) (z : Nat → Nat → Int) (m : Nat) (l : Nat → Nat → Int) (c : Int) (w : Int) : iceApartBase [.row n 4 (fun i j => .int .i64 (z i j)), .row m 5 (fun i j => .int .i64 (l i j)), .int .u8 c, .int .u8 w] = some ((4 = 4 ∧ IntR n 4 (fun i j => .int .i64 (z i j))) ∧ (5 = 5 ∧ IntR m 5 (fun i j => .int .i64 (l i j))) ∧ ((Lit.int .u8 c).wf = true) ∧ ((Lit.int .u8 w).wf = true), .bool true) := rfl
theorem iceApart_base : Base Try.prog 6 iceApartBase := by
  intro args p v hq hp
  unfold iceApartBase at hq
  split at hq
  rotate_left
  · cases hq
  rename_i n sz_z f_z m sz_l f_l c w
  cases hq
  obtain ⟨⟨rfl, i_z⟩, ⟨rfl, i_l⟩, wf_c, wf_w⟩ := hp
  refine base_of (C := cx [] [(19, 37, playBase)] [(13, aliveBase), (16, rinkBase), (25, sameBase), (23, spanBase)] [(6, 12, p6_12), (6, 26, p6_26)] none) (cx_ok ⟨play_base, trivial⟩ ⟨alive_base, rink_base, same_base, span_base, trivial⟩) rfl (g := 6) (fn := Try.f6)
    (args' := [.row n 4 (rowF .i64 (fun i j => iv (f_z i j))), .row m 5 (rowF .i64 (fun i j => iv (f_l i j))), .int .u8 c, .int .u8 w]) (fn_6) rfl 1000 (by simp only [BdL, Bd, and_self, and_true, true_and]; exact ⟨fun i j hi hj => by rw [i_z i j hi hj]; trivial, fun i j hi hj => by rw [i_l i j hi hj]; trivial⟩) ⟨SameD.int i_z, SameD.int i_l, SameD.rfl' _, SameD.rfl' _, trivial⟩ ?_
  generalize (fun i j => iv (f_z i j)) = z
  generalize (fun i j => iv (f_l i j)) = l
  simp only [rowF_eq]
  simp only [alive_eq, rink_eq, same_eq, span_eq, p6_12, p6_26, play_at, pTup, Try.f24, Try.f6, go_sem, ↓reduceIte, Nat.reduceAdd, Nat.reduceSub, Nat.reduceMul, Nat.reduceEqDiff, Nat.reduceLT, Nat.reduceLeDiff, Int.reduceToNat, Int.reduceLE, Int.reduceLT, Int.reduceEq, Int.reduceNeg, reduceCtorEq]
  have hc0 := wf_u8 wf_c
  have hw0 := wf_u8 wf_w
  have hcc : IntKind.i64.wrap c = c := wrap_id (by omega) (by omega)
  have hww : IntKind.i64.wrap w = w := wrap_id (by omega) (by omega)
  simp only [hcc, hww]
  refine ⟨fun _ => True.intro, fun c1 => ⟨fun c2 => ?_, fun c2 => ⟨fun c3 => ?_, fun c3 => ⟨fun c4 => ?_, fun c4 => ?_⟩⟩⟩⟩
  · simp at c2
    obtain ⟨q1, q2, q3⟩ := playT_bad c2
    exact ⟨fun _ => ⟨fun _ => True.intro, fun h => by simp [q3] at h⟩, fun h => by simp at h; omega⟩
  · simp at c2
    obtain ⟨hr, _⟩ := playT_ok c2
    simp [hr] at c3
  · simp at c2
    obtain ⟨_, _, hn, _⟩ := playT_ok c2
    simp [hn] at c4
  simp at c1 c2
  obtain ⟨hr, hm, hn, _⟩ := playT_ok c2
  have hb := rinkB_iff.1 hr
  have hm1 : IntKind.i64.wrap ((m : Int) + 1) = ((m + 1 : Nat) : Int) := by rw [wrap_id (by omega) (by omega)]; omega
  have hK : c.tmod ((m + 1 : Nat) : Int) = ((c.toNat % (m + 1) : Nat) : Int) := tmod_nat hc0.1 (by omega)
  have hKm : c.toNat % (m + 1) ≤ m := by have := Nat.mod_lt c.toNat (show 0 < m + 1 by omega); omega
  have hW : w.tmod (n : Int) = ((w.toNat % n : Nat) : Int) := tmod_nat hw0.1 (by omega)
  have hWn : w.toNat % n < n := Nat.mod_lt _ (by omega)
  simp only [hm1, hK, hW, Int.toNat_natCast]
  generalize c.toNat % (m + 1) = K at *
  generalize w.toNat % n = W at *
  have hmk : IntKind.i64.wrap ((m : Int) - (K : Int)) = ((m - K : Nat) : Int) := by rw [wrap_id (by omega) (by omega)]; omega
  obtain ⟨h1, h2, s1, s2, p1, p2, p3, p4⟩ := play_split hKm c2
  obtain ⟨z1, t1, p5, p6⟩ := play_alone hWn c2
  simp only [hmk, p1, p2, decide_true, Bool.not_true]
  have hnm : 20000 * (n : Int) * (m : Int) ≤ 20000 * 24 * 40 := Int.mul_le_mul (by omega) (by omega) (by omega) (by omega)
  have hsm : ∀ j, IntKind.i64.wrap (s1 j + s2 j) = (playT n m z l).s j := fun j => by
    have := p4 j
    rw [wrap_id (by omega) (by omega)]; exact this.1.symm
  simp only [hsm, hn, p3, sameB_self, decide_true, Bool.and_self, Bool.not_true]
  subst p3
  generalize hP : playT n m z l = P at *
  repeat' (first | refine And.intro ?_ ?_ | intro _)
  all_goals try (first | (as_aux_lemma => (first | (show planOk _ _ = true; kernel_rfl) | (show keepOk _ _ = true; kernel_rfl))) | exact True.intro)
  all_goals try contradiction
  all_goals try omega
  all_goals
    refine loop_of { i : Nat // i ≤ m } (fun i => [(149, .int .i64 (i.1 : Int)), (148, .int .i64 (m : Int)), (147, .row m 5 fun i j => .int .i64 (l i j)), (25, .vec 3 (ownC (W : Int) l i.1)), (24, .int .i64 (W : Int)), (9, .vec 0 0), (0, .row n 4 fun i j => .int .i64 (z i j))])
      (fun i => ⟨[.dead, .dead, .dead, .dead, .dead, .dead, .dead, .dead, .dead, .dead, .dead, .dead, .dead], [.live 0 37 4 n fun i j => .int .i64 (P.z i j), .dead, .dead, .live (ownC (W : Int) l i.1) 41 5 (ownC (W : Int) l i.1) fun a b => .int .i64 (ownA (W : Int) l i.1 a b)]⟩) (fun i => m - i.1) (fun _ => ⟨rfl, rfl⟩) ⟨0, by omega⟩ (by apply sub_of <;> simp only [go_sem, ↓reduceIte, Nat.reduceAdd, Nat.reduceSub, Nat.reduceMul, Nat.reduceEqDiff, Nat.reduceLT, Nat.reduceLeDiff, Int.reduceToNat, Int.reduceLE, Int.reduceLT, Int.reduceEq, Int.reduceNeg, reduceCtorEq] <;> (try simp [catF, ownC])) ?_
    rintro ⟨i, hi⟩
    simp only [alive_eq, rink_eq, same_eq, span_eq, p6_12, p6_26, play_at, pTup, Try.f24, Try.f6, go_sem, ↓reduceIte, Nat.reduceAdd, Nat.reduceSub, Nat.reduceMul, Nat.reduceEqDiff, Nat.reduceLT, Nat.reduceLeDiff, Int.reduceToNat, Int.reduceLE, Int.reduceLT, Int.reduceEq, Int.reduceNeg, reduceCtorEq]
    have hle := ownC_le (W : Int) l i
    have hw2 : IntKind.i64.wrap ((i : Int) + 1) = ((i + 1 : Nat) : Int) := by rw [wrap_id (by omega) (by omega)]; omega
    refine ⟨fun d1 => ?_, fun d1 => ?_⟩
    · simp only [decide_eq_true_eq] at d1
      repeat' (first | refine And.intro ?_ ?_ | intro _)
      all_goals try (first | (as_aux_lemma => (first | (show planOk _ _ = true; kernel_rfl) | (show keepOk _ _ = true; kernel_rfl))) | exact True.intro)
      all_goals try omega
      all_goals simp only [decide_eq_true_eq, decide_eq_false_iff_not, Bool.not_eq_true', Bool.not_eq_false'] at *
      all_goals try omega
      all_goals refine ⟨⟨i + 1, by omega⟩, by simp only []; omega, ?_⟩
      all_goals by_cases ht : takeB (W : Int) (l i) = true
      all_goals try (exfalso; rw [takeB_iff] at ht; omega)
      all_goals
        have hC : ownC (W : Int) l (i + 1) = if takeB (W : Int) (l i) = true then ownC (W : Int) l i + 1 else ownC (W : Int) l i := rfl
        have hA : ownA (W : Int) l (i + 1) = if takeB (W : Int) (l i) = true then fun a b => if a < ownC (W : Int) l i then ownA (W : Int) l i a b else e0 (l i) b else ownA (W : Int) l i := rfl
        first | rw [if_pos ht] at hC hA | rw [if_neg ht] at hC hA
        apply sub_of <;> simp only [hw2, hC, hA, go_sem, ↓reduceIte, Nat.reduceAdd, Nat.reduceSub, Nat.reduceMul, Nat.reduceEqDiff, Nat.reduceLT, Nat.reduceLeDiff, Int.reduceToNat, Int.reduceLE, Int.reduceLT, Int.reduceEq, Int.reduceNeg, reduceCtorEq] <;> (try simp)
      all_goals exact fun a b ha hb => own_snoc (k := ownC (W : Int) l i) (z := ownA (W : Int) l i) (e := l i) ha hb
    · simp only [decide_eq_false_iff_not] at d1
      obtain rfl : m = i := by omega
      have hw3 : IntKind.i64.wrap ((W : Int) + 1) = ((W + 1 : Nat) : Int) := by rw [wrap_id (by omega) (by omega)]; omega
      have hsub : W + 1 - W = 1 := by omega
      simp only [hw3, Int.toNat_natCast, hsub, p5, p6, decide_true, Bool.and_self]
      repeat' (first | refine And.intro ?_ ?_ | intro _)
      all_goals try (first | (as_aux_lemma => (first | (show planOk _ _ = true; kernel_rfl) | (show keepOk _ _ = true; kernel_rfl))) | exact True.intro)
      all_goals try contradiction
      all_goals omega
end Go.Eng
end

/-
  IceApart: for every input the law returns true, and each argument reads afterwards as it read before. No condition.
-/
section
namespace Go.Proofs.Ytmpcdcphgepeiaa.iceApart
open Go.ChangeShapes Go.WideShapes Go.ChangeAt Go.RowKit Go.Eng
set_option linter.unusedVariables false
theorem own : ownKnob Try.prog.godebug = none := by kernel_rfl
theorem laid : laidOutB Try.prog = true := by kernel_rfl
set_option maxRecDepth 100000 in
theorem lifted (os : Os) (started : os.Started) (H : Type) (enc : TypeId × Value → H) :
    ReturnsInHanded {} Try.checked os 6 .any (Rows.iceApartSpec.pre6 enc Try.prog Try.f6 Rows.iceApartRow.domain false) (Rows.iceApartSpec.post enc Try.prog Try.f6 false true false false) := by
  refine returnsInHanded_of_change (C := Try.checked) own started (by kernel_rfl) Try.func6
    (ChangeSpec.witness6 (enc := enc) (C := Try.checked) false ⟨#[], #[.slice none 0 0, .slice none 0 0, .int .u8 0, .int .u8 0], []⟩ 8 (by kernel_rfl) (by kernel_rfl) (by kernel_rfl) (by kernel_rfl)) ?_
  intro W base args ds gs before hval0 hW hcnd _
  have hval : ∀ (j : Nat) t v, Try.f6.params[j]? = some t → args[j]? = some v → Value.okWide Try.prog W .any base t v := hval0
  have hW' := hW
  obtain ⟨p, q, hA0, hV, rfl, hfz, hnd⟩ := hW
  have hA : DataW.TrodAll enc Try.prog W 0 (fun _ => true) true Try.f6.params.toList args.toList ds p := hA0
  rw [Try.params6] at hA hval
  obtain ⟨v0, vs0, d0, ds0, p0, q0, hargs, rfl, rfl, h0, r0⟩ := trodAll_cons hA
  obtain ⟨v1, vs1, d1, ds1, p1, q1, rfl, rfl, rfl, h1, r1⟩ := trodAll_cons r0
  obtain ⟨v2, vs2, d2, ds2, p2, q2, rfl, rfl, rfl, h2, r2⟩ := trodAll_cons r1
  obtain ⟨v3, vs3, d3, ds3, p3, q3, rfl, rfl, rfl, h3, r3⟩ := trodAll_cons r2
  obtain ⟨rfl, rfl, rfl⟩ := trodAll_nil r3
  obtain rfl : args = #[v0, v1, v2, v3] := by cases args; simp_all
  obtain ⟨rfl, rfl⟩ := trodVars_none hV
  obtain ⟨n0, f0, e0, m0, t0⟩ := arg_row (s := [.int .i64, .int .i64, .int .i64, .int .i64]) Try.underlying22 (by kernel_rfl) (hval 0 22 v0 rfl rfl) h0
  obtain ⟨i0, b0⟩ := intK_of_typ (k := .i64) (c := 4) rfl t0
  obtain ⟨n1, f1, e1, m1, t1⟩ := arg_row (s := [.int .i64, .int .i64, .int .i64, .int .i64, .int .i64]) Try.underlying30 (by kernel_rfl) (hval 1 30 v1 rfl rfl) h1
  obtain ⟨i1, b1⟩ := intK_of_typ (k := .i64) (c := 5) rfl t1
  obtain ⟨x2, rfl, rfl, rfl, w2⟩ := open_int Try.underlying5 (hval 2 5 v2 rfl rfl) h2
  obtain ⟨x3, rfl, rfl, rfl, w3⟩ := open_int Try.underlying5 (hval 3 5 v3 rfl rfl) h3
  have hd : DenL Env.emp W [.row n0 4 f0, .row n1 5 f1, .int .u8 x2, .int .u8 x3] [v0, v1, .int .u8 x2, .int .u8 x3] := ⟨e0, e1, .int _ _, .int _ _, trivial⟩
  refine (law_calls iceApart_base (args := [.row n0 4 f0, .row n1 5 f1, .int .u8 x2, .int .u8 x3]) rfl ⟨⟨rfl, fun i j hi hj => i0 i j hi hj⟩, ⟨rfl, fun i j hi hj => i1 i j hi hj⟩, w2, w3⟩ (denA_of hd)).mono fun e W' ⟨he, hb⟩ => ?_
  subst he
  exact ⟨_, rfl, law_end laid rfl Try.underlying4 (by kernel_rfl) rfl hW' rfl hb⟩
theorem over : Rows.iceApartRow.holds Try.pinned (OpenSpec.ofChange Rows.iceApartSpec) :=
  OpenClaim.holds_of_wide 6 Try.f6 rfl rfl rfl rfl rfl rfl rfl ⟨rfl, rfl, rfl, rfl, rfl⟩ rfl rfl rfl rfl rfl (by kernel_rfl) Try.func6 (by kernel_rfl)
    (of_decide_eq_true (by kernel_rfl)) (by unfold Func.isWrapper; first | (rw [if_pos (by decide +kernel)]; kernel_rfl) | (rw [if_neg (by decide +kernel)]; exact ⟨rfl, rfl⟩))
    (fun os started H enc _ => lifted os started H enc)
end Go.Proofs.Ytmpcdcphgepeiaa.iceApart
namespace Go.Proofs.Ytmpcdcphgepeiaa
/-- The given statement. -/
theorem iceApart_holds : Rows.IceApartSaid := iceApart.over
#print axioms iceApart_holds
end Go.Proofs.Ytmpcdcphgepeiaa
end
