/-
  AirHolds: for every input the law returns true, and each argument reads afterwards as it read before. No condition.
-/
import Derived.OpenShut
import Derived.Carry
import Derived.ChangeArms
import Derived.WideShapes
import Derived.WideWitness
import Derived.ProofKit
import Derived.SizedLaws
import Derived.Test.YtnomakoomapdbaaRows
import Derived.WalkKit
import Derived.Test.YtnomakoomapdbaaA4
set_option linter.unusedSimpArgs false
set_option linter.unusedVariables false
/- air: AirRuns, AirDryers. -/
section
namespace Go.Eng
open Go Go.RowKit Go.Proofs
set_option maxRecDepth 100000
set_option maxHeartbeats 4000000
attribute [local irreducible] OwnT DefS
def airRunsBase : BaseF := fun args => match args with
  | [.agg [.int .i64 R, .row n sz_T f_T, .row m sz_H f_H, .int .i64 bl, .int .i64 bh], .agg [.int .i64 wl, .int .i64 wh], .row k sz_l f_l, .int .i64 t, .int .i64 lim] => some ((sz_T = 1 ∧ IntR n 1 f_T) ∧ (sz_H = 1 ∧ IntR m 1 f_H) ∧ (sz_l = 8 ∧ IntR k 8 f_l), .bool true)
  | _ => none
theorem airRuns_eq (R : Int) (n : Nat) (sz_T : Nat) (f_T : Nat → Nat → SV) (m : Nat) (sz_H : Nat) (f_H : Nat → Nat → SV) (bl : Int) (bh : Int) (wl : Int) (wh : Int) (k : Nat) (sz_l : Nat) (f_l : Nat → Nat → SV) (t : Int) (lim : Int) : airRunsBase [.agg [.int .i64 R, .row n sz_T f_T, .row m sz_H f_H, .int .i64 bl, .int .i64 bh], .agg [.int .i64 wl, .int .i64 wh], .row k sz_l f_l, .int .i64 t, .int .i64 lim] = some ((sz_T = 1 ∧ IntR n 1 f_T) ∧ (sz_H = 1 ∧ IntR m 1 f_H) ∧ (sz_l = 8 ∧ IntR k 8 f_l), .bool true) := rfl
theorem airRuns_base : Base Try.prog 3 airRunsBase := by
  intro args p v hq hp
  unfold airRunsBase at hq
  split at hq
  rotate_left
  · cases hq
  rename_i R n sz_T f_T m sz_H f_H bl bh wl wh k sz_l f_l t lim
  cases hq
  obtain ⟨⟨rfl, i_T⟩, ⟨rfl, i_H⟩, ⟨rfl, i_l⟩⟩ := hp
  refine base_of (C := cx [] [] [(9, manyBase), (10, awakeBase), (11, holdsPBase), (12, holdsRBase), (13, runPBase), (14, runRBase), (15, fogPBase), (16, fogRBase), (17, rustPBase), (18, rustRBase)] [] none) (cx_ok trivial ⟨many_base, awake_base, holdsP_base, holdsR_base, runP_base, runR_base, fogP_base, fogR_base, rustP_base, rustR_base, trivial⟩) rfl (g := 3) (fn := Try.f3)
    (args' := [.agg [.int .i64 R, .row n 1 (rowF .i64 (ivf f_T)), .row m 1 (rowF .i64 (ivf f_H)), .int .i64 bl, .int .i64 bh], .agg [.int .i64 wl, .int .i64 wh], .row k 8 (rowF .i64 (ivf f_l)), .int .i64 t, .int .i64 lim]) (fn_3) rfl 1000 (by
    simp only [BdL, Bd, and_self, and_true, true_and]
    exact ⟨⟨(fun i j hi hj => by rw [i_T i j hi hj]; trivial), (fun i j hi hj => by rw [i_H i j hi hj]; trivial)⟩, (fun i j hi hj => by rw [i_l i j hi hj]; trivial)⟩) ⟨SameD.agg ⟨SameD.rfl' _, SameD.int i_T, SameD.int i_H, SameD.rfl' _, SameD.rfl' _, trivial⟩, SameD.rfl' _, SameD.int i_l, SameD.rfl' _, SameD.rfl' _, trivial⟩ ?_
  generalize ivf f_T = T
  generalize ivf f_H = H
  generalize ivf f_l = l
  simp only [rowF_eq]
  simp only [many_eq, awake_eq, holdsP_eq, holdsR_eq, runP_eq, runR_eq, fogP_eq, fogR_eq, rustP_eq, rustR_eq, two, rTup, thr, spn, Try.f3, go_sem, ↓reduceIte, Nat.reduceAdd, Nat.reduceSub, Nat.reduceMul, Nat.reduceEqDiff, Nat.reduceLT, Nat.reduceLeDiff, Int.reduceToNat, Int.reduceLE, Int.reduceLT, Int.reduceEq, Int.reduceNeg, reduceCtorEq]
  exact ⟨.inl trivial, fun _ => trivial, fun _ => trivial⟩
def airDryersBase : BaseF := fun args => match args with
  | [.agg [.int .i64 R, .row n sz_T f_T, .row m sz_H f_H, .int .i64 bl, .int .i64 bh], .agg [.int .i64 wl, .int .i64 wh], .row k sz_l f_l] => some ((sz_T = 1 ∧ IntR n 1 f_T) ∧ (sz_H = 1 ∧ IntR m 1 f_H) ∧ (sz_l = 8 ∧ IntR k 8 f_l), .bool true)
  | _ => none
theorem airDryers_eq (R : Int) (n : Nat) (sz_T : Nat) (f_T : Nat → Nat → SV) (m : Nat) (sz_H : Nat) (f_H : Nat → Nat → SV) (bl : Int) (bh : Int) (wl : Int) (wh : Int) (k : Nat) (sz_l : Nat) (f_l : Nat → Nat → SV) : airDryersBase [.agg [.int .i64 R, .row n sz_T f_T, .row m sz_H f_H, .int .i64 bl, .int .i64 bh], .agg [.int .i64 wl, .int .i64 wh], .row k sz_l f_l] = some ((sz_T = 1 ∧ IntR n 1 f_T) ∧ (sz_H = 1 ∧ IntR m 1 f_H) ∧ (sz_l = 8 ∧ IntR k 8 f_l), .bool true) := rfl
theorem airDryers_base : Base Try.prog 4 airDryersBase := by
  intro args p v hq hp
  unfold airDryersBase at hq
  split at hq
  rotate_left
  · cases hq
  rename_i R n sz_T f_T m sz_H f_H bl bh wl wh k sz_l f_l
  cases hq
  obtain ⟨⟨rfl, i_T⟩, ⟨rfl, i_H⟩, ⟨rfl, i_l⟩⟩ := hp
  refine base_of (C := cx [] [] [(9, manyBase), (10, awakeBase), (19, dryerPBase), (20, dryerRBase)] [] none) (cx_ok trivial ⟨many_base, awake_base, dryerP_base, dryerR_base, trivial⟩) rfl (g := 4) (fn := Try.f4)
    (args' := [.agg [.int .i64 R, .row n 1 (rowF .i64 (ivf f_T)), .row m 1 (rowF .i64 (ivf f_H)), .int .i64 bl, .int .i64 bh], .agg [.int .i64 wl, .int .i64 wh], .row k 8 (rowF .i64 (ivf f_l))]) (fn_4) rfl 1000 (by
    simp only [BdL, Bd, and_self, and_true, true_and]
    exact ⟨⟨(fun i j hi hj => by rw [i_T i j hi hj]; trivial), (fun i j hi hj => by rw [i_H i j hi hj]; trivial)⟩, (fun i j hi hj => by rw [i_l i j hi hj]; trivial)⟩) ⟨SameD.agg ⟨SameD.rfl' _, SameD.int i_T, SameD.int i_H, SameD.rfl' _, SameD.rfl' _, trivial⟩, SameD.rfl' _, SameD.int i_l, trivial⟩ ?_
  generalize ivf f_T = T
  generalize ivf f_H = H
  generalize ivf f_l = l
  simp only [rowF_eq]
  simp only [many_eq, awake_eq, dryerP_eq, dryerR_eq, two, Try.f4, go_sem, ↓reduceIte, Nat.reduceAdd, Nat.reduceSub, Nat.reduceMul, Nat.reduceEqDiff, Nat.reduceLT, Nat.reduceLeDiff, Int.reduceToNat, Int.reduceLE, Int.reduceLT, Int.reduceEq, Int.reduceNeg, reduceCtorEq]
  exact ⟨.inl trivial, fun _ => trivial, fun _ => trivial⟩
end Go.Eng
end

/- air: warmer air: the plain words. -/
section
namespace Go.Eng
theorem fstT_mono {n : Nat} {T : Nat → Nat → Int} {t t' : Int} (h : t ≤ t') : fstT n T t ≤ fstT n T t' := by
  obtain ⟨a1, a2, a3⟩ := fstT_spec (n := n) (T := T) (t := t)
  obtain ⟨b1, b2, b3⟩ := fstT_spec (n := n) (T := T) (t := t')
  rcases Nat.lt_or_ge (fstT n T t') (fstT n T t) with h1 | h1
  · have := a2 _ h1
    have := b3 (by omega)
    omega
  · exact h1
/-- What it holds, but for the room. -/
def hv (n : Nat) (T H : Nat → Nat → Int) (t : Int) : Int := holdV 1 n T H t
section
variable {R : Int} {n m : Nat} {T H : Nat → Nat → Int} {bl bh : Int}
theorem hv_eq (t : Int) : holdV R n T H t = hv n T H t * R := by
  unfold hv holdV
  split <;> simp
/-- Between its neighbours. -/
theorem hv_rng (h : airB R n m T H bl bh = true) {t : Int} (ht : in3 t (T 0 0) (T (n - 1) 0) = true) : (T (fstT n T t) 0 = t ∧ hv n T H t = H (fstT n T t) 0) ∨
    (T (fstT n T t) 0 ≠ t ∧ 0 < fstT n T t ∧ hv n T H t = H (fstT n T t - 1) 0 + (H (fstT n T t) 0 - H (fstT n T t - 1) 0) * (t - T (fstT n T t - 1) 0) / (T (fstT n T t) 0 - T (fstT n T t - 1) 0) ∧
      H (fstT n T t - 1) 0 ≤ hv n T H t ∧ hv n T H t ≤ H (fstT n T t) 0) := by
  obtain ⟨h1, h2⟩ := fst_in h ht
  by_cases he : T (fstT n T t) 0 = t
  · exact .inl ⟨he, by unfold hv holdV; rw [if_pos he]; simp⟩
  · obtain ⟨k1, k2, k3⟩ := h2 he
    have hh : hv n T H t = H (fstT n T t - 1) 0 + (H (fstT n T t) 0 - H (fstT n T t - 1) 0) * (t - T (fstT n T t - 1) 0) / (T (fstT n T t) 0 - T (fstT n T t - 1) 0) := by unfold hv holdV; rw [if_neg he]; simp
    have a3 := (airB_up h).2 1 (fstT n T t - 1) (by omega)
    rw [show fstT n T t - 1 + 1 = fstT n T t by omega] at a3
    have d0 := Int.ediv_nonneg (a := (H (fstT n T t) 0 - H (fstT n T t - 1) 0) * (t - T (fstT n T t - 1) 0)) (b := T (fstT n T t) 0 - T (fstT n T t - 1) 0) (Int.mul_nonneg (by omega) (by omega)) (by omega)
    have d1 : (H (fstT n T t) 0 - H (fstT n T t - 1) 0) * (t - T (fstT n T t - 1) 0) / (T (fstT n T t) 0 - T (fstT n T t - 1) 0) ≤ H (fstT n T t) 0 - H (fstT n T t - 1) 0 := by
      apply Int.ediv_le_of_le_mul (by omega)
      exact Int.mul_le_mul_of_nonneg_left (by omega) (by omega)
    exact .inr ⟨he, k1, hh, by omega, by omega⟩
theorem airB_upH (h : airB R n m T H bl bh = true) {i j : Nat} (hij : i ≤ j) (hj : j < n) : H i 0 ≤ H j 0 := by
  have := (airB_up h).2 (j - i) i (by omega)
  rwa [show i + (j - i) = j by omega] at this
theorem hv_mono (h : airB R n m T H bl bh = true) {t t' : Int} (ht : in3 t (T 0 0) (T (n - 1) 0) = true) (ht' : in3 t' (T 0 0) (T (n - 1) 0) = true) (hle : t ≤ t') : hv n T H t ≤ hv n T H t' := by
  have hm := fstT_mono (n := n) (T := T) hle
  have hn' := (fst_in h ht').1
  have q := hv_rng h ht
  have q' := hv_rng h ht'
  rcases Nat.lt_or_ge (fstT n T t) (fstT n T t') with h1 | h1
  · have u1 := airB_upH h (i := fstT n T t) (j := fstT n T t' - 1) (by omega) (by omega)
    have u2 := airB_upH h (i := fstT n T t' - 1) (j := fstT n T t') (by omega) hn'
    rcases q with ⟨_, q⟩ | ⟨_, _, _, _, q⟩ <;> rcases q' with ⟨_, q'⟩ | ⟨_, _, _, q', _⟩ <;> omega
  · have e : fstT n T t' = fstT n T t := by omega
    rw [e] at q' hn'
    generalize fstT n T t = S at *
    rcases q with ⟨e1, q⟩ | ⟨e1, p1, f1, _, q⟩
    · rcases q' with ⟨e2, q'⟩ | ⟨e2, p2, f2, q', _⟩
      · omega
      · have hs := (fst_in h ht').2 (by rw [e]; exact e2)
        rw [e] at hs
        omega
    · rcases q' with ⟨e2, q'⟩ | ⟨e2, p2, f2, _, _⟩
      · omega
      · rw [f1, f2]
        have a3 := airB_upH h (i := S - 1) (j := S) (by omega) hn'
        have a4 := (airB_up h).1 1 (S - 1) (by omega)
        rw [show S - 1 + 1 = S by omega] at a4
        have : (H S 0 - H (S - 1) 0) * (t - T (S - 1) 0) ≤ (H S 0 - H (S - 1) 0) * (t' - T (S - 1) 0) := Int.mul_le_mul_of_nonneg_left (by omega) (by omega)
        have := Int.ediv_le_ediv (c := T S 0 - T (S - 1) 0) (by omega) this
        omega
theorem fstT_at (h : airB R n m T H bl bh = true) {i : Nat} (hi : i < n) : fstT n T (T i 0) = i := by
  refine fstT_eq (by omega) (fun j hj => ?_) (fun _ => Int.le_refl _)
  have := (airB_up h).1 (i - j) j (by omega)
  rw [show j + (i - j) = i by omega] at this
  omega
theorem hv_at (h : airB R n m T H bl bh = true) {i : Nat} (hi : i < n) : hv n T H (T i 0) = H i 0 := by
  unfold hv holdV
  rw [fstT_at h hi, if_pos rfl]
  simp
theorem in3_at (h : airB R n m T H bl bh = true) {i : Nat} (hi : i < n) : in3 (T i 0) (T 0 0) (T (n - 1) 0) = true := by
  have u := airB_upT h
  exact in3_iff.2 ⟨u 0 i (by omega) hi, u i (n - 1) (by omega) (by omega)⟩
end
end Go.Eng
end

/- air: AirHolds. -/
section
namespace Go.Eng
open Go Go.RowKit Go.Proofs
set_option maxRecDepth 100000
set_option maxHeartbeats 4000000
attribute [local irreducible] OwnT DefS
theorem holdsO_cases (R : Int) (n m : Nat) (T H : Nat → Nat → Int) (bl bh t : Int) : holdsO R n m T H bl bh t = (0, 1) ∨ holdsO R n m T H bl bh t = (0, 2) ∨ (airB R n m T H bl bh = true ∧ in3 t (T 0 0) (T (n - 1) 0) = true ∧ holdsO R n m T H bl bh t = (hv n T H t * R, 0)) := by
  cases h1 : airB R n m T H bl bh with
  | false => exact .inl (by simp [holdsO, h1])
  | true =>
    cases h2 : in3 t (T 0 0) (T (n - 1) 0) with
    | false => exact .inr (.inl (by simp [holdsO, h1, h2]))
    | true => exact .inr (.inr ⟨rfl, rfl, by simp [holdsO, h1, h2, hv_eq]⟩)
theorem wf_u16 {x : Int} (h : (Lit.int IntKind.u16 x).wf = true) : 0 ≤ x ∧ x < 65536 := by
  simp [Lit.wf, IntKind.min, IntKind.max, IntKind.signed, IntKind.bits] at h
  omega
def airHoldsBase : BaseF := fun args => match args with
  | [.agg [.int .i64 R, .row n sz_T f_T, .row m sz_H f_H, .int .i64 bl, .int .i64 bh], .int .i64 t, .int .u16 warm] => some ((sz_T = 1 ∧ IntR n 1 f_T) ∧ (sz_H = 1 ∧ IntR m 1 f_H) ∧ ((Lit.int .u16 warm).wf = true), .bool true)
  | _ => none
theorem airHolds_eq (R : Int) (n : Nat) (sz_T : Nat) (f_T : Nat → Nat → SV) (m : Nat) (sz_H : Nat) (f_H : Nat → Nat → SV) (bl : Int) (bh : Int) (t : Int) (warm : Int) : airHoldsBase [.agg [.int .i64 R, .row n sz_T f_T, .row m sz_H f_H, .int .i64 bl, .int .i64 bh], .int .i64 t, .int .u16 warm] = some ((sz_T = 1 ∧ IntR n 1 f_T) ∧ (sz_H = 1 ∧ IntR m 1 f_H) ∧ ((Lit.int .u16 warm).wf = true), .bool true) := rfl
theorem airHolds_base : Base Try.prog 8 airHoldsBase := by
  intro args p v hq hp
  unfold airHoldsBase at hq
  split at hq
  rotate_left
  · cases hq
  rename_i R n sz_T f_T m sz_H f_H bl bh t warm
  cases hq
  obtain ⟨⟨rfl, i_T⟩, ⟨rfl, i_H⟩, wf_warm⟩ := hp
  refine base_of (C := cx [] [] [(9, manyBase), (10, awakeBase), (11, holdsPBase), (28, airBase), (29, tempBase)] [(8, 9, p8_9), (8, 10, p8_10), (8, 15, p8_15), (8, 16, p8_16)] none) (cx_ok trivial ⟨many_base, awake_base, holdsP_base, air_base, temp_base, trivial⟩) rfl (g := 8) (fn := Try.f8)
    (args' := [.agg [.int .i64 R, .row n 1 (rowF .i64 (ivf f_T)), .row m 1 (rowF .i64 (ivf f_H)), .int .i64 bl, .int .i64 bh], .int .i64 t, .int .u16 warm]) (fn_8) rfl 1000 (by
    simp only [BdL, Bd, and_self, and_true, true_and]
    exact ⟨(fun i j hi hj => by rw [i_T i j hi hj]; trivial), (fun i j hi hj => by rw [i_H i j hi hj]; trivial)⟩) ⟨SameD.agg ⟨SameD.rfl' _, SameD.int i_T, SameD.int i_H, SameD.rfl' _, SameD.rfl' _, trivial⟩, SameD.rfl' _, SameD.rfl' _, trivial⟩ ?_
  generalize ivf f_T = T
  generalize ivf f_H = H
  simp only [rowF_eq]
  simp only [many_eq, awake_eq, holdsP_eq, air_eq, temp_eq, p8_9, p8_10, p8_15, p8_16, two, intR_0, Try.f8, go_sem, ↓reduceIte, Nat.reduceAdd, Nat.reduceSub, Nat.reduceMul, Nat.reduceEqDiff, Nat.reduceLT, Nat.reduceLeDiff, Int.reduceToNat, Int.reduceLE, Int.reduceLT, Int.reduceEq, Int.reduceNeg, reduceCtorEq]
  have hw := wf_u16 wf_warm
  refine ⟨.inr trivial, fun _ => trivial, fun c0 => ⟨fun c1 => ?_, fun c1 => ?_⟩⟩
  · rcases holdsO_cases R n m T H bl bh t with h | h | ⟨h1, h2, h3⟩
    · rw [h]; simp [spl]
    · rw [h]; simp [spl]
    · rw [h3] at c1; cases c1
  obtain ⟨h1, h2, h3⟩ : airB R n m T H bl bh = true ∧ in3 t (T 0 0) (T (n - 1) 0) = true ∧ holdsO R n m T H bl bh t = (hv n T H t * R, 0) := by
    rcases holdsO_cases R n m T H bl bh t with h | h | h
    · rw [h] at c1; cases c1
    · rw [h] at c1; cases c1
    · exact h
  have hA := (airB_iff.1 h1).1
  have hn : m = n := hA.2.1
  have hn1 : IntKind.i64.wrap ((n : Int) - 1) = ((n - 1 : Nat) : Int) := by rw [wrap_id (by omega) (by omega)]; omega
  have ht := in3_iff.1 h2
  have hT := fun i (hi : i < n) => airB_at h1 hi
  have T0 := hT 0 (by omega)
  have Tn := hT (n - 1) (by omega)
  have ww : IntKind.i64.wrap warm = warm := wrap_id (by omega) (by omega)
  have wt : IntKind.i64.wrap (t + warm) = t + warm := wrap_id (by omega) (by omega)
  have i2 : in3 (min (T (n - 1) 0) (t + warm)) (T 0 0) (T (n - 1) 0) = true := in3_iff.2 (by omega)
  have e2 : holdsO R n m T H bl bh (min (T (n - 1) 0) (t + warm)) = (hv n T H (min (T (n - 1) 0) (t + warm)) * R, 0) := by simp [holdsO, h1, i2, hv_eq]
  have m1 := hv_mono h1 h2 i2 (by omega)
  have m2 := hv_mono h1 (in3_at h1 (i := 0) (by omega)) h2 ht.1
  have m3 := hv_mono h1 h2 (in3_at h1 (i := n - 1) (by omega)) ht.2
  rw [hv_at h1 (by omega)] at m2 m3
  have k1 := Int.mul_le_mul_of_nonneg_right m1 (show 0 ≤ R by omega)
  have k2 := Int.mul_le_mul_of_nonneg_right m2 (show 0 ≤ R by omega)
  have k3 := Int.mul_le_mul_of_nonneg_right m3 (show 0 ≤ R by omega)
  have wRH : ∀ i, i < n → IntKind.i64.wrap (R * H i 0) = H i 0 * R := fun i hi => by
    have := hT i hi
    have q0 : 0 ≤ H i 0 * R := Int.mul_nonneg (by omega) (by omega)
    have q1 : H i 0 * R ≤ 100000 * 1048576 := Int.mul_le_mul (by omega) (by omega) (by omega) (by omega)
    rw [Int.mul_comm, wrap_id (by omega) (by omega)]
  have tm : (hv n T H t * R).tmod R = 0 := Int.mul_tmod_left _ _
  simp only [h1, h2, h3, hn1, ww, wt, Int.toNat_natCast, e2, wRH 0 (by omega), wRH (n - 1) (by omega), tm, decide_true, Bool.not_true, spl_false]
  refine ⟨by omega, ⟨by kernel_rfl, by kernel_rfl⟩, ⟨by omega, by omega⟩, ⟨by kernel_rfl, by kernel_rfl⟩, fun c4 => ?_, fun _ => ⟨by omega, fun c4 => ?_, fun _ => ⟨by omega, fun c4 => ?_, fun _ => ⟨by omega, ?_⟩⟩⟩⟩
  · simp only [decide_eq_true_eq] at c4; omega
  · simp only [decide_eq_true_eq] at c4; omega
  · simp only [decide_eq_true_eq] at c4; omega
  refine loop_ofH { i : Nat // i ≤ n } (fun i => [(12, .int .i64 (i.1 : Int)), (9, .int .i64 ((n - 1 : Nat) : Int)), (7, .int .i64 (hv n T H t * R)), (3, .ptr 0 0), (1, .int .i64 t)]) (fun h _ => h) (fun i => n - i.1) (fun _ => ⟨rfl, rfl⟩) ⟨0, by omega⟩ (by (apply sub_of <;> simp only [go_sem, ↓reduceIte, Nat.reduceAdd, Nat.reduceSub, Nat.reduceMul, Nat.reduceEqDiff, Nat.reduceLT, Nat.reduceLeDiff, Int.reduceToNat, Int.reduceLE, Int.reduceLT, Int.reduceEq, Int.reduceNeg, reduceCtorEq] <;> (try simp [catF]) <;> (try exact fun j _ => Bd_nth (by simp [BdL, Bd]) j) <;> (try exact bd_setL (by simp [bdAs, BdL, Bd])))) ?_
  rintro ⟨i, hi⟩
  simp only [many_eq, awake_eq, holdsP_eq, air_eq, temp_eq, p8_9, p8_10, p8_15, p8_16, two, intR_0, Try.f8, go_sem, ↓reduceIte, Nat.reduceAdd, Nat.reduceSub, Nat.reduceMul, Nat.reduceEqDiff, Nat.reduceLT, Nat.reduceLeDiff, Int.reduceToNat, Int.reduceLE, Int.reduceLT, Int.reduceEq, Int.reduceNeg, reduceCtorEq]
  have hw3 : IntKind.i64.wrap ((i : Int) + 1) = ((i + 1 : Nat) : Int) := by rw [wrap_id (by omega) (by omega)]; omega
  refine ⟨fun e1 => ?_, fun e1 => ?_⟩
  · simp only [decide_eq_true_eq] at e1
    have ik : i < n := by omega
    have e3 : holdsO R n m T H bl bh (T i 0) = (H i 0 * R, 0) := by simp [holdsO, h1, in3_at h1 ik, hv_eq, hv_at h1 ik]
    simp only [e3, wRH i ik, decide_true, Bool.not_true, spl_false]
    refine ⟨⟨by kernel_rfl, by kernel_rfl⟩, ⟨by omega, by omega⟩, ⟨by kernel_rfl, by kernel_rfl⟩, ⟨by omega, by omega⟩, ⟨i + 1, by omega⟩, by simp only []; omega, ?_⟩
    apply sub_of <;> simp only [hw3, go_sem, ↓reduceIte, Nat.reduceAdd, Nat.reduceSub, Nat.reduceMul, Nat.reduceEqDiff, Nat.reduceLT, Nat.reduceLeDiff, Int.reduceToNat, Int.reduceLE, Int.reduceLT, Int.reduceEq, Int.reduceNeg, reduceCtorEq] <;> (try simp) <;> (try exact fun j _ => Bd_nth (by simp [BdL, Bd]) j) <;> (try exact bd_setL (by simp [bdAs, BdL, Bd]))
  · simp only [decide_eq_false_iff_not] at e1
    have w2 : IntKind.i64.wrap (2 * R) = 2 * R := wrap_id (by omega) (by omega)
    simp only [w2]
    refine ⟨fun _ => trivial, fun c5 => ?_⟩
    simp only [decide_eq_false_iff_not] at c5
    have h1' : airB (2 * R) n m T H bl bh = true := airB_iff.2 ⟨⟨by omega, hA.2⟩, (airB_iff.1 h1).2⟩
    have e4 : holdsO (2 * R) n m T H bl bh t = (hv n T H t * (2 * R), 0) := by simp [holdsO, h1', h2, hv_eq]
    have q1 : H (n - 1) 0 * R ≤ 100000 * 1048576 := Int.mul_le_mul (by omega) (by omega) (by omega) (by omega)
    have q0 : 0 ≤ H 0 0 * R := Int.mul_nonneg (by omega) (by omega)
    rw [e4, wrap_id (by omega) (by omega), Int.mul_left_comm]
    simp [spl]
end Go.Eng
end

/- From what the statement says of its arguments to symbolic values. -/
section
namespace Go.Eng
open Go Go.RowKit Go.ChangeShapes Go.WideShapes

/-- What a cell is: a number, a bool, or a slice of such cells. -/
inductive Sh where
  | int (k : IntKind)
  | bool
  | sl (e : List Sh)
def shF (P : Program) (rec : Nat → Option (List Sh)) : List Field → Nat → Option (List Sh)
  | [], _ => some []
  | f :: fs, off => if f.offset = off then match rec f.type with
    | some a => if a.length = P.cellsOf f.type then match shF P rec fs (off + a.length) with
      | some b => some (a ++ b)
      | none => none
      else none
    | none => none
    else none
def repS (s : List Sh) : Nat → List Sh
  | 0 => []
  | n + 1 => s ++ repS s n
def shT (P : Program) : Nat → Nat → Option (List Sh)
  | 0, _ => none
  | d + 1, t => match P.underlying t with
    | some (.int k) => some [.int k]
    | some .bool => some [.bool]
    | some (.slice e) => match shT P d e with
      | some s => if s.length = P.cellsOf e ∧ 0 < s.length then some [.sl s] else none
      | none => none
    | some (.struct fs) => match shF P (shT P d) fs.toList 0 with
      | some s => if s.length = P.cellsOf t then some s else none
      | none => none
    | some (.array n e) => match shT P d e with
      | some s => if s.length = P.cellsOf e ∧ (repS s n).length = P.cellsOf t then some (repS s n) else none
      | none => none
    | _ => none
inductive Typ : Sh → SV → Prop
  | int {k : IntKind} {n : Int} (h : (Lit.int k n).wf = true) : Typ (.int k) (.int k n)
  | bool (b : Bool) : Typ .bool (.bool b)
  | sl {e : List Sh} {n : Nat} {f : Nat → Nat → SV} (hn : n ≤ maxLen) (h : ∀ i j sh, i < n → e[j]? = some sh → Typ sh (f i j)) : Typ (.sl e) (.row n e.length f)
def Env.emp : Env := { nb := 0, rho := id, nv := 0, val := fun _ _ => none, own := fun _ => none }
theorem emp_rel (w : World) : RelH Env.emp ⟨[], []⟩ w :=
  ⟨rfl, rfl, fun nm ty c h => by simp [getB] at h, fun id a b c d e h => by simp [getV] at h, fun b t hb => by simp [Env.emp] at hb, fun nm st pend fid t params assign body hb => by simp [getB] at hb⟩
/-- Cells that read as shapes are denoted. -/
def CellsD (w : World) (shs : List Sh) (cs : List Value) : Prop :=
  cs.length = shs.length ∧ ∃ xs : List SV, xs.length = shs.length ∧ ∀ (j : Nat) (a : SV) (v : Value) (sh : Sh), xs[j]? = some a → cs[j]? = some v → shs[j]? = some sh → Den Env.emp w a v ∧ Typ sh a ∧ v.oneCell' = true
theorem CellsD.app {w : World} {s1 s2 : List Sh} {c1 c2 : List Value} (h1 : CellsD w s1 c1) (h2 : CellsD w s2 c2) : CellsD w (s1 ++ s2) (c1 ++ c2) := by
  obtain ⟨a1, x1, b1, d1⟩ := h1
  obtain ⟨a2, x2, b2, d2⟩ := h2
  refine ⟨by simp [a1, a2], x1 ++ x2, by simp [b1, b2], fun j a v sh ha hv hs => ?_⟩
  by_cases hj : j < s1.length
  · rw [List.getElem?_append_left (by omega)] at ha hv hs
    exact d1 j a v sh ha hv hs
  · rw [List.getElem?_append_right (by omega)] at ha hv hs
    rw [b1] at ha; rw [a1] at hv
    exact d2 _ a v sh ha hv hs
section
variable {H : Type} {enc : TypeId × Value → H} {P : Program} {w : World} {held : Bool}
theorem fields_ok {rec : Nat → Option (List Sh)} {n : Nat} {cs : List Value} (hrec : ∀ t s c x, rec t = some s → DataW.trod enc P w 0 (fun _ => true) held n t c = some x → CellsD w s c) :
    ∀ (fs : List Field) (off : Nat) (s : List Sh), shF P rec fs off = some s → (∀ (i : Nat) (f : Field), fs[i]? = some f → ∃ x, DataW.trod enc P w 0 (fun _ => true) held n f.type ((cs.drop f.offset).take (P.cellsOf f.type)) = some x) → CellsD w s ((cs.drop off).take s.length)
  | [], off, s, h, _ => by simp only [shF, Option.some.injEq] at h; subst h; exact ⟨by simp, [], rfl, fun j a v sh ha => by simp at ha⟩
  | f :: fs, off, s, h, hx => by
    simp only [shF] at h
    split at h
    · rename_i ho
      split at h
      · rename_i a ha
        split at h
        · rename_i hl
          split at h
          · rename_i b hb
            cases h
            obtain ⟨x, hx0⟩ := hx 0 f rfl
            have h1 := hrec _ _ _ _ ha hx0
            have h2 := fields_ok hrec fs _ _ hb (fun i f hf => hx (i + 1) f (by simpa using hf))
            rw [ho, ← hl] at h1
            have e : (cs.drop off).take (a ++ b).length = (cs.drop off).take a.length ++ (cs.drop (off + a.length)).take b.length := by
              rw [List.length_append, List.take_add, List.drop_drop]
            rw [e]
            exact h1.app h2
          · cases h
        · cases h
      · cases h
    · cases h
theorem arr_ok {s : List Sh} {cs : List Value} : ∀ (n off : Nat), (∀ i, i < n → CellsD w s ((cs.drop (off + i * s.length)).take s.length)) → CellsD w (repS s n) ((cs.drop off).take (repS s n).length)
  | 0, off, _ => ⟨by simp [repS], [], rfl, fun j a v sh ha => by simp at ha⟩
  | n + 1, off, h => by
    have h1 := h 0 (by omega)
    have h2 := arr_ok n (off + s.length) (fun i hi => by have := h (i + 1) (by omega); rw [Nat.succ_mul] at this; rw [show off + s.length + i * s.length = off + (i * s.length + s.length) by omega]; exact this)
    have e : (cs.drop off).take (repS s (n + 1)).length = (cs.drop off).take s.length ++ (cs.drop (off + s.length)).take (repS s n).length := by
      simp only [repS]
      rw [List.length_append, List.take_add, List.drop_drop]
    rw [e]
    simp only [repS]
    exact CellsD.app (by simpa using h1) h2

theorem trod_den : ∀ (d : Nat) (t : Nat) (cs : List Value) (fuel : Nat) (x : DataW H × List MemPlace) (shs : List Sh), shT P d t = some shs → DataW.trod enc P w 0 (fun _ => true) held fuel t cs = some x → CellsD w shs cs := by
  intro d
  induction d with
  | zero => intro t cs fuel x shs h; simp [shT] at h
  | succ d ih =>
    intro t cs fuel x shs h hx
    simp only [shT] at h
    have one : ∀ (a : SV) (v : Value) (sh : Sh), Den Env.emp w a v → Typ sh a → v.oneCell' = true → CellsD w [sh] [v] := fun a v sh h1 h2 h3 => ⟨rfl, [a], rfl, fun j b u s hb hu hs => by
      cases j with
      | zero => simp at hb hu hs; subst hb hu hs; exact ⟨h1, h2, h3⟩
      | succ j => simp at hb⟩
    split at h
    · rename_i k hk
      cases h
      obtain ⟨n, rfl, _, hw⟩ := DataW.trod_int hk hx
      exact one _ _ _ (.int k n) (.int hw) rfl
    · rename_i hk
      cases h
      obtain ⟨b, rfl, _⟩ := DataW.trod_bool hk hx
      exact one _ _ _ (.bool b) (.bool b) rfl
    · rename_i e hk
      split at h
      · rename_i s hs
        split at h
        · rename_i hl
          cases h
          rcases DataW.trod_slice hk hx with ⟨rfl, _⟩ | ⟨a, len, cap, elems, rest, n, _, rfl, _, _, hlc, hcap, hlen, hel, _, _⟩
          · exact one (.row 0 s.length fun _ _ => .any) _ _ (.rowZ _ _) (.sl (Nat.zero_le _) (fun i j sh hi => by omega)) rfl
          · by_cases h0 : len = 0
            · subst h0
              exact one (.row 0 s.length fun _ _ => .any) _ _ (.rowZ _ _) (.sl (Nat.zero_le _) (fun i j sh hi => by omega)) rfl
            · have hi : ∀ i, ∃ xs : List SV, i < len → xs.length = s.length ∧ ∀ (j : Nat) (sh : Sh), s[j]? = some sh → ∃ a' v, xs[j]? = some a' ∧ w.cell? (a.add (i * s.length + j)) = some v ∧ Den Env.emp w a' v ∧ Typ sh a' ∧ v.oneCell' = true := by
                intro i
                by_cases hil : i < len
                · have h1 := hel i hil
                  have h2 : elems[i]? = some (elems[i]'(by omega)) := List.getElem?_eq_getElem (by omega)
                  rw [h2] at h1
                  cases hc : w.cells? 0 (a.add (i * P.cellsOf e)) (P.cellsOf e) with
                  | none => rw [hc] at h1; cases h1
                  | some cs' =>
                    rw [hc] at h1
                    obtain ⟨q1, xs, q2, q3⟩ := ih e cs' n _ s hs h1
                    refine ⟨xs, fun _ => ⟨q2, fun j sh hj => ?_⟩⟩
                    have hjl : j < s.length := (List.getElem?_eq_some_iff.1 hj).1
                    obtain ⟨_, hcl, hat⟩ := World.cells?_some hc
                    have hcj := hat j (by omega)
                    have e1 : cs'[j]? = some (cs'[j]'(by omega)) := List.getElem?_eq_getElem (by omega)
                    have e2 : xs[j]? = some (xs[j]'(by omega)) := List.getElem?_eq_getElem (by omega)
                    obtain ⟨r1, r2, r3⟩ := q3 j _ _ sh e2 e1 hj
                    rw [e1] at hcj
                    have hadd : (a.add (i * P.cellsOf e)).add j = a.add (i * s.length + j) := by
                      rw [hl.1, Addr.add_add]
                    rw [hadd] at hcj
                    exact ⟨_, _, e2, hcj, r1, r2, r3⟩
                · exact ⟨[], fun h => absurd h hil⟩
              obtain ⟨F, hF⟩ := Classical.skolem.1 hi
              have hcell : ∀ i j, i < len → j < s.length → ∃ a' v, (F i)[j]? = some a' ∧ w.cell? (a.add (i * s.length + j)) = some v ∧ Den Env.emp w a' v ∧ v.oneCell' = true := fun i j hil hj => by
                obtain ⟨_, h2⟩ := hF i hil
                obtain ⟨a', v, k1, k2, k3, _, k5⟩ := h2 j _ (List.getElem?_eq_getElem hj)
                exact ⟨a', v, k1, k2, k3, k5⟩
              have hb : a.block < w.heap.size := by
                obtain ⟨_, v, _, k2, _⟩ := hcell 0 0 (by omega) hl.2
                have := block_of_cell k2
                rwa [add_block] at this
              refine one (.row len s.length fun i j => nth (F i) j) _ _ (.row a cap (fun i j => (w.cell? (a.add (i * s.length + j))).getD undef) hb rfl hlc (fun i j hi hj => ?_) (fun i j hi hj => ?_) (fun i j hi hj => ?_)) (.sl (by omega) (fun i j sh hil hj => ?_)) rfl
              · obtain ⟨_, v, _, k2, _⟩ := hcell i j hi hj
                rw [k2]; rfl
              · obtain ⟨_, v, _, k2, _, k5⟩ := hcell i j hi hj
                rw [k2]; exact k5
              · obtain ⟨a', v, k1, k2, k3, _⟩ := hcell i j hi hj
                rw [k2, nth_eq, List.getD, k1]; exact k3
              · obtain ⟨_, h2⟩ := hF i hil
                obtain ⟨a', v, k1, _, _, k4, _⟩ := h2 j sh hj
                rw [nth_eq, List.getD, k1]; exact k4
        · cases h
      · cases h
    · rename_i fs hk
      split at h
      · rename_i s hs
        split at h
        · rename_i hl
          cases h
          obtain ⟨xs, n, _, _, hlen, hxl, hg⟩ := DataW.trod_struct hk hx
          have := fields_ok (cs := cs) (n := n) (fun t s c x h1 h2 => ih t c n x s h1 h2) fs.toList 0 shs hs (fun i f hf => by
            have hf' : fs[i]? = some f := by simpa using hf
            have hil : i < xs.length := by rw [hxl]; exact (Array.getElem?_eq_some_iff.1 hf').1
            exact ⟨xs[i], by rw [hg i f hf']; exact List.getElem?_eq_getElem hil⟩)
          rw [List.drop_zero, hl, ← hlen, List.take_length] at this
          exact this
        · cases h
      · cases h
    · rename_i n e hk
      split at h
      · rename_i s hs
        split at h
        · rename_i hl
          cases h
          obtain ⟨xs, m, _, _, hlen, hxl, hg⟩ := DataW.trod_array hk hx
          have := arr_ok (w := w) (s := s) (cs := cs) n 0 (fun i hi => by
            have h1 := hg i hi
            have hil : i < xs.length := by omega
            rw [List.getElem?_eq_getElem hil] at h1
            rw [Nat.zero_add, hl.1]
            exact ih e _ m _ s hs h1)
          rw [List.drop_zero, hl.2, ← hlen, List.take_length] at this
          exact this
        · cases h
      · cases h
    · cases h

/-- How much room an argument takes. -/
theorem arg_room {r : Reach} {b : Nat} {t e : TypeId} {v : Value} {d : DataW H} {ps : List MemPlace} {n sz : Nat} {f : Nat → Nat → SV} {E : Env} {w' : World} (ht : P.underlying t = some (.slice e)) (hval : Value.okWide P w r b t v)
    (h : DataW.Trod enc P w 0 (fun _ => true) held t v d ps) (hd : Den E w' (.row n sz f) v) {ts : List TypeId} {ds : List (DataW H)} (hw : (DataW.weightsEach P ts ds).all (· ≤ reachBytes) = true) {j : Nat} (hj : ts[j]? = some t) (hdj : ds[j]? = some d) :
    n * P.bytesOf e ≤ reachBytes := by
  obtain ⟨a, len, cap, rfl⟩ := okWide_slice ht hval
  have hn : n = len := by cases hd <;> rfl
  subst hn
  obtain ⟨fuel, hf⟩ := h
  rcases DataW.trod_slice ht hf with ⟨h1, _⟩ | ⟨a', len', cap', elems, rest, m, _, h1, h2, _, _, _, hl, _⟩
  · have : n = 0 := by simp [Value.cells] at h1; exact h1.2.1
    subst this; simp
  · have h3 : n = len' := by simp [Value.cells] at h1; exact h1.2.1
    have h4 : d = .slice (elems.map (·.1)) (rest.map (·.1)) := congrArg Prod.fst h2
    have := sized_slice hw hj (by rw [hdj, h4]) ht
    simp only [List.length_map] at this
    refine Nat.le_trans (Nat.mul_le_mul_right _ ?_) this
    omega

/-- A struct, an array. -/
theorem arg_agg {r : Reach} {b : Nat} {t : TypeId} {fs : Array Field} {v : Value} {d : DataW H} {ps : List MemPlace} {shs : List Sh} (ht : P.underlying t = some (.struct fs)) (hs : shT P 12 t = some shs) (hval : Value.okWide P w r b t v) (h : DataW.Trod enc P w 0 (fun _ => true) held t v d ps) :
    ∃ xs : List SV, Den Env.emp w (.agg xs) v ∧ xs.length = shs.length ∧ ∀ (j : Nat) (a : SV) (sh : Sh), xs[j]? = some a → shs[j]? = some sh → Typ sh a := by
  obtain ⟨cs, rfl, hsz⟩ := okWide_struct ht hval
  obtain ⟨fuel, hf⟩ := h
  obtain ⟨q1, xs, q2, q3⟩ := trod_den 12 t _ fuel _ shs hs hf
  have hcl : (Value.agg cs).cells.toList = cs.toList := rfl
  rw [hcl] at q1 q3
  refine ⟨xs, .agg cs (by simpa [q2] using q1) (fun i u hu => ?_) (fun i x u hx hu => ?_), q2, fun j a sh ha hsh => ?_⟩
  · have hil : i < cs.size := (Array.getElem?_eq_some_iff.1 hu).1
    have h1 : i < shs.length := by rw [← q1]; simpa using hil
    exact (q3 i _ u _ (List.getElem?_eq_getElem (by omega)) (by simpa using hu) (List.getElem?_eq_getElem h1)).2.2
  · have hil : i < xs.length := (List.getElem?_eq_some_iff.1 hx).1
    exact (q3 i x u _ hx (by simpa using hu) (List.getElem?_eq_getElem (by omega))).1
  · have hil : j < cs.toList.length := by have := (List.getElem?_eq_some_iff.1 hsh).1; omega
    exact (q3 j a _ sh ha (List.getElem?_eq_getElem hil) hsh).2.1
theorem arg_row {r : Reach} {b : Nat} {t e : TypeId} {v : Value} {d : DataW H} {ps : List MemPlace} {s : List Sh} (ht : P.underlying t = some (.slice e)) (hs : shT P 12 t = some [.sl s]) (hval : Value.okWide P w r b t v) (h : DataW.Trod enc P w 0 (fun _ => true) held t v d ps) :
    ∃ (n : Nat) (f : Nat → Nat → SV), Den Env.emp w (.row n s.length f) v ∧ n ≤ maxLen ∧ ∀ i j sh, i < n → s[j]? = some sh → Typ sh (f i j) := by
  obtain ⟨a, len, cap, rfl⟩ := okWide_slice ht hval
  obtain ⟨fuel, hf⟩ := h
  obtain ⟨q1, xs, q2, q3⟩ := trod_den 12 t _ fuel _ _ hs hf
  match xs, q2 with
  | [x], _ =>
    obtain ⟨k1, k2, _⟩ := q3 0 x (.slice a len cap) (.sl s) rfl rfl rfl
    cases k2 with
    | @sl e n f hn hh => exact ⟨n, f, k1, hn, hh⟩

theorem trodAll_below {W W' : World} (hl : laidOutB P = true) (hb : Below W.heap.size W W') : ∀ {ts : List TypeId} {vs : List Value} {ds : List (DataW H)} {ps : List MemPlace}, (∀ t ∈ ts, P.readableRec t = true ∧ t < P.types.size) →
    DataW.TrodAll enc P W 0 (fun _ => true) true ts vs ds ps → (∀ x ∈ ps, x.block < W.heap.size) → DataW.TrodAll enc P W' 0 (fun b => decide (b < W.heap.size)) true ts vs ds ps
  | [], [], [], _, _, h, _ => h
  | t :: ts, v :: vs, d :: ds, ps, hr, ⟨p, q, h1, h2, e⟩, hlt => by
    subst e
    have := hr t (by simp)
    exact ⟨p, q, Below.trod hl this.1 this.2 h1 hb (fun x hx => hlt x (List.mem_append_left _ hx)), trodAll_below hl hb (fun t ht => hr t (List.mem_cons_of_mem _ ht)) h2 (fun x hx => hlt x (List.mem_append_right _ hx)), rfl⟩
end
/-- A law's end: it returned true, and of what was there nothing turned. -/
theorem law_end {H : Type} {enc : TypeId × Value → H} {P : Program} {f : Func} {s : ChangeSpec} {W W' : World} {args : Array Value} {ds gs : List (DataW H)} {before : List MemPlace} {tb : TypeId}
    (hl : laidOutB P = true) (hres : f.resultTypes = #[tb]) (htb : P.underlying tb = some .bool) (hpar : (f.params.toList.all fun t => P.readableRec t && decide (t < P.types.size)) = true) (hvars : s.vars = [])
    (hW : DataW.Whole enc P f.params.toList s.vars false W args.toList ds gs before) (hfn : s.fn H (ds ++ gs) = { results := [.lit (.bool true)], args := ds, vars := [] }) (hb : Below W.heap.size W W') :
    s.post enc P f false true false false W args (.bool true) W' := by
  have hW0 := hW
  obtain ⟨p, q, hA, hV, rfl, hfz, hnd⟩ := hW
  rw [hvars] at hV
  have hq : gs = [] ∧ q = [] := by
    cases gs with
    | nil => exact ⟨rfl, by simpa [DataW.TrodVars] using hV⟩
    | cons _ _ => simp [DataW.TrodVars] at hV
  obtain ⟨rfl, rfl⟩ := hq
  refine ⟨ds, [], p ++ [], [], p, [], hW0, ?_, ?_, ?_, hb.frame _, fun h => by cases h⟩
  · rw [hfn, hres]
    exact ⟨[], [], shut_bool htb true, rfl, rfl⟩
  · rw [hfn]
    exact trodAll_below hl hb (fun t ht => by have := List.all_eq_true.1 hpar t ht; simpa using this) hA (fun x hx => hW0.lt x (by simpa using hx))
  · rw [hfn, hvars]; rfl
theorem below_of {w w' : World} {E' : Env} (hx : Ext Env.emp w E' w') : Below w.heap.size w w' := ⟨hx.os, hx.tape, hx.output, hx.size, fun k hk => (hx.keep k hk rfl).2⟩
/-- The law's call, by its contract. -/
theorem law_calls {P : Program} {g : Nat} {base : List SV → Option (Prop × SV)} (hb : Base P g base) {args : List SV} {p : Prop} (hq : base args = some (p, .bool true)) (hp : p) {W : World} {vals : Array Value} (hd : DenA Env.emp W args vals) :
    Calls P g vals W fun e W' => e = .returned (.bool true) ∧ Below W.heap.size W W' := by
  obtain ⟨_, h2⟩ := hb _ _ _ hq hp
  refine (h2 Env.emp W vals (emp_rel W) hd).mono ?_
  rintro e w' ⟨o, h', E', ⟨u, rfl, hfl, hsd⟩, hr', hx, hout⟩
  cases e with
  | panicked _ => exact hout.elim
  | outgrown => exact hout.elim
  | returned val =>
    have := hsd.out _ _ _ hout
    cases this
    exact ⟨rfl, below_of hx⟩
def DenL (E : Env) (w : World) : List SV → List Value → Prop
  | [], [] => True
  | x :: l, v :: vs => Den E w x v ∧ DenL E w l vs
  | _, _ => False
theorem DenL.get {E : Env} {w : World} : ∀ {l : List SV} {vs : List Value}, DenL E w l vs → vs.length = l.length ∧ ∀ (i : Nat) (x : SV) (u : Value), l[i]? = some x → vs[i]? = some u → Den E w x u
  | [], [], _ => ⟨rfl, fun i x u h => by simp at h⟩
  | x :: l, v :: vs, h => by
    obtain ⟨h1, h2⟩ := DenL.get h.2
    refine ⟨by simp [h1], fun i y u hy hu => ?_⟩
    cases i with
    | zero => simp at hy hu; subst hy hu; exact h.1
    | succ i => exact h2 i y u (by simpa using hy) (by simpa using hu)
  | [], _ :: _, h => h.elim
  | _ :: _, [], h => h.elim
theorem denA_of {E : Env} {w : World} {l : List SV} {vs : List Value} (h : DenL E w l vs) : DenA E w l vs.toArray :=
  ⟨by simpa using h.get.1, fun i x u hx hu => h.get.2 i x u hx (by simpa using hu)⟩
theorem agg_2 {xs : List SV} {k1 k2 : IntKind} (hl : xs.length = 2) (h : ∀ (j : Nat) (a : SV) (sh : Sh), xs[j]? = some a → [Sh.int k1, Sh.int k2][j]? = some sh → Typ sh a) :
    ∃ x y, xs = [.int k1 x, .int k2 y] ∧ (Lit.int k1 x).wf = true ∧ (Lit.int k2 y).wf = true := by
  match xs, hl with
  | [a, b], _ =>
    have h0 := h 0 a _ rfl rfl
    have h1 := h 1 b _ rfl rfl
    cases h0 with
    | int w0 => cases h1 with
      | int w1 => exact ⟨_, _, rfl, w0, w1⟩
theorem intK_of_typ {k : IntKind} {n c : Nat} {f : Nat → Nat → SV} {e : List Sh} (he : e = List.replicate c (Sh.int k)) (h : ∀ i j sh, i < n → e[j]? = some sh → Typ sh (f i j)) : IntK k n c f ∧ ∀ i j, i < n → j < c → (Lit.int k (iv (f i j))).wf = true := by
  have : ∀ i j, i < n → j < c → ∃ x, f i j = .int k x ∧ (Lit.int k x).wf = true := fun i j hi hj => by
    have := h i j (.int k) hi (by rw [he]; simp [List.getElem?_replicate, hj])
    generalize f i j = x at this
    cases this with
    | int hw => exact ⟨_, rfl, hw⟩
  exact ⟨fun i j hi hj => by obtain ⟨x, hx, _⟩ := this i j hi hj; rw [hx]; rfl, fun i j hi hj => by obtain ⟨x, hx, hw⟩ := this i j hi hj; rw [hx]; exact hw⟩
end Go.Eng
end

/- Cells by their shapes. -/
section
namespace Go.Eng
open Go Go.RowKit
theorem typ_int {k : IntKind} {a : SV} (h : Typ (.int k) a) : ∃ n, a = .int k n ∧ (Lit.int k n).wf = true := by
  cases h with
  | int h => exact ⟨_, rfl, h⟩
theorem typ_bool {a : SV} (h : Typ .bool a) : ∃ b, a = .bool b := by
  cases h with
  | bool b => exact ⟨b, rfl⟩
theorem typ_sl {e : List Sh} {a : SV} (h : Typ (.sl e) a) : ∃ n f, a = .row n e.length f ∧ n ≤ maxLen ∧ ∀ i j sh, i < n → e[j]? = some sh → Typ sh (f i j) := by
  cases h with
  | sl hn h => exact ⟨_, _, rfl, hn, h⟩
end Go.Eng
end

/-
  AirHolds: for every input the law returns true, and each argument reads afterwards as it read before. No condition.
-/
section
namespace Go.Proofs.Ytnomakoomapdbaa.airHolds
open Go.ChangeShapes Go.WideShapes Go.ChangeAt Go.RowKit Go.Eng
set_option linter.unusedVariables false
theorem own : ownKnob Try.prog.godebug = none := by kernel_rfl
theorem laid : laidOutB Try.prog = true := by kernel_rfl
set_option maxRecDepth 100000 in
theorem lifted (os : Os) (started : os.Started) (H : Type) (enc : TypeId × Value → H) :
    ReturnsInHanded {} Try.checked os 8 .any (Rows.airHoldsSpec.pre6 enc Try.prog Try.f8 Rows.airHoldsRow.domain false) (Rows.airHoldsSpec.post enc Try.prog Try.f8 false true false false) := by
  refine returnsInHanded_of_change (C := Try.checked) own started (by kernel_rfl) Try.func8
    (ChangeSpec.witness6 (enc := enc) (C := Try.checked) false ⟨#[], #[.agg #[.int .i64 0, .slice none 0 0, .slice none 0 0, .int .i64 0, .int .i64 0], .int .i64 0, .int .u16 0], []⟩ 8 (by kernel_rfl) (by kernel_rfl) (by kernel_rfl) (by kernel_rfl)) ?_
  intro W base args ds gs before hval0 hW hcnd _
  have hval : ∀ (j : Nat) t v, Try.f8.params[j]? = some t → args[j]? = some v → Value.okWide Try.prog W .any base t v := hval0
  have hW' := hW
  obtain ⟨p, q, hA0, hV, rfl, hfz, hnd⟩ := hW
  have hA : DataW.TrodAll enc Try.prog W 0 (fun _ => true) true Try.f8.params.toList args.toList ds p := hA0
  rw [Try.params8] at hA hval
  obtain ⟨v0, vs0, d0, ds0, p0, q0, hargs, rfl, rfl, h0, r0⟩ := trodAll_cons hA
  obtain ⟨v1, vs1, d1, ds1, p1, q1, rfl, rfl, rfl, h1, r1⟩ := trodAll_cons r0
  obtain ⟨v2, vs2, d2, ds2, p2, q2, rfl, rfl, rfl, h2, r2⟩ := trodAll_cons r1
  obtain ⟨rfl, rfl, rfl⟩ := trodAll_nil r2
  obtain rfl : args = #[v0, v1, v2] := by cases args; simp_all
  obtain ⟨rfl, rfl⟩ := trodVars_none hV
  obtain ⟨xs0, e0, l0, t0⟩ := arg_agg (shs := [.int .i64, .sl [.int .i64], .sl [.int .i64], .int .i64, .int .i64]) Try.underlying26 (by kernel_rfl) (hval 0 26 v0 rfl rfl) h0
  obtain ⟨a0_0, a0_1, a0_2, a0_3, a0_4, rfl⟩ : ∃ a0_0 a0_1 a0_2 a0_3 a0_4, xs0 = [a0_0, a0_1, a0_2, a0_3, a0_4] := by
    match xs0, l0 with
    | [a0_0, a0_1, a0_2, a0_3, a0_4], _ => exact ⟨a0_0, a0_1, a0_2, a0_3, a0_4, rfl⟩
  obtain ⟨x0_0, rfl, w0_0⟩ := typ_int (t0 0 _ _ rfl rfl)
  obtain ⟨n0_1, f0_1, rfl, m0_1, s0_1⟩ := typ_sl (t0 1 _ _ rfl rfl)
  obtain ⟨i0_1, b0_1⟩ := intK_of_typ (k := .i64) (c := 1) rfl s0_1
  obtain ⟨n0_2, f0_2, rfl, m0_2, s0_2⟩ := typ_sl (t0 2 _ _ rfl rfl)
  obtain ⟨i0_2, b0_2⟩ := intK_of_typ (k := .i64) (c := 1) rfl s0_2
  obtain ⟨x0_3, rfl, w0_3⟩ := typ_int (t0 3 _ _ rfl rfl)
  obtain ⟨x0_4, rfl, w0_4⟩ := typ_int (t0 4 _ _ rfl rfl)
  obtain ⟨x1, rfl, rfl, rfl, w1⟩ := open_int Try.underlying3 (hval 1 3 v1 rfl rfl) h1
  obtain ⟨x2, rfl, rfl, rfl, w2⟩ := open_int Try.underlying59 (hval 2 59 v2 rfl rfl) h2
  have hd : DenL Env.emp W [.agg [.int .i64 x0_0, .row n0_1 1 f0_1, .row n0_2 1 f0_2, .int .i64 x0_3, .int .i64 x0_4], .int .i64 x1, .int .u16 x2] [v0, .int .i64 x1, .int .u16 x2] := ⟨e0, .int _ _, .int _ _, trivial⟩
  refine (law_calls airHolds_base (args := [.agg [.int .i64 x0_0, .row n0_1 1 f0_1, .row n0_2 1 f0_2, .int .i64 x0_3, .int .i64 x0_4], .int .i64 x1, .int .u16 x2]) rfl ⟨⟨rfl, fun i j hi hj => i0_1 i j hi hj⟩, ⟨rfl, fun i j hi hj => i0_2 i j hi hj⟩, w2⟩ (denA_of hd)).mono fun e W' ⟨he, hb⟩ => ?_
  subst he
  exact ⟨_, rfl, law_end laid rfl Try.underlying4 (by kernel_rfl) rfl hW' rfl hb⟩
theorem over : Rows.airHoldsRow.holds Try.pinned (OpenSpec.ofChange Rows.airHoldsSpec) :=
  OpenClaim.holds_of_wide 8 Try.f8 rfl rfl rfl rfl rfl rfl rfl ⟨rfl, rfl, rfl, rfl, rfl⟩ rfl rfl rfl rfl rfl (by kernel_rfl) Try.func8 (by kernel_rfl)
    (of_decide_eq_true (by kernel_rfl)) (by unfold Func.isWrapper; first | (rw [if_pos (by decide +kernel)]; kernel_rfl) | (rw [if_neg (by decide +kernel)]; exact ⟨rfl, rfl⟩))
    (fun os started H enc _ => lifted os started H enc)
end Go.Proofs.Ytnomakoomapdbaa.airHolds
namespace Go.Proofs.Ytnomakoomapdbaa
/-- The given statement. -/
theorem airHolds_holds : Rows.AirHoldsSaid := airHolds.over
#print axioms airHolds_holds
end Go.Proofs.Ytnomakoomapdbaa
end
