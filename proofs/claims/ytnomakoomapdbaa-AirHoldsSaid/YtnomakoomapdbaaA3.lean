/-
  A part of the symbolic machine, of its soundness, and of what functions compute. No condition.
-/
import Derived.Test.YtnomakoomapdbaaA2
set_option linter.unusedSimpArgs false
set_option linter.unusedVariables false
/- air: stronger dryers, wider spans: the plain words. -/
section
namespace Go.Eng
/-- More water, more that comes, no stronger a dryer: no less water, no less dew. -/
theorem flow_mono {hold R ch w w' dr dr' o o' b b' st st' : Int} (h1 : flB w R ch dr o b st) (h2 : flB w' R ch dr' o' b' st') (e1 : w ≤ w') (e2 : dr' ≤ dr) (e3 : o ≤ o') (e4 : b ≤ b') (e5 : st ≤ st') :
    (flow hold R w ch dr o b st).water ≤ (flow hold R w' ch dr' o' b' st').water ∧ (flow hold R w ch dr o b st).came ≤ (flow hold R w' ch dr' o' b' st').came ∧ (flow hold R w ch dr o b st).out ≤ (flow hold R w' ch dr' o' b' st').out ∧
    (dr' = dr → (flow hold R w ch dr o b st).dried ≤ (flow hold R w' ch dr' o' b' st').dried) ∧ (flow hold R w ch dr o b st).dew ≤ (flow hold R w' ch dr' o' b' st').dew := by
  obtain ⟨hw, hR, hc, hd, ho, hbb, hs⟩ := h1
  obtain ⟨hw', _, _, hd', ho', hbb', hs'⟩ := h2
  have m1 : w * ch ≤ w' * ch := Int.mul_le_mul_of_nonneg_right e1 hc.1
  have m2 : (w' - w) * ch ≤ (w' - w) * 1000 := Int.mul_le_mul_of_nonneg_left hc.2 (by omega)
  rw [Int.sub_mul] at m2
  have m3 : o * R * ch ≤ o' * R * ch := Int.mul_le_mul_of_nonneg_right (Int.mul_le_mul_of_nonneg_right e3 (by omega)) hc.1
  simp only [flow]
  generalize w * ch = x at *
  generalize w' * ch = x' at *
  generalize o * R * ch = y at *
  generalize o' * R * ch = y' at *
  refine ⟨by omega, by omega, by omega, fun h => by subst h; omega, by omega⟩
def dryAt (l : Nat → Nat → Int) (d : Int) : Nat → Nat → Int := fun i j => if j = 7 then d else l i j
theorem okS_dry {lo hi d : Int} {s : Nat → Int} (h : okS lo hi s = true) (hd : 0 ≤ d ∧ d ≤ 68719476736) : okS lo hi (fun j => if j = 7 then d else s j) = true := by
  simp only [okS, Bool.and_eq_true] at h ⊢
  simp [h]
  exact in3_iff.2 hd
section
variable {R : Int} {n m : Nat} {T H : Nat → Nat → Int} {bl bh : Int}
/-- The greatest courses of weaker and of stronger dryers. -/
theorem atH_dry (h : airB R n m T H bl bh = true) {l l' : Nat → Nat → Int} {k : Nat} (hl : ∀ i, i < k → okS (T 0 0) (T (n - 1) 0) (l i) = true) (hl' : ∀ i, i < k → okS (T 0 0) (T (n - 1) 0) (l' i) = true)
    (he : ∀ i, i < k → (∀ j, j < 7 → l' i j = l i j) ∧ l i 7 ≤ l' i 7) {w : Int} (hw : 0 ≤ w ∧ w ≤ 274877906944) :
    ∀ i, i ≤ k → (atH R n T H bh l' w i).w ≤ (atH R n T H bh l w i).w ∧ (atH R n T H bh l' w i).de ≤ (atH R n T H bh l w i).de
  | 0, _ => ⟨Int.le_refl _, Int.le_refl _⟩
  | i + 1, hi => by
    obtain ⟨i1, i2⟩ := atH_dry h hl hl' he hw i (by omega)
    obtain ⟨c1, _⟩ := atH_bd h hl hw i (by omega)
    obtain ⟨c2, _⟩ := atH_bd h hl' hw i (by omega)
    have s1 := (sp_fl h (okS_sp (R := R) (bl := bl) (bh := bh) (hl i (by omega)) c1)).2.2
    have s2 := (sp_fl h (okS_sp (R := R) (bl := bl) (bh := bh) (hl' i (by omega)) c2)).2.2
    obtain ⟨e1, e2⟩ := he i (by omega)
    rw [e1 1 (by omega), e1 2 (by omega), e1 4 (by omega), e1 6 (by omega)] at s2
    have := flow_mono (hold := holdV R n T H (l i 0)) s2 s1 i1 e2 (Int.le_refl _) (Int.le_refl _) (Int.le_refl _)
    simp only [atH, stH, lowF, e1 0 (by omega), e1 1 (by omega), e1 2 (by omega), e1 4 (by omega), e1 6 (by omega)]
    omega
theorem atL_dry (h : airB R n m T H bl bh = true) {l l' : Nat → Nat → Int} {k : Nat} (hl : ∀ i, i < k → okS (T 0 0) (T (n - 1) 0) (l i) = true) (hl' : ∀ i, i < k → okS (T 0 0) (T (n - 1) 0) (l' i) = true)
    (he : ∀ i, i < k → (∀ j, j < 7 → l' i j = l i j) ∧ l i 7 ≤ l' i 7) {w : Int} (hw : 0 ≤ w ∧ w ≤ 274877906944) :
    ∀ i, i ≤ k → (atL R n T H bl l' w i).w ≤ (atL R n T H bl l w i).w ∧ (atL R n T H bl l' w i).de ≤ (atL R n T H bl l w i).de
  | 0, _ => ⟨Int.le_refl _, Int.le_refl _⟩
  | i + 1, hi => by
    obtain ⟨i1, i2⟩ := atL_dry h hl hl' he hw i (by omega)
    obtain ⟨c1, _⟩ := atL_bd h hl hw i (by omega)
    obtain ⟨c2, _⟩ := atL_bd h hl' hw i (by omega)
    have s1 := (sp_fl h (okS_sp (R := R) (bl := bl) (bh := bh) (hl i (by omega)) c1)).2.1
    have s2 := (sp_fl h (okS_sp (R := R) (bl := bl) (bh := bh) (hl' i (by omega)) c2)).2.1
    obtain ⟨e1, e2⟩ := he i (by omega)
    rw [e1 1 (by omega), e1 2 (by omega), e1 3 (by omega), e1 5 (by omega)] at s2
    have := flow_mono (hold := holdV R n T H (l i 0)) s2 s1 i1 e2 (Int.le_refl _) (Int.le_refl _) (Int.le_refl _)
    simp only [atL, stL, lowF, e1 0 (by omega), e1 1 (by omega), e1 2 (by omega), e1 3 (by omega), e1 5 (by omega)]
    omega
end
/-- Is there no dew with a dryer? -/
def noDew (R : Int) (n : Nat) (T H : Nat → Nat → Int) (bh wh : Int) (k : Nat) (l : Nat → Nat → Int) (d : Int) : Bool := decide ((atH R n T H bh (dryAt l d) wh k).de = 0)
/-- The least dryer without dew; one more than the strongest if there is none. -/
def lstD (p : Int → Bool) : Nat := fstF (fun i => if p (i : Int) = true then 1 else 0) 1 68719476737 0
theorem lstD_spec (p : Int → Bool) : lstD p ≤ 68719476737 ∧ (∀ j : Nat, j < lstD p → p j = false) ∧ (lstD p < 68719476737 → p (lstD p) = true) := by
  obtain ⟨_, h2, h3, h4⟩ := fstF_spec (x := fun i => if p (i : Int) = true then 1 else 0) (t := 1) 68719476737 0
  refine ⟨by unfold lstD; omega, fun j hj => ?_, fun h => ?_⟩
  · have := h3 j (by omega) hj
    cases hp : p j with
    | false => rfl
    | true => simp [hp] at this
  · have := h4 (by unfold lstD at h; omega)
    cases hp : p (lstD p) with
    | true => rfl
    | false => unfold lstD at hp; simp [hp] at this
attribute [irreducible] lstD
theorem lstD_eq {p : Int → Bool} {r : Nat} (h0 : r ≤ 68719476737) (h1 : ∀ j : Nat, j < r → p j = false) (h2 : r < 68719476737 → p r = true) : lstD p = r := by
  obtain ⟨k0, k1, k2⟩ := lstD_spec p
  rcases Nat.lt_trichotomy (lstD p) r with h | h | h
  · have := h1 _ h; rw [k2 (by omega)] at this; cases this
  · exact h
  · have := k1 _ h; rw [h2 (by omega)] at this; cases this
/-- For what rises, each question says on which side. -/
theorem lstD_side {p : Int → Bool} (hm : ∀ d e : Nat, d ≤ e → e ≤ 68719476736 → p d = true → p e = true) {d : Nat} (hd : d ≤ 68719476736) : (p d = true → lstD p ≤ d) ∧ (p d = false → d < lstD p) := by
  obtain ⟨k0, k1, k2⟩ := lstD_spec p
  refine ⟨fun h => ?_, fun h => ?_⟩
  · rcases Nat.lt_or_ge d (lstD p) with h' | h'
    · have := k1 d h'; rw [h] at this; cases this
    · exact h'
  · rcases Nat.lt_or_ge d (lstD p) with h' | h'
    · exact h'
    · have := hm _ _ h' hd (k2 (by omega)); rw [h] at this; cases this
theorem noDew_mono {R : Int} {n m : Nat} {T H : Nat → Nat → Int} {bl bh wl wh : Int} {k : Nat} {l : Nat → Nat → Int} (hv : validB R n m T H bl bh wl wh k l = true) (d e : Nat) (h1 : d ≤ e) (h2 : e ≤ 68719476736) (h : noDew R n T H bh wh k l d = true) : noDew R n T H bh wh k l e = true := by
  obtain ⟨v1, v2, v3, v4⟩ := valid_iff.1 hv
  have q := fun (d : Int) (hd : 0 ≤ d ∧ d ≤ 68719476736) i hi => okS_dry (v4 i hi) hd
  have := atH_dry v1 (l := dryAt l d) (l' := dryAt l e) (q d (by omega)) (q e (by omega)) (fun i hi => ⟨fun j hj => by simp [dryAt, show j ≠ 7 by omega], by simp [dryAt]; omega⟩) (w := wh) (by omega) k (Nat.le_refl _)
  have b := (atH_bd v1 (q e (by omega)) (w := wh) (by omega) k (Nat.le_refl _)).2.2.2.2.1
  simp only [noDew, decide_eq_true_eq] at h ⊢
  have b' : 0 ≤ (atH R n T H bh (dryAt l e) wh k).de := b
  omega
def airDry (R : Int) (n m : Nat) (T H : Nat → Nat → Int) (bl bh wl wh : Int) (k : Nat) (l : Nat → Nat → Int) : Int × Int :=
  if validB R n m T H bl bh wl wh k l = true then (if lstD (noDew R n T H bh wh k l) ≤ 68719476736 then ((lstD (noDew R n T H bh wh k l) : Nat), 0) else (0, 4)) else (0, 1)
end Go.Eng
end

/- air: Dryer. -/
section
namespace Go.Eng
open Go Go.RowKit Go.Proofs
set_option maxRecDepth 100000
set_option maxHeartbeats 4000000
attribute [local irreducible] OwnT DefS
def dryBase : BaseF := fun args => match args with
  | [.agg [.int .i64 R, .row n sz_T f_T, .row m sz_H f_H, .int .i64 bl, .int .i64 bh], .agg [.int .i64 wl, .int .i64 wh], .row k sz_l f_l, .int .i64 d] => some ((sz_T = 1 ∧ IntR n 1 f_T) ∧ (sz_H = 1 ∧ IntR m 1 f_H) ∧ (sz_l = 8 ∧ IntR k 8 f_l) ∧ (validB R n m (ivf f_T) (ivf f_H) bl bh wl wh k (ivf f_l) = true ∧ 0 ≤ d ∧ d ≤ 68719476736), .bool (noDew R n (ivf f_T) (ivf f_H) bh wh k (ivf f_l) d))
  | _ => none
theorem dry_eq (R : Int) (n : Nat) (sz_T : Nat) (f_T : Nat → Nat → SV) (m : Nat) (sz_H : Nat) (f_H : Nat → Nat → SV) (bl : Int) (bh : Int) (wl : Int) (wh : Int) (k : Nat) (sz_l : Nat) (f_l : Nat → Nat → SV) (d : Int) : dryBase [.agg [.int .i64 R, .row n sz_T f_T, .row m sz_H f_H, .int .i64 bl, .int .i64 bh], .agg [.int .i64 wl, .int .i64 wh], .row k sz_l f_l, .int .i64 d] = some ((sz_T = 1 ∧ IntR n 1 f_T) ∧ (sz_H = 1 ∧ IntR m 1 f_H) ∧ (sz_l = 8 ∧ IntR k 8 f_l) ∧ (validB R n m (ivf f_T) (ivf f_H) bl bh wl wh k (ivf f_l) = true ∧ 0 ≤ d ∧ d ≤ 68719476736), .bool (noDew R n (ivf f_T) (ivf f_H) bh wh k (ivf f_l) d)) := rfl
theorem dry_base : Base Try.prog 53 dryBase := by
  intro args p v hq hp
  unfold dryBase at hq
  split at hq
  rotate_left
  · cases hq
  rename_i R n sz_T f_T m sz_H f_H bl bh wl wh k sz_l f_l d
  cases hq
  obtain ⟨⟨rfl, i_T⟩, ⟨rfl, i_H⟩, ⟨rfl, i_l⟩, pre⟩ := hp
  refine base_of (C := cx [] [] [(45, greatSBase)] [] none) (cx_ok trivial ⟨greatS_base, trivial⟩) rfl (g := 53) (fn := Try.f53)
    (args' := [.agg [.int .i64 R, .row n 1 (rowF .i64 (ivf f_T)), .row m 1 (rowF .i64 (ivf f_H)), .int .i64 bl, .int .i64 bh], .agg [.int .i64 wl, .int .i64 wh], .row k 8 (rowF .i64 (ivf f_l)), .int .i64 d]) (fn_53) rfl 1000 (by
    simp only [BdL, Bd, and_self, and_true, true_and]
    exact ⟨⟨(fun i j hi hj => by rw [i_T i j hi hj]; trivial), (fun i j hi hj => by rw [i_H i j hi hj]; trivial)⟩, (fun i j hi hj => by rw [i_l i j hi hj]; trivial)⟩) ⟨SameD.agg ⟨SameD.rfl' _, SameD.int i_T, SameD.int i_H, SameD.rfl' _, SameD.rfl' _, trivial⟩, SameD.rfl' _, SameD.int i_l, SameD.rfl' _, trivial⟩ ?_
  generalize ivf f_T = T at *
  generalize ivf f_H = H at *
  generalize ivf f_l = l at *
  simp only [rowF_eq]
  simp only [greatS_eq, flwA, Try.f53, go_sem, ↓reduceIte, Nat.reduceAdd, Nat.reduceSub, Nat.reduceMul, Nat.reduceEqDiff, Nat.reduceLT, Nat.reduceLeDiff, Int.reduceToNat, Int.reduceLE, Int.reduceLT, Int.reduceEq, Int.reduceNeg, reduceCtorEq]
  obtain ⟨hv, hd⟩ := pre
  obtain ⟨v1, v2, v3, v4⟩ := valid_iff.1 hv
  have q := fun i hi => okS_dry (v4 i hi) hd
  have hhi := fun i (hi : i ≤ k) => atH_bd v1 (l := dryAt l d) q (w := wh) (by omega) i hi
  refine loop_ofH { i : Nat // i ≤ k ∧ (atH R n T H bh (dryAt l d) wh i).de = 0 } (fun i => [(10, .int .i64 (i.1 : Int)), (9, .int .i64 (atH R n T H bh (dryAt l d) wh i.1).w), (5, .ptr 1 0), (4, .ptr 0 0), (3, .int .i64 d), (2, .row k 8 fun i j => .int .i64 (l i j))]) (fun h _ => h) (fun i => k - i.1) (fun _ => ⟨rfl, rfl⟩) ⟨0, by omega, rfl⟩ (by (apply sub_of <;> simp only [go_sem, ↓reduceIte, Nat.reduceAdd, Nat.reduceSub, Nat.reduceMul, Nat.reduceEqDiff, Nat.reduceLT, Nat.reduceLeDiff, Int.reduceToNat, Int.reduceLE, Int.reduceLT, Int.reduceEq, Int.reduceNeg, reduceCtorEq] <;> (try simp [catF]) <;> (try exact fun j _ => Bd_nth (by simp [BdL, Bd]) j) <;> (try exact bd_setL (by simp [bdAs, BdL, Bd]))) <;> rfl) ?_
  rintro ⟨i, hi, h3⟩
  simp only [greatS_eq, flwA, Try.f53, go_sem, ↓reduceIte, Nat.reduceAdd, Nat.reduceSub, Nat.reduceMul, Nat.reduceEqDiff, Nat.reduceLT, Nat.reduceLeDiff, Int.reduceToNat, Int.reduceLE, Int.reduceLT, Int.reduceEq, Int.reduceNeg, reduceCtorEq]
  have hw3 : IntKind.i64.wrap ((i : Int) + 1) = ((i + 1 : Nat) : Int) := by rw [wrap_id (by omega) (by omega)]; omega
  refine ⟨fun e1 => ?_, fun e1 => ?_⟩
  · simp only [decide_eq_true_eq] at e1
    have ik : i < k := by omega
    obtain ⟨b1, _⟩ := hhi i hi
    have sp := okS_sp (R := R) (bl := bl) (bh := bh) (q i ik) b1
    obtain ⟨_, _, _, _, b5⟩ := hhi (i + 1) ik
    have hn : (atH R n T H bh (dryAt l d) wh (i + 1)).de = (atH R n T H bh (dryAt l d) wh i).de + (lowF R n T H bh (atH R n T H bh (dryAt l d) wh i).w (l i 0) (l i 1) (l i 2) (l i 4) (l i 6) d).dew := rfl
    have hn2 : (lowF R n T H bh (atH R n T H bh (dryAt l d) wh i).w (l i 0) (l i 1) (l i 2) (l i 4) (l i 6) d).water = (atH R n T H bh (dryAt l d) wh (i + 1)).w := rfl
    refine ⟨⟨by omega, by omega⟩, ⟨v1, sp⟩, fun e2 => ?_, fun e2 => ?_⟩
    · simp only [decide_eq_true_eq] at e2
      congr 1
      have hge : ∀ c, (atH R n T H bh (dryAt l d) wh (i + 1)).de ≤ (atH R n T H bh (dryAt l d) wh (i + 1 + c)).de ∨ k < i + 1 + c := by
        intro c
        induction c with
        | zero => exact .inl (Int.le_refl _)
        | succ c ih =>
          rcases Nat.lt_or_ge k (i + 1 + (c + 1)) with h | h
          · exact .inr h
          · have ih := ih.resolve_right (by omega)
            obtain ⟨c1, _⟩ := hhi (i + 1 + c) (by omega)
            have s2 := (sp_fl v1 (okS_sp (R := R) (bl := bl) (bh := bh) (q (i + 1 + c) (by omega)) c1)).2.2
            obtain ⟨_, _, _, _, f5⟩ := flow_bd s2 (hold := holdV R n T H (l (i + 1 + c) 0)) (by
              obtain ⟨v, hv, w1, w2, w3, w4, w5, w6⟩ := holdV_bd v1 (okS_sp (R := R) (bl := bl) (bh := bh) (q (i + 1 + c) (by omega)) c1).2.1
              exact ⟨by have : 1 ≤ holdV R n T H (l (i + 1 + c) 0) := w5; omega, w6⟩)
            refine .inl (Int.le_trans ih ?_)
            show _ ≤ (atH R n T H bh (dryAt l d) wh (i + 1 + c)).de + (lowF R n T H bh (atH R n T H bh (dryAt l d) wh (i + 1 + c)).w (l (i + 1 + c) 0) (l (i + 1 + c) 1) (l (i + 1 + c) 2) (l (i + 1 + c) 4) (l (i + 1 + c) 6) d).dew
            have f5' : 0 ≤ (lowF R n T H bh (atH R n T H bh (dryAt l d) wh (i + 1 + c)).w (l (i + 1 + c) 0) (l (i + 1 + c) 1) (l (i + 1 + c) 2) (l (i + 1 + c) 4) (l (i + 1 + c) 6) d).dew := f5.1
            omega
      have := (hge (k - (i + 1))).resolve_right (by omega)
      rw [show i + 1 + (k - (i + 1)) = k by omega] at this
      simp only [noDew]
      rw [eq_comm, decide_eq_false_iff_not]
      omega
    · simp only [decide_eq_false_iff_not] at e2
      refine ⟨⟨i + 1, by omega, by omega⟩, by simp only []; omega, ?_⟩
      apply sub_of <;> simp only [hw3, hn2, go_sem, ↓reduceIte, Nat.reduceAdd, Nat.reduceSub, Nat.reduceMul, Nat.reduceEqDiff, Nat.reduceLT, Nat.reduceLeDiff, Int.reduceToNat, Int.reduceLE, Int.reduceLT, Int.reduceEq, Int.reduceNeg, reduceCtorEq] <;> (try simp) <;> (try simp) <;> (try exact fun j _ => Bd_nth (by simp [BdL, Bd]) j) <;> (try exact bd_setL (by simp [bdAs, BdL, Bd]))
  · simp only [decide_eq_false_iff_not] at e1
    obtain rfl : i = k := by omega
    congr 1
    simp [noDew, h3]
def dryerRBase : BaseF := fun args => match args with
  | [.agg [.int .i64 R, .row n sz_T f_T, .row m sz_H f_H, .int .i64 bl, .int .i64 bh], .agg [.int .i64 wl, .int .i64 wh], .row k sz_l f_l] => some ((sz_T = 1 ∧ IntR n 1 f_T) ∧ (sz_H = 1 ∧ IntR m 1 f_H) ∧ (sz_l = 8 ∧ IntR k 8 f_l), two (airDry R n m (ivf f_T) (ivf f_H) bl bh wl wh k (ivf f_l)))
  | _ => none
theorem dryerR_eq (R : Int) (n : Nat) (sz_T : Nat) (f_T : Nat → Nat → SV) (m : Nat) (sz_H : Nat) (f_H : Nat → Nat → SV) (bl : Int) (bh : Int) (wl : Int) (wh : Int) (k : Nat) (sz_l : Nat) (f_l : Nat → Nat → SV) : dryerRBase [.agg [.int .i64 R, .row n sz_T f_T, .row m sz_H f_H, .int .i64 bl, .int .i64 bh], .agg [.int .i64 wl, .int .i64 wh], .row k sz_l f_l] = some ((sz_T = 1 ∧ IntR n 1 f_T) ∧ (sz_H = 1 ∧ IntR m 1 f_H) ∧ (sz_l = 8 ∧ IntR k 8 f_l), two (airDry R n m (ivf f_T) (ivf f_H) bl bh wl wh k (ivf f_l))) := rfl
theorem dryerR_base : Base Try.prog 20 dryerRBase := by
  intro args p v hq hp
  unfold dryerRBase at hq
  split at hq
  rotate_left
  · cases hq
  rename_i R n sz_T f_T m sz_H f_H bl bh wl wh k sz_l f_l
  cases hq
  obtain ⟨⟨rfl, i_T⟩, ⟨rfl, i_H⟩, ⟨rfl, i_l⟩⟩ := hp
  refine base_of (C := cx [] [] [(21, validBase), (53, dryBase)] [] none) (cx_ok trivial ⟨valid_base, dry_base, trivial⟩) rfl (g := 20) (fn := Try.f20)
    (args' := [.agg [.int .i64 R, .row n 1 (rowF .i64 (ivf f_T)), .row m 1 (rowF .i64 (ivf f_H)), .int .i64 bl, .int .i64 bh], .agg [.int .i64 wl, .int .i64 wh], .row k 8 (rowF .i64 (ivf f_l))]) (fn_20) rfl 1000 (by
    simp only [BdL, Bd, and_self, and_true, true_and]
    exact ⟨⟨(fun i j hi hj => by rw [i_T i j hi hj]; trivial), (fun i j hi hj => by rw [i_H i j hi hj]; trivial)⟩, (fun i j hi hj => by rw [i_l i j hi hj]; trivial)⟩) ⟨SameD.agg ⟨SameD.rfl' _, SameD.int i_T, SameD.int i_H, SameD.rfl' _, SameD.rfl' _, trivial⟩, SameD.rfl' _, SameD.int i_l, trivial⟩ ?_
  generalize ivf f_T = T
  generalize ivf f_H = H
  generalize ivf f_l = l
  simp only [rowF_eq]
  simp only [valid_eq, dry_eq, two, Try.f20, go_sem, ↓reduceIte, Nat.reduceAdd, Nat.reduceSub, Nat.reduceMul, Nat.reduceEqDiff, Nat.reduceLT, Nat.reduceLeDiff, Int.reduceToNat, Int.reduceLE, Int.reduceLT, Int.reduceEq, Int.reduceNeg, reduceCtorEq]
  refine ⟨fun c1 => ?_, fun c1 => ?_⟩
  · simp only [Bool.not_eq_true'] at c1; simp [airDry, c1]
  simp only [Bool.not_eq_false'] at c1
  have hs := fun (d : Nat) (hd : d ≤ 68719476736) => lstD_side (p := noDew R n T H bh wh k l) (noDew_mono c1) hd
  have h0 := hs 68719476736 (by omega)
  refine ⟨c1, fun c2 => ?_, fun c2 => ?_⟩
  · simp only [Bool.not_eq_true'] at c2
    have := h0.2 c2
    simp [airDry, c1, show ¬ lstD (noDew R n T H bh wh k l) ≤ 68719476736 by omega]
  simp only [Bool.not_eq_false'] at c2
  have hle := h0.1 c2
  have hout : airDry R n m T H bl bh wl wh k l = (((lstD (noDew R n T H bh wh k l) : Nat) : Int), 0) := by simp [airDry, c1, hle]
  rw [hout]
  generalize lstD (noDew R n T H bh wh k l) = S at *
  refine loop_ofH { q : Nat × Nat // q.1 ≤ S ∧ S ≤ q.2 ∧ q.2 ≤ 68719476736 } (fun q => [(9, .int .i64 (q.1.2 : Int)), (8, .int .i64 (q.1.1 : Int)), (4, .ptr 1 0), (3, .ptr 0 0), (2, .row k 8 fun i j => .int .i64 (l i j))]) (fun h _ => h) (fun q => q.1.2 - q.1.1) (fun _ => ⟨rfl, rfl⟩) ⟨(0, 68719476736), by omega, by omega, by omega⟩ (by (apply sub_of <;> simp only [go_sem, ↓reduceIte, Nat.reduceAdd, Nat.reduceSub, Nat.reduceMul, Nat.reduceEqDiff, Nat.reduceLT, Nat.reduceLeDiff, Int.reduceToNat, Int.reduceLE, Int.reduceLT, Int.reduceEq, Int.reduceNeg, reduceCtorEq] <;> (try simp [catF]) <;> (try exact fun j _ => Bd_nth (by simp [BdL, Bd]) j) <;> (try exact bd_setL (by simp [bdAs, BdL, Bd])))) ?_
  rintro ⟨⟨a, b⟩, q1, q2, q3⟩
  simp only [] at q1 q2 q3
  simp only [valid_eq, dry_eq, two, Try.f20, go_sem, ↓reduceIte, Nat.reduceAdd, Nat.reduceSub, Nat.reduceMul, Nat.reduceEqDiff, Nat.reduceLT, Nat.reduceLeDiff, Int.reduceToNat, Int.reduceLE, Int.reduceLT, Int.reduceEq, Int.reduceNeg, reduceCtorEq]
  have hm : IntKind.i64.wrap ((IntKind.i64.wrap ((a : Int) + b)).tdiv 2) = (((a + b) / 2 : Nat) : Int) := by
    rw [wrap_id (x := (a : Int) + b) (by omega) (by omega), Int.tdiv_eq_ediv_of_nonneg (by omega), wrap_id (by omega) (by omega)]
    omega
  simp only [hm]
  refine ⟨fun d1 => ?_, fun d1 => ?_⟩
  · simp only [decide_eq_true_eq] at d1
    generalize hx0 : (a + b) / 2 = x
    have hx : a ≤ x ∧ x < b := by omega
    have hxk := hs x (by omega)
    have hw2 : IntKind.i64.wrap ((x : Int) + 1) = ((x + 1 : Nat) : Int) := by rw [wrap_id (by omega) (by omega)]; omega
    refine ⟨by omega, ⟨c1, by omega⟩, fun d2 => ?_, fun d2 => ?_⟩
    · have := hxk.1 d2
      refine ⟨⟨(a, x), by simp only []; omega, by simp only []; omega, by simp only []; omega⟩, by simp only []; omega, ?_⟩
      apply sub_of <;> simp only [go_sem, ↓reduceIte, Nat.reduceAdd, Nat.reduceSub, Nat.reduceMul, Nat.reduceEqDiff, Nat.reduceLT, Nat.reduceLeDiff, Int.reduceToNat, Int.reduceLE, Int.reduceLT, Int.reduceEq, Int.reduceNeg, reduceCtorEq] <;> (try simp) <;> (try exact fun j _ => Bd_nth (by simp [BdL, Bd]) j) <;> (try exact bd_setL (by simp [bdAs, BdL, Bd]))
    · have := hxk.2 d2
      refine ⟨⟨(x + 1, b), by simp only []; omega, by simp only []; omega, by simp only []; omega⟩, by simp only []; omega, ?_⟩
      apply sub_of <;> simp only [hw2, go_sem, ↓reduceIte, Nat.reduceAdd, Nat.reduceSub, Nat.reduceMul, Nat.reduceEqDiff, Nat.reduceLT, Nat.reduceLeDiff, Int.reduceToNat, Int.reduceLE, Int.reduceLT, Int.reduceEq, Int.reduceNeg, reduceCtorEq] <;> (try simp) <;> (try exact fun j _ => Bd_nth (by simp [BdL, Bd]) j) <;> (try exact bd_setL (by simp [bdAs, BdL, Bd]))
  · simp only [decide_eq_false_iff_not] at d1
    obtain rfl : a = S := by omega
    rfl
def cloneSBase : BaseF := fun args => match args with
  | [.row k sz_l f_l] => some ((sz_l = 8 ∧ IntR k 8 f_l) ∧ (k ≤ 1000000), .row k 8 (fun i j => .int .i64 ((ivf f_l) i j)))
  | _ => none
theorem cloneS_eq (k : Nat) (sz_l : Nat) (f_l : Nat → Nat → SV) : cloneSBase [.row k sz_l f_l] = some ((sz_l = 8 ∧ IntR k 8 f_l) ∧ (k ≤ 1000000), .row k 8 (fun i j => .int .i64 ((ivf f_l) i j))) := rfl
theorem cloneS_base : BaseO Try.prog 50 50 cloneSBase := by
  intro args p v hq hp
  unfold cloneSBase at hq
  split at hq
  rotate_left
  · cases hq
  rename_i k sz_l f_l
  cases hq
  obtain ⟨⟨rfl, i_l⟩, pre⟩ := hp
  refine baseO_of (C := cx [] [] [] [] none) (cx_ok trivial trivial) rfl (g := 50) (fn := Try.f50)
    (args' := [.row k 8 (rowF .i64 (ivf f_l))]) (fn_50) rfl 1000 (by
    simp only [BdL, Bd, and_self, and_true, true_and]
    exact (fun i j hi hj => by rw [i_l i j hi hj]; trivial)) ⟨SameD.int i_l, trivial⟩ ?_
  generalize ivf f_l = l at *
  simp only [rowF_eq]
  simp only [Try.f50, go_sem, ↓reduceIte, Nat.reduceAdd, Nat.reduceSub, Nat.reduceMul, Nat.reduceEqDiff, Nat.reduceLT, Nat.reduceLeDiff, Int.reduceToNat, Int.reduceLE, Int.reduceLT, Int.reduceEq, Int.reduceNeg, reduceCtorEq]
  refine ⟨fun h => ⟨h.symm, fun i j hi => by omega⟩, ⟨by omega, by omega⟩, fun i j hi hj => by simp [catF]⟩
theorem atH_congr {R : Int} {n : Nat} {T H : Nat → Nat → Int} {bh w : Int} {l l' : Nat → Nat → Int} : ∀ {k : Nat}, (∀ i j, i < k → j < 8 → l i j = l' i j) → atH R n T H bh l w k = atH R n T H bh l' w k
  | 0, _ => rfl
  | k + 1, h => by
    have ih := atH_congr (R := R) (n := n) (T := T) (H := H) (bh := bh) (w := w) (k := k) (fun i j hi hj => h i j (by omega) hj)
    have e := fun j hj => h k j (by omega) hj
    simp only [atH, stH, ih, e 0 (by omega), e 1 (by omega), e 2 (by omega), e 4 (by omega), e 6 (by omega), e 7 (by omega)]
theorem allU_congr {p q : Nat → Bool} : ∀ {n : Nat}, (∀ i, i < n → p i = q i) → allU p n = allU q n
  | 0, _ => rfl
  | n + 1, h => by simp only [allU, h n (by omega), allU_congr (n := n) (fun i hi => h i (by omega))]
theorem okS_congr {lo hi : Int} {s s' : Nat → Int} (h : ∀ j, j < 8 → s j = s' j) : okS lo hi s = okS lo hi s' := by
  simp only [okS, h 0 (by omega), h 1 (by omega), h 2 (by omega), h 3 (by omega), h 4 (by omega), h 5 (by omega), h 6 (by omega), h 7 (by omega)]
theorem valid_congr {R : Int} {n m : Nat} {T H : Nat → Nat → Int} {bl bh wl wh : Int} {k : Nat} {l l' : Nat → Nat → Int} (h : ∀ i j, i < k → j < 8 → l i j = l' i j) : validB R n m T H bl bh wl wh k l = validB R n m T H bl bh wl wh k l' := by
  simp only [validB, stepsB]
  rw [allU_congr (p := fun i => okS (T 0 0) (T (n - 1) 0) (l i)) (q := fun i => okS (T 0 0) (T (n - 1) 0) (l' i)) (fun i hi => okS_congr (fun j hj => h i j hi hj))]
def dryerPBase : BaseF := fun args => match args with
  | [.agg [.int .i64 R, .row n sz_T f_T, .row m sz_H f_H, .int .i64 bl, .int .i64 bh], .agg [.int .i64 wl, .int .i64 wh], .row k sz_l f_l] => some ((sz_T = 1 ∧ IntR n 1 f_T) ∧ (sz_H = 1 ∧ IntR m 1 f_H) ∧ (sz_l = 8 ∧ IntR k 8 f_l), two (airDry R n m (ivf f_T) (ivf f_H) bl bh wl wh k (ivf f_l)))
  | _ => none
theorem dryerP_eq (R : Int) (n : Nat) (sz_T : Nat) (f_T : Nat → Nat → SV) (m : Nat) (sz_H : Nat) (f_H : Nat → Nat → SV) (bl : Int) (bh : Int) (wl : Int) (wh : Int) (k : Nat) (sz_l : Nat) (f_l : Nat → Nat → SV) : dryerPBase [.agg [.int .i64 R, .row n sz_T f_T, .row m sz_H f_H, .int .i64 bl, .int .i64 bh], .agg [.int .i64 wl, .int .i64 wh], .row k sz_l f_l] = some ((sz_T = 1 ∧ IntR n 1 f_T) ∧ (sz_H = 1 ∧ IntR m 1 f_H) ∧ (sz_l = 8 ∧ IntR k 8 f_l), two (airDry R n m (ivf f_T) (ivf f_H) bl bh wl wh k (ivf f_l))) := rfl
theorem dryerP_base : Base Try.prog 19 dryerPBase := by
  intro args p v hq hp
  unfold dryerPBase at hq
  split at hq
  rotate_left
  · cases hq
  rename_i R n sz_T f_T m sz_H f_H bl bh wl wh k sz_l f_l
  cases hq
  obtain ⟨⟨rfl, i_T⟩, ⟨rfl, i_H⟩, ⟨rfl, i_l⟩⟩ := hp
  refine base_of (C := cx [] [(50, 50, cloneSBase)] [(32, areValidBase), (13, runPBase)] [] none) (cx_ok ⟨cloneS_base, trivial⟩ ⟨areValid_base, runP_base, trivial⟩) rfl (g := 19) (fn := Try.f19)
    (args' := [.agg [.int .i64 R, .row n 1 (rowF .i64 (ivf f_T)), .row m 1 (rowF .i64 (ivf f_H)), .int .i64 bl, .int .i64 bh], .agg [.int .i64 wl, .int .i64 wh], .row k 8 (rowF .i64 (ivf f_l))]) (fn_19) rfl 1000 (by
    simp only [BdL, Bd, and_self, and_true, true_and]
    exact ⟨⟨(fun i j hi hj => by rw [i_T i j hi hj]; trivial), (fun i j hi hj => by rw [i_H i j hi hj]; trivial)⟩, (fun i j hi hj => by rw [i_l i j hi hj]; trivial)⟩) ⟨SameD.agg ⟨SameD.rfl' _, SameD.int i_T, SameD.int i_H, SameD.rfl' _, SameD.rfl' _, trivial⟩, SameD.rfl' _, SameD.int i_l, trivial⟩ ?_
  generalize ivf f_T = T
  generalize ivf f_H = H
  generalize ivf f_l = l
  simp only [rowF_eq]
  simp only [areValid_eq, runP_eq, cloneS_eq, two, rTup, Try.f51, Try.f52, Try.f19, go_sem, ↓reduceIte, Nat.reduceAdd, Nat.reduceSub, Nat.reduceMul, Nat.reduceEqDiff, Nat.reduceLT, Nat.reduceLeDiff, Int.reduceToNat, Int.reduceLE, Int.reduceLT, Int.reduceEq, Int.reduceNeg, reduceCtorEq]
  refine ⟨.inl trivial, fun c1 => ?_, fun c1 => ⟨?_, ?_⟩⟩
  · simp only [Bool.not_eq_true'] at c1; simp [airDry, c1]
  · simp only [Bool.not_eq_false'] at c1; have := (valid_iff.1 c1).2.2.1; omega
  simp only [Bool.not_eq_false'] at c1
  obtain ⟨v1, v2, v3, v4⟩ := valid_iff.1 c1
  have hs := fun (d : Nat) (hd : d ≤ 68719476736) => lstD_side (p := noDew R n T H bh wh k l) (noDew_mono c1) hd
  have hle := (lstD_spec (noDew R n T H bh wh k l)).1
  have hout : airDry R n m T H bl bh wl wh k l = if lstD (noDew R n T H bh wh k l) ≤ 68719476736 then (((lstD (noDew R n T H bh wh k l) : Nat) : Int), 0) else (0, 4) := by simp [airDry, c1]
  rw [hout]
  generalize lstD (noDew R n T H bh wh k l) = S at *
  refine loop_ofH { q : Nat × Nat × (Nat → Nat → Int) // (q.1 ≤ S ∧ S ≤ q.2.1 ∧ q.2.1 ≤ 68719476737) ∧ ∀ i j, i < k → j < 7 → q.2.2 i j = l i j } (fun q => [(6, .int .i64 (q.1.2.1 : Int)), (5, .int .i64 (q.1.1 : Int)), (1, .func 52 [.ptr 2 0, .ptr 0 0, .ptr 1 0])])
    (fun h q => { h with vecs := setV h.vecs 0 (.live 0 50 8 k fun i j => .int .i64 (q.1.2.2 i j)) }) (fun q => q.1.2.1 - q.1.1) (fun _ => ⟨rfl, rfl⟩) ⟨(0, 68719476737, l), ⟨Nat.zero_le _, hle, Nat.le_refl _⟩, fun _ _ _ _ => rfl⟩ (by (apply sub_of <;> simp only [go_sem, ↓reduceIte, Nat.reduceAdd, Nat.reduceSub, Nat.reduceMul, Nat.reduceEqDiff, Nat.reduceLT, Nat.reduceLeDiff, Int.reduceToNat, Int.reduceLE, Int.reduceLT, Int.reduceEq, Int.reduceNeg, reduceCtorEq] <;> (try simp [catF]) <;> (try exact fun j _ => Bd_nth (by simp [BdL, Bd]) j) <;> (try exact bd_setL (by simp [bdAs, BdL, Bd])))) ?_
  rintro ⟨⟨a, b, c⟩, ⟨q1, q2, q3⟩, q4⟩
  simp only [] at q1 q2 q3 q4
  simp only [areValid_eq, runP_eq, cloneS_eq, two, rTup, Try.f51, Try.f52, Try.f19, go_sem, ↓reduceIte, Nat.reduceAdd, Nat.reduceSub, Nat.reduceMul, Nat.reduceEqDiff, Nat.reduceLT, Nat.reduceLeDiff, Int.reduceToNat, Int.reduceLE, Int.reduceLT, Int.reduceEq, Int.reduceNeg, reduceCtorEq]
  simp only [mid_eq (show a + b ≤ 1000000000000 by omega)]
  refine ⟨fun d1 => ?_, fun d1 => ?_⟩
  · simp only [decide_eq_true_eq] at d1
    generalize hm : (a + b) / 2 = x
    have hx : a ≤ x ∧ x < b := by omega
    have hxk := hs x (by omega)
    have hw2 : IntKind.i64.wrap ((x : Int) + 1) = ((x + 1 : Nat) : Int) := by rw [wrap_id (by omega) (by omega)]; omega
    refine loop_ofH { i : Nat // i ≤ k } (fun i => [(12, .int .i64 (i.1 : Int)), (11, .int .i64 (k : Int)), (5, .bool false), (3, .ptr 1 0), (2, .ptr 0 0), (1, .ptr 2 0), (0, .int .i64 (x : Int))])
      (fun h i => { h with vecs := setV h.vecs 0 (.live 0 50 8 k fun i' j => .int .i64 (if i' < i.1 ∧ j = 7 then (x : Int) else c i' j)) }) (fun i => k - i.1) (fun _ => ⟨rfl, rfl⟩) ⟨0, by omega⟩ (by (apply sub_of <;> simp only [go_sem, ↓reduceIte, Nat.reduceAdd, Nat.reduceSub, Nat.reduceMul, Nat.reduceEqDiff, Nat.reduceLT, Nat.reduceLeDiff, Int.reduceToNat, Int.reduceLE, Int.reduceLT, Int.reduceEq, Int.reduceNeg, reduceCtorEq] <;> (try simp [catF]) <;> (try exact fun j _ => Bd_nth (by simp [BdL, Bd]) j) <;> (try exact bd_setL (by simp [bdAs, BdL, Bd])))) ?_
    rintro ⟨i, hi⟩
    simp only [areValid_eq, runP_eq, cloneS_eq, two, rTup, Try.f51, Try.f52, Try.f19, go_sem, ↓reduceIte, Nat.reduceAdd, Nat.reduceSub, Nat.reduceMul, Nat.reduceEqDiff, Nat.reduceLT, Nat.reduceLeDiff, Int.reduceToNat, Int.reduceLE, Int.reduceLT, Int.reduceEq, Int.reduceNeg, reduceCtorEq]
    have hw3 : IntKind.i64.wrap ((i : Int) + 1) = ((i + 1 : Nat) : Int) := by rw [wrap_id (by omega) (by omega)]; omega
    refine ⟨fun e1 => ?_, fun e1 => ?_⟩
    · simp only [decide_eq_true_eq] at e1
      have ik : i < k := by omega
      refine ⟨⟨by omega, by omega⟩, by omega, ⟨i + 1, by omega⟩, by simp only []; omega, ?_⟩
      apply sub_of <;> simp only [hw3, go_sem, ↓reduceIte, Nat.reduceAdd, Nat.reduceSub, Nat.reduceMul, Nat.reduceEqDiff, Nat.reduceLT, Nat.reduceLeDiff, Int.reduceToNat, Int.reduceLE, Int.reduceLT, Int.reduceEq, Int.reduceNeg, reduceCtorEq] <;> (try simp) <;> (try simp) <;> (try exact fun j _ => Bd_nth (by simp [BdL, Bd]) j) <;> (try exact bd_setL (by simp [bdAs, BdL, Bd]))
      intro i' j hi' hj
      by_cases h1 : j = 7
      · subst h1
        by_cases h2 : i' = i
        · subst h2; simp [nth]
        · by_cases h3 : i' < i
          · simp [h2, h3, show i' < i + 1 by omega]
          · simp [h2, h3, show ¬ i' < i + 1 by omega]
      · simp [h1, show ¬ (i' = i ∧ 7 ≤ j ∧ j < 8) by omega]
    · simp only [decide_eq_false_iff_not] at e1
      obtain rfl : i = k := by omega
      have hcg : ∀ i' j, i' < i → j < 8 → (fun i' j => if i' < i ∧ j = 7 then (x : Int) else c i' j) i' j = dryAt l x i' j := by
        intro i' j hi' hj
        by_cases h1 : j = 7
        · simp [h1, hi', dryAt]
        · simp [h1, dryAt, q4 i' j hi' (by omega)]
      have hvd : validB R n m T H bl bh wl wh i (dryAt l x) = true := valid_iff.2 ⟨v1, v2, v3, fun j hj => okS_dry (v4 j hj) (by omega)⟩
      have hrun : (airRun R n m T H bl bh wl wh i fun i' j => if i' < i ∧ j = 7 then (x : Int) else c i' j).y.de = (atH R n T H bh (dryAt l x) wh i).de := by
        unfold airRun
        rw [valid_congr hcg, if_pos hvd, atH_congr hcg]
      have hnd : decide ((airRun R n m T H bl bh wl wh i fun i' j => if i' < i ∧ j = 7 then (x : Int) else c i' j).y.de = 0) = noDew R n T H bh wh i l x := by rw [hrun]; rfl
      rw [hnd]
      refine ⟨fun d2 => ?_, fun d2 => ?_⟩
      · simp only [Bool.not_eq_true'] at d2
        have := hxk.2 d2
        refine ⟨⟨(x + 1, b, fun i' j => if i' < i ∧ j = 7 then (x : Int) else c i' j), by simp only []; omega, fun i' j h1 h2 => by simp only []; rw [if_neg (by omega)]; exact q4 i' j h1 h2⟩, by simp only []; omega, ?_⟩
        apply sub_of <;> simp only [hw2, go_sem, ↓reduceIte, Nat.reduceAdd, Nat.reduceSub, Nat.reduceMul, Nat.reduceEqDiff, Nat.reduceLT, Nat.reduceLeDiff, Int.reduceToNat, Int.reduceLE, Int.reduceLT, Int.reduceEq, Int.reduceNeg, reduceCtorEq] <;> (try simp) <;> (try simp) <;> (try exact fun j _ => Bd_nth (by simp [BdL, Bd]) j) <;> (try exact bd_setL (by simp [bdAs, BdL, Bd]))
      · simp only [Bool.not_eq_false'] at d2
        have := hxk.1 d2
        refine ⟨⟨(a, x, fun i' j => if i' < i ∧ j = 7 then (x : Int) else c i' j), by simp only []; omega, fun i' j h1 h2 => by simp only []; rw [if_neg (by omega)]; exact q4 i' j h1 h2⟩, by simp only []; omega, ?_⟩
        apply sub_of <;> simp only [go_sem, ↓reduceIte, Nat.reduceAdd, Nat.reduceSub, Nat.reduceMul, Nat.reduceEqDiff, Nat.reduceLT, Nat.reduceLeDiff, Int.reduceToNat, Int.reduceLE, Int.reduceLT, Int.reduceEq, Int.reduceNeg, reduceCtorEq] <;> (try simp) <;> (try simp) <;> (try exact fun j _ => Bd_nth (by simp [BdL, Bd]) j) <;> (try exact bd_setL (by simp [bdAs, BdL, Bd]))
  · simp only [decide_eq_false_iff_not] at d1
    obtain rfl : a = S := by omega
    refine ⟨fun d2 => ?_, fun d2 => ?_⟩
    · simp only [decide_eq_true_eq] at d2
      rw [if_neg (by omega)]
    · simp only [decide_eq_false_iff_not] at d2
      rw [if_pos (by omega)]
end Go.Eng
end

/- air: what the statements ask besides. -/
section
namespace Go.Eng
open Go Go.RowKit Go.Proofs
set_option maxRecDepth 100000
set_option maxHeartbeats 4000000
attribute [local irreducible] OwnT DefS
theorem wf_u32 {x : Int} (h : (Lit.int IntKind.u32 x).wf = true) : 0 ≤ x ∧ x < 4294967296 := by
  simp [Lit.wf, IntKind.min, IntKind.max, IntKind.signed, IntKind.bits] at h
  omega
def manyB (n m k : Nat) (most : Int) : Bool := decide (40 < n) || (decide (40 < m) || ((decide (most < (k : Int)) && decide (k ≤ 200)) || decide (204 < k)))
def manyBase : BaseF := fun args => match args with
  | [.agg [.int .i64 R, .row n sz_T f_T, .row m sz_H f_H, .int .i64 bl, .int .i64 bh], .row k sz_l f_l, .int .i64 most] => some ((sz_T = 1 ∧ IntR n 1 f_T) ∧ (sz_H = 1 ∧ IntR m 1 f_H) ∧ ((sz_l = 8 ∨ k = 0) ∧ IntR k 8 f_l), .bool (manyB n m k most))
  | _ => none
theorem many_eq (R : Int) (n : Nat) (sz_T : Nat) (f_T : Nat → Nat → SV) (m : Nat) (sz_H : Nat) (f_H : Nat → Nat → SV) (bl : Int) (bh : Int) (k : Nat) (sz_l : Nat) (f_l : Nat → Nat → SV) (most : Int) : manyBase [.agg [.int .i64 R, .row n sz_T f_T, .row m sz_H f_H, .int .i64 bl, .int .i64 bh], .row k sz_l f_l, .int .i64 most] = some ((sz_T = 1 ∧ IntR n 1 f_T) ∧ (sz_H = 1 ∧ IntR m 1 f_H) ∧ ((sz_l = 8 ∨ k = 0) ∧ IntR k 8 f_l), .bool (manyB n m k most)) := rfl
theorem many_base : Base Try.prog 9 manyBase := by
  intro args p v hq hp
  unfold manyBase at hq
  split at hq
  rotate_left
  · cases hq
  rename_i R n sz_T f_T m sz_H f_H bl bh k sz_l f_l most
  cases hq
  obtain ⟨⟨rfl, i_T⟩, ⟨rfl, i_H⟩, ⟨z_l, i_l⟩⟩ := hp
  refine base_of (C := cx [] [] [] [] none) (cx_ok trivial trivial) rfl (g := 9) (fn := Try.f9)
    (args' := [.agg [.int .i64 R, .row n 1 (rowF .i64 (ivf f_T)), .row m 1 (rowF .i64 (ivf f_H)), .int .i64 bl, .int .i64 bh], .row k 8 (rowF .i64 (ivf f_l)), .int .i64 most]) (fn_9) rfl 1000 (by
    simp only [BdL, Bd, and_self, and_true, true_and]
    exact ⟨⟨(fun i j hi hj => by rw [i_T i j hi hj]; trivial), (fun i j hi hj => by rw [i_H i j hi hj]; trivial)⟩, (fun i j hi hj => by
      rcases z_l with rfl | rfl
      · rw [i_l i j hi hj]; trivial
      · omega)⟩) ⟨SameD.agg ⟨SameD.rfl' _, SameD.int i_T, SameD.int i_H, SameD.rfl' _, SameD.rfl' _, trivial⟩, SameD.intN z_l i_l, SameD.rfl' _, trivial⟩ ?_
  generalize ivf f_T = T
  generalize ivf f_H = H
  generalize ivf f_l = l
  simp only [rowF_eq]
  simp only [Try.f9, go_sem, ↓reduceIte, Nat.reduceAdd, Nat.reduceSub, Nat.reduceMul, Nat.reduceEqDiff, Nat.reduceLT, Nat.reduceLeDiff, Int.reduceToNat, Int.reduceLE, Int.reduceLT, Int.reduceEq, Int.reduceNeg, reduceCtorEq]
  refine ⟨fun c1 => ?_, fun c1 => ⟨fun c2 => ?_, fun c2 => ⟨fun c3 => ⟨fun c4 => ?_, fun c4 => ?_⟩, fun c3 => ?_⟩⟩⟩ <;> congr 1 <;> rw [Bool.eq_iff_iff] <;> simp only [manyB, Bool.or_eq_true, Bool.and_eq_true, decide_eq_true_eq, decide_eq_false_iff_not, true_iff] at * <;> omega
def pickBase : BaseF := fun args => match args with
  | [.agg [.int .i64 lo, .int .i64 hi], .int .u32 b] => some (((Lit.int .u32 b).wf = true) ∧ (0 ≤ lo ∧ lo ≤ hi ∧ hi ≤ 1000000000000), .int .i64 (lo + b % (hi - lo + 1)))
  | _ => none
theorem pick_eq (lo : Int) (hi : Int) (b : Int) : pickBase [.agg [.int .i64 lo, .int .i64 hi], .int .u32 b] = some (((Lit.int .u32 b).wf = true) ∧ (0 ≤ lo ∧ lo ≤ hi ∧ hi ≤ 1000000000000), .int .i64 (lo + b % (hi - lo + 1))) := rfl
theorem pick_base : Base Try.prog 22 pickBase := by
  intro args p v hq hp
  unfold pickBase at hq
  split at hq
  rotate_left
  · cases hq
  rename_i lo hi b
  cases hq
  obtain ⟨wf_b, pre⟩ := hp
  refine base_of (C := cx [] [] [] [(22, 1, p22_1)] none) (cx_ok trivial trivial) rfl (g := 22) (fn := Try.f22)
    (args' := [.agg [.int .i64 lo, .int .i64 hi], .int .u32 b]) (fn_22) rfl 1000 (by simp only [BdL, Bd, and_self, and_true, true_and]) ⟨SameD.rfl' _, SameD.rfl' _, trivial⟩ ?_
  simp only [p22_1, Try.f22, go_sem, ↓reduceIte, Nat.reduceAdd, Nat.reduceSub, Nat.reduceMul, Nat.reduceEqDiff, Nat.reduceLT, Nat.reduceLeDiff, Int.reduceToNat, Int.reduceLE, Int.reduceLT, Int.reduceEq, Int.reduceNeg, reduceCtorEq]
  have hb := (Go.Eng.wf_u32 wf_b)
  refine ⟨⟨by kernel_rfl, by kernel_rfl⟩, ?_⟩
  rw [wrap_id (x := hi - lo) (by omega) (by omega), wrap_id (x := hi - lo + 1) (by omega) (by omega), wrap_id (x := b) (by omega) (by omega), Int.tmod_eq_emod_of_nonneg (by omega)]
  have := Int.emod_nonneg b (show hi - lo + 1 ≠ 0 by omega)
  have := Int.emod_lt_of_pos b (show 0 < hi - lo + 1 by omega)
  exact ⟨by omega, by rw [wrap_id (by omega) (by omega)]⟩
def aT : Nat → Nat → Int := ivf (cellAt [.int .i64 (-50), .int .i64 0, .int .i64 100] 1)
def aH : Nat → Nat → Int := ivf (cellAt [.int .i64 3000, .int .i64 5000, .int .i64 9500] 1)
def aL : Nat → Nat → Int := ivf (cellAt [.int .i64 (-25), .int .i64 100, .int .i64 100, .int .i64 4000, .int .i64 5000, .int .i64 500, .int .i64 900, .int .i64 3000, .int .i64 (-50), .int .i64 0, .int .i64 0, .int .i64 0, .int .i64 0, .int .i64 0, .int .i64 0, .int .i64 2000] 8)
theorem aw_v : validB 10 3 3 aT aH 2 3 40000 41000 2 aL = true := by decide +kernel
theorem aw_1 : holdsO 10 3 3 aT aH 2 3 (-25) = (40000, 0) := by decide +kernel
theorem aw_2 : airRun 10 3 3 aT aH 2 3 40000 41000 2 aL = ⟨⟨30000, 4700, 4000, 5000, 5700⟩, ⟨30000, 6200, 4100, 5000, 8100⟩, 0⟩ := by kernel_rfl
theorem aw_3 : airFog 10 3 3 aT aH 2 3 40000 41000 2 aL = (1, 0, 0) := by decide +kernel
theorem aw_4 : airRust 10 3 3 aT aH 2 3 40000 41000 2 aL 950 = (1, 2, 0) := by decide +kernel
theorem aw_5 : airDry 10 3 3 aT aH 2 3 40000 41000 2 aL = (6550, 0) := by
  have h1 := (lstD_side (p := noDew 10 3 aT aH 3 41000 2 aL) (noDew_mono aw_v) (d := 6550) (by omega)).1 (by decide +kernel)
  have h2 := (lstD_side (p := noDew 10 3 aT aH 3 41000 2 aL) (noDew_mono aw_v) (d := 6549) (by omega)).2 (by decide +kernel)
  have h3 : lstD (noDew 10 3 aT aH 3 41000 2 aL) = 6550 := by omega
  simp [airDry, aw_v, h3]
theorem aT_eq : ivf (cellAt [.int .i64 (-50), .int .i64 0, .int .i64 100] 1) = aT := rfl
theorem aH_eq : ivf (cellAt [.int .i64 3000, .int .i64 5000, .int .i64 9500] 1) = aH := rfl
theorem aL_eq : ivf (cellAt [.int .i64 (-25), .int .i64 100, .int .i64 100, .int .i64 4000, .int .i64 5000, .int .i64 500, .int .i64 900, .int .i64 3000, .int .i64 (-50), .int .i64 0, .int .i64 0, .int .i64 0, .int .i64 0, .int .i64 0, .int .i64 0, .int .i64 2000] 8) = aL := rfl
def awakeBase : BaseF := fun args => match args with
  | [] => some (True, .bool true)
  | _ => none
theorem awake_eq  : awakeBase [] = some (True, .bool true) := rfl
theorem awake_base : Base Try.prog 10 awakeBase := by
  intro args p v hq hp
  unfold awakeBase at hq
  split at hq
  rotate_left
  · cases hq
  cases hq
  refine base_of (C := cx [] [] [(11, holdsPBase), (13, runPBase), (15, fogPBase), (17, rustPBase), (19, dryerPBase), (31, mkSpanBase)] [(10, 8, p10_8), (10, 10, p10_10), (30, 2, p30_2)] none) (cx_ok trivial ⟨holdsP_base, runP_base, fogP_base, rustP_base, dryerP_base, mkSpan_base, trivial⟩) rfl (g := 10) (fn := Try.f10)
    (args' := []) (fn_10) rfl 1000 (by simp only [BdL, Bd, and_self, and_true, true_and]) trivial ?_
  simp only [holdsP_eq, runP_eq, fogP_eq, rustP_eq, dryerP_eq, mkSpan_eq, p10_8, p10_10, p30_2, two, rTup, thr, spn, Try.f30, Try.f10, go_sem, ↓reduceIte, Nat.reduceAdd, Nat.reduceSub, Nat.reduceMul, Nat.reduceEqDiff, Nat.reduceLT, Nat.reduceLeDiff, Int.reduceToNat, Int.reduceLE, Int.reduceLT, Int.reduceEq, Int.reduceNeg, reduceCtorEq]
  simp only [aT_eq, aH_eq, aL_eq, aw_1, aw_2, aw_3, aw_4, aw_5, go_sem, ↓reduceIte, Nat.reduceAdd, Nat.reduceSub, Nat.reduceMul, Nat.reduceEqDiff, Nat.reduceLT, Nat.reduceLeDiff, Int.reduceToNat, Int.reduceLE, Int.reduceLT, Int.reduceEq, Int.reduceNeg, reduceCtorEq, decide_true, decide_false, Bool.and_self, Bool.not_true, spl_true, spl_false]
  refine ⟨⟨by kernel_rfl, by kernel_rfl⟩, ⟨?_, ?_⟩, ⟨?_, ?_, ?_⟩, ⟨?_, ?_, ?_⟩, ⟨?_, ?_, ?_⟩, ⟨?_, ?_, ?_⟩, ⟨by kernel_rfl, by kernel_rfl⟩, by kernel_rfl, by kernel_rfl⟩ <;> exact intR_cells rfl rfl
end Go.Eng
end
