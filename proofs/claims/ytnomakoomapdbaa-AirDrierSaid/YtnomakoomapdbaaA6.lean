/-
  A part of the symbolic machine, of its soundness, and of what functions compute. No condition.
-/
import Derived.Test.YtnomakoomapdbaaA5
set_option linter.unusedSimpArgs false
set_option linter.unusedVariables false
/- air: AirDrier. -/
section
namespace Go.Eng
open Go Go.RowKit Go.Proofs
set_option maxRecDepth 100000
set_option maxHeartbeats 4000000
attribute [local irreducible] OwnT DefS
theorem cat_row {i c : Nat} {F : Nat → Nat → Int} {cs : List SV} (h : ∀ j, j < c → nth cs j = .int .i64 (F i j)) : ∀ a j, a < i + 1 → j < c → catF i (fun a j => .int .i64 (F a j)) (oneF cs) a j = .int .i64 (F a j) := fun a j ha hj => by
  unfold catF oneF
  split
  · rfl
  · obtain rfl : a = i := by omega
    exact h j hj
theorem lt8 {p : Nat → Prop} (h0 : p 0) (h1 : p 1) (h2 : p 2) (h3 : p 3) (h4 : p 4) (h5 : p 5) (h6 : p 6) (h7 : p 7) : ∀ j, j < 8 → p j := fun j hj => by
  have : j = 0 ∨ j = 1 ∨ j = 2 ∨ j = 3 ∨ j = 4 ∨ j = 5 ∨ j = 6 ∨ j = 7 := by omega
  rcases this with rfl | rfl | rfl | rfl | rfl | rfl | rfl | rfl <;> assumption
def strongF (l : Nat → Nat → Int) (more : Int) : Nat → Nat → Int := fun i j => if j = 7 then min 68719476736 (l i 7 + more) else l i j
def airDrierBase : BaseF := fun args => match args with
  | [.agg [.int .i64 R, .row n sz_T f_T, .row m sz_H f_H, .int .i64 bl, .int .i64 bh], .agg [.int .i64 wl, .int .i64 wh], .row k sz_l f_l, .int .i64 lim, .int .u32 more] => some ((sz_T = 1 ∧ IntR n 1 f_T) ∧ (sz_H = 1 ∧ IntR m 1 f_H) ∧ (sz_l = 8 ∧ IntR k 8 f_l) ∧ ((Lit.int .u32 more).wf = true), .bool true)
  | _ => none
theorem airDrier_eq (R : Int) (n : Nat) (sz_T : Nat) (f_T : Nat → Nat → SV) (m : Nat) (sz_H : Nat) (f_H : Nat → Nat → SV) (bl : Int) (bh : Int) (wl : Int) (wh : Int) (k : Nat) (sz_l : Nat) (f_l : Nat → Nat → SV) (lim : Int) (more : Int) : airDrierBase [.agg [.int .i64 R, .row n sz_T f_T, .row m sz_H f_H, .int .i64 bl, .int .i64 bh], .agg [.int .i64 wl, .int .i64 wh], .row k sz_l f_l, .int .i64 lim, .int .u32 more] = some ((sz_T = 1 ∧ IntR n 1 f_T) ∧ (sz_H = 1 ∧ IntR m 1 f_H) ∧ (sz_l = 8 ∧ IntR k 8 f_l) ∧ ((Lit.int .u32 more).wf = true), .bool true) := rfl
theorem airDrier_base : Base Try.prog 7 airDrierBase := by
  intro args p v hq hp
  unfold airDrierBase at hq
  split at hq
  rotate_left
  · cases hq
  rename_i R n sz_T f_T m sz_H f_H bl bh wl wh k sz_l f_l lim more
  cases hq
  obtain ⟨⟨rfl, i_T⟩, ⟨rfl, i_H⟩, ⟨rfl, i_l⟩, wf_more⟩ := hp
  refine base_of (C := cx [] [] [(9, manyBase), (10, awakeBase), (13, runPBase), (17, rustPBase), (19, dryerPBase)] [] none) (cx_ok trivial ⟨many_base, awake_base, runP_base, rustP_base, dryerP_base, trivial⟩) rfl (g := 7) (fn := Try.f7)
    (args' := [.agg [.int .i64 R, .row n 1 (rowF .i64 (ivf f_T)), .row m 1 (rowF .i64 (ivf f_H)), .int .i64 bl, .int .i64 bh], .agg [.int .i64 wl, .int .i64 wh], .row k 8 (rowF .i64 (ivf f_l)), .int .i64 lim, .int .u32 more]) (fn_7) rfl 1000 (by
    simp only [BdL, Bd, and_self, and_true, true_and]
    exact ⟨⟨(fun i j hi hj => by rw [i_T i j hi hj]; trivial), (fun i j hi hj => by rw [i_H i j hi hj]; trivial)⟩, (fun i j hi hj => by rw [i_l i j hi hj]; trivial)⟩) ⟨SameD.agg ⟨SameD.rfl' _, SameD.int i_T, SameD.int i_H, SameD.rfl' _, SameD.rfl' _, trivial⟩, SameD.rfl' _, SameD.int i_l, SameD.rfl' _, SameD.rfl' _, trivial⟩ ?_
  generalize ivf f_T = T
  generalize ivf f_H = H
  generalize ivf f_l = l
  simp only [rowF_eq]
  simp only [many_eq, awake_eq, runP_eq, rustP_eq, dryerP_eq, two, rTup, spn, Try.f7, go_sem, ↓reduceIte, Nat.reduceAdd, Nat.reduceSub, Nat.reduceMul, Nat.reduceEqDiff, Nat.reduceLT, Nat.reduceLeDiff, Int.reduceToNat, Int.reduceLE, Int.reduceLT, Int.reduceEq, Int.reduceNeg, reduceCtorEq]
  have hmore := wf_u32 wf_more
  refine ⟨.inl trivial, fun _ => trivial, fun c0 => ?_⟩
  cases hv : validB R n m T H bl bh wl wh k l with
  | false => simp [airRun, airDry, hv, spl]
  | true =>
  obtain ⟨v1, v2, v3, v4⟩ := valid_iff.1 hv
  have hA := (airB_iff.1 v1).1
  have hk : k ≤ 60 := by simp [manyB] at c0; omega
  have hs := fun (d : Nat) (hd : d ≤ 68719476736) => lstD_side (p := noDew R n T H bh wh k l) (noDew_mono hv) hd
  have hle := (lstD_spec (noDew R n T H bh wh k l)).1
  have hrun : airRun R n m T H bl bh wl wh k l = ⟨atL R n T H bl l wl k, atH R n T H bh l wh k, 0⟩ := by simp [airRun, hv]
  have hcase : ∃ d1 e J : Int, airDry R n m T H bl bh wl wh k l = (d1, e) ∧ (0 ≤ d1 ∧ d1 ≤ 68719476736) ∧ (0 ≤ J ∧ J ≤ 68719476736) ∧ ((e = 0 ∧ J = d1 ∧ noDew R n T H bh wh k l J = true ∧ (d1 = 0 ∨ noDew R n T H bh wh k l (d1 - 1) = false)) ∨ (e = 4 ∧ J = 68719476736 ∧ noDew R n T H bh wh k l J = false)) := by
    by_cases hS : lstD (noDew R n T H bh wh k l) ≤ 68719476736
    · refine ⟨(lstD (noDew R n T H bh wh k l) : Nat), 0, (lstD (noDew R n T H bh wh k l) : Nat), by simp [airDry, hv, hS], by omega, by omega, .inl ⟨rfl, rfl, ?_, ?_⟩⟩
      · cases hp : noDew R n T H bh wh k l (lstD (noDew R n T H bh wh k l) : Nat) with
        | true => rfl
        | false => have := (hs _ hS).2 hp; omega
      · rcases Nat.eq_zero_or_pos (lstD (noDew R n T H bh wh k l)) with h | h
        · left; omega
        · right
          cases hp : noDew R n T H bh wh k l ((lstD (noDew R n T H bh wh k l) : Nat) - 1) with
          | false => rfl
          | true =>
            rw [show ((lstD (noDew R n T H bh wh k l) : Nat) : Int) - 1 = ((lstD (noDew R n T H bh wh k l) - 1 : Nat) : Int) by omega] at hp
            have := (hs _ (by omega)).1 hp
            omega
    · refine ⟨0, 4, 68719476736, by simp [airDry, hv, hS], by omega, by omega, .inr ⟨rfl, rfl, ?_⟩⟩
      cases hp : noDew R n T H bh wh k l 68719476736 with
      | false => rfl
      | true => have := (hs 68719476736 (by omega)).1 hp; omega
  obtain ⟨d1, e, J, hd, hd1, hJ, hc⟩ := hcase
  have g1 : decide (d1 < 0) = false := by simp; omega
  have g2 : decide (68719476736 < d1) = false := by simp; omega
  have hl7 := fun i (hi : i < k) => (okS_sp (R := R) (bl := bl) (bh := bh) (v4 i hi) (w := 0) (by omega)).2.2.2.2.2.2
  have okJ := fun (d : Int) (hd : 0 ≤ d ∧ d ≤ 68719476736) i hi => okS_dry (v4 i hi) hd
  have hW : 0 ≤ max 0 (d1 - 1) ∧ max 0 (d1 - 1) ≤ 68719476736 := by omega
  have vJ : validB R n m T H bl bh wl wh k (dryAt l J) = true := valid_iff.2 ⟨v1, v2, v3, okJ J hJ⟩
  have vW : validB R n m T H bl bh wl wh k (dryAt l (max 0 (d1 - 1))) = true := valid_iff.2 ⟨v1, v2, v3, okJ _ hW⟩
  have okSt : ∀ i, i < k → okS (T 0 0) (T (n - 1) 0) (strongF l more i) = true := fun i hi => by
    have := okS_dry (v4 i hi) (d := min 68719476736 (l i 7 + more)) (by have := hl7 i hi; omega)
    exact this
  have vS : validB R n m T H bl bh wl wh k (strongF l more) = true := valid_iff.2 ⟨v1, v2, v3, okSt⟩
  have rS : airRun R n m T H bl bh wl wh k (strongF l more) = ⟨atL R n T H bl (strongF l more) wl k, atH R n T H bh (strongF l more) wh k, 0⟩ := by simp [airRun, vS]
  have rJ : airRun R n m T H bl bh wl wh k (dryAt l J) = ⟨atL R n T H bl (dryAt l J) wl k, atH R n T H bh (dryAt l J) wh k, 0⟩ := by simp [airRun, vJ]
  have rW : airRun R n m T H bl bh wl wh k (dryAt l (max 0 (d1 - 1))) = ⟨atL R n T H bl (dryAt l (max 0 (d1 - 1))) wl k, atH R n T H bh (dryAt l (max 0 (d1 - 1))) wh k, 0⟩ := by simp [airRun, vW]
  have st7 : ∀ i, i < k → (∀ j, j < 7 → strongF l more i j = l i j) ∧ l i 7 ≤ strongF l more i 7 := fun i hi => ⟨fun j hj => by simp [strongF, show j ≠ 7 by omega], by have := hl7 i hi; simp [strongF]; omega⟩
  have mL := atL_dry v1 v4 okSt st7 (w := wl) (by omega)
  have mH := atH_dry v1 v4 okSt st7 (w := wh) (by omega)
  have rust : (airRust R n m T H bl bh wl wh k l lim).2.2 = (airRust R n m T H bl bh wl wh k (strongF l more) lim).2.2 ∧ ((airRust R n m T H bl bh wl wh k l lim).2.2 = 0 → (airRust R n m T H bl bh wl wh k (strongF l more) lim).1 ≤ (airRust R n m T H bl bh wl wh k l lim).1 ∧ (airRust R n m T H bl bh wl wh k (strongF l more) lim).2.1 ≤ (airRust R n m T H bl bh wl wh k l lim).2.1) := by
    cases hlim : in3 lim 0 1000 with
    | false => simp [airRust, hv, vS, hlim]
    | true =>
      have e1 : airRust R n m T H bl bh wl wh k l lim = (cntP (rusL R n T H bl l wl lim) k, cntP (rusH R n T H bh l wh lim) k, 0) := by simp [airRust, hv, hlim]
      have e2 : airRust R n m T H bl bh wl wh k (strongF l more) lim = (cntP (rusL R n T H bl (strongF l more) wl lim) k, cntP (rusH R n T H bh (strongF l more) wh lim) k, 0) := by simp [airRust, vS, hlim]
      rw [e1, e2]
      refine ⟨rfl, fun _ => ⟨cntP_mono fun i hi hp => ?_, cntP_mono fun i hi hp => ?_⟩⟩
      · have := (mL (i + 1) (by omega)).1
        simp only [rusL, decide_eq_true_eq, (st7 i hi).1 0 (by omega)] at hp ⊢
        omega
      · have := (mH (i + 1) (by omega)).1
        simp only [rusH, decide_eq_true_eq, (st7 i hi).1 0 (by omega)] at hp ⊢
        omega
  have wm : IntKind.i64.wrap more = more := wrap_id (by omega) (by omega)
  have wd : IntKind.i64.wrap (d1 - 1) = d1 - 1 := wrap_id (by omega) (by omega)
  simp only [hrun, hd]
  rcases hc with ⟨rfl, rfl, nJ, nW⟩ | ⟨rfl, rfl, nJ⟩
  · simp only [go_sem, ↓reduceIte, Nat.reduceAdd, Nat.reduceSub, Nat.reduceMul, Nat.reduceEqDiff, Nat.reduceLT, Nat.reduceLeDiff, Int.reduceToNat, Int.reduceLE, Int.reduceLT, Int.reduceEq, Int.reduceNeg, reduceCtorEq, decide_true, Bool.not_true, spl_false, g1, g2]
    refine loop_ofH { i : Nat // i ≤ k } (fun i => [(19, .int .i64 (i.1 : Int)), (18, .vec 2 i.1), (17, .vec 1 i.1), (16, .vec 0 i.1), (15, .int .i64 0), (14, .int .i64 J), (12, .ptr 3 0), (6, .ptr 1 0), (5, .ptr 0 0), (4, .int .u32 more), (3, .int .i64 lim), (2, .row k 8 fun i j => .int .i64 (l i j))])
      (fun h i => { h with vecs := [.live i.1 50 8 i.1 fun a j => .int .i64 (strongF l more a j), .live i.1 50 8 i.1 fun a j => .int .i64 (dryAt l J a j), .live i.1 50 8 i.1 fun a j => .int .i64 (dryAt l (max 0 (J - 1)) a j)] }) (fun i => k - i.1) (fun _ => ⟨rfl, rfl⟩) ⟨0, by omega⟩ (by (apply sub_of <;> simp only [go_sem, ↓reduceIte, Nat.reduceAdd, Nat.reduceSub, Nat.reduceMul, Nat.reduceEqDiff, Nat.reduceLT, Nat.reduceLeDiff, Int.reduceToNat, Int.reduceLE, Int.reduceLT, Int.reduceEq, Int.reduceNeg, reduceCtorEq] <;> (try simp [catF]) <;> (try exact fun j _ => Bd_nth (by simp [BdL, Bd]) j) <;> (try exact bd_setL (by simp [bdAs, BdL, Bd])))) ?_
    rintro ⟨i, hi⟩
    simp only [many_eq, awake_eq, runP_eq, rustP_eq, dryerP_eq, two, rTup, spn, Try.f7, go_sem, ↓reduceIte, Nat.reduceAdd, Nat.reduceSub, Nat.reduceMul, Nat.reduceEqDiff, Nat.reduceLT, Nat.reduceLeDiff, Int.reduceToNat, Int.reduceLE, Int.reduceLT, Int.reduceEq, Int.reduceNeg, reduceCtorEq]
    have hw3 : IntKind.i64.wrap ((i : Int) + 1) = ((i + 1 : Nat) : Int) := by rw [wrap_id (by omega) (by omega)]; omega
    refine ⟨fun e1 => ?_, fun e1 => ?_⟩
    · simp only [decide_eq_true_eq] at e1
      have ik : i < k := by omega
      have h7 := hl7 i ik
      have wl7 : IntKind.i64.wrap (l i 7 + more) = l i 7 + more := wrap_id (by omega) (by omega)
      simp only [wm, wd, wl7]
      refine ⟨⟨by omega, by omega⟩, ?_⟩
      repeat' first | (refine And.intro (by omega) ?_)
      refine ⟨⟨i + 1, by omega⟩, by simp only []; omega, ?_⟩
      apply sub_of <;> simp only [hw3, go_sem, ↓reduceIte, Nat.reduceAdd, Nat.reduceSub, Nat.reduceMul, Nat.reduceEqDiff, Nat.reduceLT, Nat.reduceLeDiff, Int.reduceToNat, Int.reduceLE, Int.reduceLT, Int.reduceEq, Int.reduceNeg, reduceCtorEq] <;> (try simp) <;> (try exact fun j _ => Bd_nth (by simp [BdL, Bd]) j) <;> (try exact bd_setL (by simp [bdAs, BdL, Bd]))
      refine ⟨cat_row (lt8 ?_ ?_ ?_ ?_ ?_ ?_ ?_ ?_), cat_row (lt8 ?_ ?_ ?_ ?_ ?_ ?_ ?_ ?_), cat_row (lt8 ?_ ?_ ?_ ?_ ?_ ?_ ?_ ?_)⟩ <;> simp [strongF, dryAt, nth]
    · simp only [decide_eq_false_iff_not] at e1
      obtain rfl : i = k := by omega
      simp only [rS, rJ, rW, decide_true, Bool.not_true, spl_false]
      have zl := (mL i (Nat.le_refl _)).2
      have zh := (mH i (Nat.le_refl _)).2
      obtain ⟨r1, r2⟩ := rust
      have nJ' : (atH R n T H bh (dryAt l J) wh i).de = 0 := by simpa [noDew] using nJ
      have bq : ((!true) == true) = false := rfl
      have nW' : J = 0 ∨ 0 < (atH R n T H bh (dryAt l (max 0 (J - 1))) wh i).de := by
        rcases nW with h | h
        · exact .inl h
        · by_cases h0 : J = 0
          · exact .inl h0
          · right
            rw [show max 0 (J - 1) = J - 1 by omega]
            have b : 0 ≤ (atH R n T H bh (dryAt l (J - 1)) wh i).de := (atH_bd v1 (okJ (J - 1) (by omega)) (w := wh) (by omega) i (Nat.le_refl _)).2.2.2.2.1
            simp only [noDew, decide_eq_false_iff_not] at h
            omega
      simp only [nJ', decide_true, bq, spl_false]
      clear hs mL mH hrun rS rJ rW st7 okSt okJ
      repeat' first | with_reducible refine spl_intro (fun _ => ?_) (fun _ => ?_) | trivial
      all_goals
        simp only [decide_eq_true_eq, decide_eq_false_iff_not, Bool.not_eq_true', Bool.not_eq_false'] at *
        omega
  · simp only [go_sem, ↓reduceIte, Nat.reduceAdd, Nat.reduceSub, Nat.reduceMul, Nat.reduceEqDiff, Nat.reduceLT, Nat.reduceLeDiff, Int.reduceToNat, Int.reduceLE, Int.reduceLT, Int.reduceEq, Int.reduceNeg, reduceCtorEq, decide_true, Bool.not_true, Bool.not_false, spl_true, spl_false, g1, g2]
    refine loop_ofH { i : Nat // i ≤ k } (fun i => [(19, .int .i64 (i.1 : Int)), (18, .vec 2 i.1), (17, .vec 1 i.1), (16, .vec 0 i.1), (15, .int .i64 4), (14, .int .i64 d1), (12, .ptr 3 0), (6, .ptr 1 0), (5, .ptr 0 0), (4, .int .u32 more), (3, .int .i64 lim), (2, .row k 8 fun i j => .int .i64 (l i j))])
      (fun h i => { h with vecs := [.live i.1 50 8 i.1 fun a j => .int .i64 (strongF l more a j), .live i.1 50 8 i.1 fun a j => .int .i64 (dryAt l 68719476736 a j), .live i.1 50 8 i.1 fun a j => .int .i64 (dryAt l (max 0 (d1 - 1)) a j)] }) (fun i => k - i.1) (fun _ => ⟨rfl, rfl⟩) ⟨0, by omega⟩ (by (apply sub_of <;> simp only [go_sem, ↓reduceIte, Nat.reduceAdd, Nat.reduceSub, Nat.reduceMul, Nat.reduceEqDiff, Nat.reduceLT, Nat.reduceLeDiff, Int.reduceToNat, Int.reduceLE, Int.reduceLT, Int.reduceEq, Int.reduceNeg, reduceCtorEq] <;> (try simp [catF]) <;> (try exact fun j _ => Bd_nth (by simp [BdL, Bd]) j) <;> (try exact bd_setL (by simp [bdAs, BdL, Bd])))) ?_
    rintro ⟨i, hi⟩
    simp only [many_eq, awake_eq, runP_eq, rustP_eq, dryerP_eq, two, rTup, spn, Try.f7, go_sem, ↓reduceIte, Nat.reduceAdd, Nat.reduceSub, Nat.reduceMul, Nat.reduceEqDiff, Nat.reduceLT, Nat.reduceLeDiff, Int.reduceToNat, Int.reduceLE, Int.reduceLT, Int.reduceEq, Int.reduceNeg, reduceCtorEq]
    have hw3 : IntKind.i64.wrap ((i : Int) + 1) = ((i + 1 : Nat) : Int) := by rw [wrap_id (by omega) (by omega)]; omega
    refine ⟨fun e1 => ?_, fun e1 => ?_⟩
    · simp only [decide_eq_true_eq] at e1
      have ik : i < k := by omega
      have h7 := hl7 i ik
      have wl7 : IntKind.i64.wrap (l i 7 + more) = l i 7 + more := wrap_id (by omega) (by omega)
      simp only [wm, wd, wl7]
      refine ⟨⟨by omega, by omega⟩, ?_⟩
      repeat' first | (refine And.intro (by omega) ?_)
      refine ⟨⟨i + 1, by omega⟩, by simp only []; omega, ?_⟩
      apply sub_of <;> simp only [hw3, go_sem, ↓reduceIte, Nat.reduceAdd, Nat.reduceSub, Nat.reduceMul, Nat.reduceEqDiff, Nat.reduceLT, Nat.reduceLeDiff, Int.reduceToNat, Int.reduceLE, Int.reduceLT, Int.reduceEq, Int.reduceNeg, reduceCtorEq] <;> (try simp) <;> (try exact fun j _ => Bd_nth (by simp [BdL, Bd]) j) <;> (try exact bd_setL (by simp [bdAs, BdL, Bd]))
      refine ⟨cat_row (lt8 ?_ ?_ ?_ ?_ ?_ ?_ ?_ ?_), cat_row (lt8 ?_ ?_ ?_ ?_ ?_ ?_ ?_ ?_), cat_row (lt8 ?_ ?_ ?_ ?_ ?_ ?_ ?_ ?_)⟩ <;> simp [strongF, dryAt, nth]
    · simp only [decide_eq_false_iff_not] at e1
      obtain rfl : i = k := by omega
      simp only [rS, rJ, rW, decide_true, Bool.not_true, spl_false]
      have zl := (mL i (Nat.le_refl _)).2
      have zh := (mH i (Nat.le_refl _)).2
      obtain ⟨r1, r2⟩ := rust
      have nJ' : (atH R n T H bh (dryAt l 68719476736) wh i).de ≠ 0 := by simpa [noDew] using nJ
      have bq : ((!false) == false) = false := rfl
      have nd : decide ((atH R n T H bh (dryAt l 68719476736) wh i).de = 0) = false := decide_eq_false nJ'
      simp only [nd, bq, spl_false]
      clear hs mL mH hrun rS rJ rW st7 okSt okJ
      repeat' first | with_reducible refine spl_intro (fun _ => ?_) (fun _ => ?_) | trivial
      all_goals
        simp only [decide_eq_true_eq, decide_eq_false_iff_not, Bool.not_eq_true', Bool.not_eq_false'] at *
        omega
end Go.Eng
end
