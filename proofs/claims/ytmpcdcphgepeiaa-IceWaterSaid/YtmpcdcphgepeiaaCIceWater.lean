/-
  IceWater: for every input the law returns true, and each argument reads afterwards as it read before. No condition.
-/
import Derived.Test.YtmpcdcphgepeiaaRows
import Derived.WalkKit
import Derived.Test.YtmpcdcphgepeiaaBR
set_option linter.unusedSimpArgs false
set_option linter.unusedVariables false
/- IceWaters: its call returns true. -/
section
namespace Go.Eng
open Go Go.RowKit Go.Proofs
set_option maxRecDepth 100000
set_option maxHeartbeats 4000000
attribute [local irreducible] OwnT DefS
def iceWatersBase : BaseF := fun args => match args with
  | [.row n sz_z f_z, .agg [.int .i64 wl, .int .i64 wh], .agg [.int .i64 pl, .int .i64 ph], .int .i64 passes, .int .i64 least, .int .i64 most] => some ((sz_z = 4 ∧ IntR n 4 f_z), .bool true)
  | _ => none
theorem iceWaters_eq (n : Nat) (z : Nat → Nat → Int) (wl : Int) (wh : Int) (pl : Int) (ph : Int) (passes : Int) (least : Int) (most : Int) : iceWatersBase [.row n 4 (fun i j => .int .i64 (z i j)), .agg [.int .i64 wl, .int .i64 wh], .agg [.int .i64 pl, .int .i64 ph], .int .i64 passes, .int .i64 least, .int .i64 most] = some ((4 = 4 ∧ IntR n 4 (fun i j => .int .i64 (z i j))), .bool true) := rfl
theorem iceWaters_base : Base Try.prog 3 iceWatersBase := by
  intro args p v hq hp
  unfold iceWatersBase at hq
  split at hq
  rotate_left
  · cases hq
  rename_i n sz_z f_z wl wh pl ph passes least most
  cases hq
  obtain ⟨rfl, i_z⟩ := hp
  refine base_of (C := cx [] [] [(14, waterBase), (15, rwaterBase), (13, aliveBase)] [] none) (cx_ok trivial ⟨water_base, rwater_base, alive_base, trivial⟩) rfl (g := 3) (fn := Try.f3)
    (args' := [.row n 4 (rowF .i64 (fun i j => iv (f_z i j))), .agg [.int .i64 wl, .int .i64 wh], .agg [.int .i64 pl, .int .i64 ph], .int .i64 passes, .int .i64 least, .int .i64 most]) (fn_3) rfl 1000 (by simp only [BdL, Bd, and_self, and_true, true_and]; exact fun i j hi hj => by rw [i_z i j hi hj]; trivial) ⟨SameD.int i_z, SameD.rfl' _, SameD.rfl' _, SameD.rfl' _, SameD.rfl' _, SameD.rfl' _, trivial⟩ ?_
  generalize (fun i j => iv (f_z i j)) = z
  simp only [rowF_eq]
  simp only [alive_eq, water_at, rwater_at, spanT, Try.f3, go_sem, ↓reduceIte, Nat.reduceAdd, Nat.reduceSub, Nat.reduceMul, Nat.reduceEqDiff, Nat.reduceLT, Nat.reduceLeDiff, Int.reduceToNat, Int.reduceLE, Int.reduceLT, Int.reduceEq, Int.reduceNeg, reduceCtorEq]
  simp [spl]
end Go.Eng
end

/- Water: what its amounts keep. -/
section
namespace Go.Eng
open Go Go.RowKit Go.Proofs
set_option maxRecDepth 100000
set_option maxHeartbeats 4000000
attribute [local irreducible] OwnT DefS
def keepB (n passes : Nat) (z : Nat → Nat → Int) (wl wh pl ph least most a : Int) : Bool :=
  allU (fun i => allU (fun k => decide (least ≤ after wh ph a (z i 0) (k + 1)) && decide (after wl pl a (z i 1) (k + 1) ≤ most)) passes) n
theorem keepB_good (n passes : Nat) (z : Nat → Nat → Int) (wl wh pl ph least most : Int) (a : Nat) :
    keepB n passes z wl wh pl ph least most (a : Int) = goodB n passes z wl wh pl ph least most a := by
  rw [Bool.eq_iff_iff]
  simp only [goodB, goesR, keepB, Bool.and_eq_true, all2_true, decide_eq_true_eq]
  exact ⟨fun h => ⟨fun i hi q hq => (h i hi q hq).1, fun i hi q hq => (h i hi q hq).2⟩, fun h i hi q hq => ⟨h.1 i hi q hq, h.2 i hi q hq⟩⟩
theorem keeps_iff (n passes : Nat) (z : Nat → Nat → Int) (wl wh pl ph least most : Int) :
    ∀ a : Nat, a < 20001 → (keepB n passes z wl wh pl ph least most (a : Int) = true ↔ srch (enoughB n passes (fun i => z i 0) wh ph least) 20001 0 20001 ≤ a ∧ a < srch (muchB n passes (fun i => z i 1) wl pl most) 20001 0 20001) := by
  have hE : ∀ a, enoughB n passes (fun i => z i 0) wh ph least a = goesR n passes z wl wh pl ph least (a : Int) true := fun _ => rfl
  have hM : ∀ a, muchB n passes (fun i => z i 1) wl pl most a = !goesR n passes z wl wh pl ph most (a : Int) false := fun _ => rfl
  have mE : ∀ a b, a ≤ b → b < 20001 → enoughB n passes (fun i => z i 0) wh ph least a = true → enoughB n passes (fun i => z i 0) wh ph least b = true := by
    intro a b hab _ h
    simp only [enoughB, all2_true, decide_eq_true_eq] at h ⊢
    exact fun i hi q hq => Int.le_trans (h i hi q hq) (after_mono (by omega) _)
  have mM : ∀ a b, a ≤ b → b < 20001 → muchB n passes (fun i => z i 1) wl pl most a = true → muchB n passes (fun i => z i 1) wl pl most b = true := by
    intro a b hab _ h
    simp only [muchB, Bool.not_eq_true'] at h ⊢
    cases hc : allU (fun i => allU (fun k => decide (after wl pl (b : Int) (z i 1) (k + 1) ≤ most)) passes) n with
    | false => rfl
    | true =>
      exfalso
      have h2 : allU (fun i => allU (fun k => decide (after wl pl (a : Int) (z i 1) (k + 1) ≤ most)) passes) n = true := by
        simp only [all2_true, decide_eq_true_eq] at hc ⊢
        exact fun i hi q hq => Int.le_trans (after_mono (by omega) _) (hc i hi q hq)
      rw [h2] at h
      cases h
  obtain ⟨e1, e2, e3⟩ := srch_mono mE 20001 0 20001 (by omega) (by omega) (by omega) (fun k hk => by omega) (fun k hk hk2 => by omega)
  obtain ⟨m1, m2, m3⟩ := srch_mono mM 20001 0 20001 (by omega) (by omega) (by omega) (fun k hk => by omega) (fun k hk hk2 => by omega)
  generalize srch (enoughB n passes (fun i => z i 0) wh ph least) 20001 0 20001 = e at *
  generalize srch (muchB n passes (fun i => z i 1) wl pl most) 20001 0 20001 = m at *
  intro a ha
  rw [keepB_good]
  simp only [goodB, ← hE, Bool.and_eq_true]
  have hM' : goesR n passes z wl wh pl ph most (a : Int) false = !muchB n passes (fun i => z i 1) wl pl most a := by rw [hM]; simp
  rw [hM']
  constructor
  · rintro ⟨h1, h2⟩
    refine ⟨?_, ?_⟩
    · rcases Nat.lt_or_ge a e with h | h
      · rw [e2 a h] at h1; cases h1
      · exact h
    · rcases Nat.lt_or_ge a m with h | h
      · exact h
      · rw [m3 a h ha] at h2; cases h2
  · rintro ⟨h1, h2⟩
    exact ⟨e3 a h1 ha, by rw [m2 a h2]; rfl⟩
theorem srch_le (p : Nat → Bool) : ∀ (f i j : Nat), i ≤ j → srch p f i j ≤ j
  | 0, i, j, h => by simpa [srch] using h
  | f + 1, i, j, h => by
    simp only [srch]
    split
    · split
      · exact Nat.le_trans (srch_le p f i _ (by omega)) (by omega)
      · exact srch_le p f _ j (by omega)
    · exact h
theorem waterV_cases (n : Nat) (z : Nat → Nat → Int) (wl wh pl ph passes least most : Int) :
    (∃ e : Int, waterV n z wl wh pl ph passes least most = (0, 0, e) ∧ e ≠ 0 ∧ e ≠ 4) ∨
    (rinkB n z = true ∧ (0 ≤ wl ∧ wl ≤ wh ∧ wh ≤ 20000) ∧ (0 ≤ pl ∧ pl ≤ ph ∧ ph ≤ 20000) ∧ (1 ≤ passes ∧ passes ≤ 100) ∧
      ((waterV n z wl wh pl ph passes least most = (0, 0, 4) ∧ ∀ a : Nat, a < 20001 → keepB n passes.toNat z wl wh pl ph least most (a : Int) = false) ∨
       ∃ lo hi : Nat, waterV n z wl wh pl ph passes least most = ((lo : Int), (hi : Int), 0) ∧ lo ≤ hi ∧ hi < 20001 ∧ ∀ a : Nat, a < 20001 → (keepB n passes.toNat z wl wh pl ph least most (a : Int) = true ↔ lo ≤ a ∧ a ≤ hi))) := by
  have hk := keeps_iff n passes.toNat z wl wh pl ph least most
  have hm := srch_le (muchB n passes.toNat (fun i => z i 1) wl pl most) 20001 0 20001 (by omega)
  unfold waterV
  split
  · rename_i h1
    split
    · rename_i h2
      refine .inr ⟨h1.1, sp3_iff.1 h1.2.1, sp3_iff.1 h1.2.2, in3_iff.1 h2.1, ?_⟩
      split
      · rename_i h3
        refine .inl ⟨rfl, fun a ha => ?_⟩
        cases hc : keepB n passes.toNat z wl wh pl ph least most (a : Int) with
        | false => rfl
        | true => have := (hk a ha).1 hc; omega
      · rename_i h3
        refine .inr ⟨_, srch (muchB n passes.toNat (fun i => z i 1) wl pl most) 20001 0 20001 - 1, Prod.ext rfl (Prod.ext ?_ rfl), by omega, by omega, fun a ha => ?_⟩
        · simp only []; omega
        · rw [hk a ha]; omega
    · exact .inl ⟨2, rfl, by omega, by omega⟩
  · exact .inl ⟨1, rfl, by omega, by omega⟩
theorem keepsP (n : Nat) (z : Nat → Nat → Int) (wl wh pl ph passes least most a x y : Int) (hr : rinkB n z = true) (hw : 0 ≤ wl ∧ wl ≤ wh ∧ wh ≤ 20000) (hp : 0 ≤ pl ∧ pl ≤ ph ∧ ph ≤ 20000) (hq : 1 ≤ passes ∧ passes ≤ 100) (ha : 0 ≤ a ∧ a ≤ 20001) :
    CallsS Try.prog 26 [.int .i64 a, .ptr 0 0, .ptr 3 0, .ptr 1 0, .ptr 2 0, .ptr 4 0, .ptr 5 0]
      ⟨[.live 22 [.row n 4 fun i j => .int .i64 (z i j)], .live 24 [.int .i64 wl, .int .i64 wh], .live 24 [.int .i64 pl, .int .i64 ph], .live 3 [.int .i64 passes], .live 3 [.int .i64 least], .live 3 [.int .i64 most], .live 24 [.int .i64 x, .int .i64 y]], []⟩
      (fun o h' => o = .ret (.bool (keepB n passes.toNat z wl wh pl ph least most a)) ∧ h' = ⟨[.live 22 [.row n 4 fun i j => .int .i64 (z i j)], .live 24 [.int .i64 wl, .int .i64 wh], .live 24 [.int .i64 pl, .int .i64 ph], .live 3 [.int .i64 passes], .live 3 [.int .i64 least], .live 3 [.int .i64 most], .live 24 [.int .i64 x, .int .i64 y]], []⟩) := by
  refine calls_trim (K := fun o h' => o = .ret (.bool (keepB n passes.toNat z wl wh pl ph least most a)) ∧ ∃ tr : List Blk, h' = ⟨.live 22 [.row n 4 fun i j => .int .i64 (z i j)] :: .live 24 [.int .i64 wl, .int .i64 wh] :: .live 24 [.int .i64 pl, .int .i64 ph] :: .live 3 [.int .i64 passes] :: .live 3 [.int .i64 least] :: .live 3 [.int .i64 most] :: .live 24 [.int .i64 x, .int .i64 y] :: tr, []⟩)
    (calls_of_run (C := cx [] [] [] [(26, 4, p26_4)] none) (cx_ok trivial trivial) rfl (g := 26) (fn := Try.f26) fn_26 rfl 1000 ?_) ?_
  rotate_left
  · rintro o h' ⟨rfl, tr, rfl⟩
    exact ⟨_, _, _, ⟨rfl, ⟨rfl, rfl⟩⟩, by constructor <;> simp only [go_sem, ↓reduceIte, Nat.reduceAdd, Nat.reduceSub, Nat.reduceMul, Nat.reduceEqDiff, Nat.reduceLT, Nat.reduceLeDiff, Int.reduceToNat, Int.reduceLE, Int.reduceLT, Int.reduceEq, Int.reduceNeg, reduceCtorEq] <;> (try simp), by simp [lenB], by simp [lenV]⟩
  have b1 := rinkB_iff.1 hr
  simp only [Try.f26, p26_4, go_sem, ↓reduceIte, Nat.reduceAdd, Nat.reduceSub, Nat.reduceMul, Nat.reduceEqDiff, Nat.reduceLT, Nat.reduceLeDiff, Int.reduceToNat, Int.reduceLE, Int.reduceLT, Int.reduceEq, Int.reduceNeg, reduceCtorEq]
  refine loop_of { i : Nat // i ≤ n ∧ ∀ b, b < i → ∀ k, k < passes.toNat → least ≤ after wh ph a (z b 0) (k + 1) ∧ after wl pl a (z b 1) (k + 1) ≤ most }
    (fun i => [(15, .int .i64 (i.1 : Int)), (14, .int .i64 (n : Int)), (13, .row n 4 fun i j => .int .i64 (z i j)), (0, .int .i64 a), (1, .ptr 0 0), (2, .ptr 3 0), (3, .ptr 1 0), (4, .ptr 2 0), (5, .ptr 4 0), (6, .ptr 5 0)])
    (fun _ => ⟨[.live 22 [.row n 4 fun i j => .int .i64 (z i j)], .live 24 [.int .i64 wl, .int .i64 wh], .live 24 [.int .i64 pl, .int .i64 ph], .live 3 [.int .i64 passes], .live 3 [.int .i64 least], .live 3 [.int .i64 most], .live 24 [.int .i64 x, .int .i64 y]], []⟩)
    (fun i => n - i.1) (fun _ => ⟨rfl, rfl⟩) ⟨0, by omega, by omega⟩ (by (apply sub_of <;> simp only [go_sem, ↓reduceIte, Nat.reduceAdd, Nat.reduceSub, Nat.reduceMul, Nat.reduceEqDiff, Nat.reduceLT, Nat.reduceLeDiff, Int.reduceToNat, Int.reduceLE, Int.reduceLT, Int.reduceEq, Int.reduceNeg, reduceCtorEq] <;> (try simp [catF]))) ?_
  rintro ⟨i, hi, hb⟩
  simp only [Try.f26, p26_4, go_sem, ↓reduceIte, Nat.reduceAdd, Nat.reduceSub, Nat.reduceMul, Nat.reduceEqDiff, Nat.reduceLT, Nat.reduceLeDiff, Int.reduceToNat, Int.reduceLE, Int.reduceLT, Int.reduceEq, Int.reduceNeg, reduceCtorEq]
  have hw2 : IntKind.i64.wrap ((i : Int) + 1) = ((i + 1 : Nat) : Int) := by rw [wrap_id (by omega) (by omega)]; omega
  refine ⟨fun e1 => ?_, fun e1 => ?_⟩
  · simp only [decide_eq_true_eq] at e1
    have hok := b1.2 i (by omega)
    simp only [okZ, Bool.and_eq_true, sp3_iff] at hok
    have hwb := fun k => after_bd (w := wh) (p := ph) (a := a) (x := z i 0) (by omega) (by omega) (by omega) (by omega) (by omega) (by omega) k
    have hvb := fun k => after_bd (w := wl) (p := pl) (a := a) (x := z i 1) (by omega) (by omega) (by omega) (by omega) (by omega) (by omega) k
    repeat' (first | refine And.intro ?_ ?_ | intro _)
    all_goals try (first | (show planOk _ _ = true; kernel_rfl) | (show keepOk _ _ = true; kernel_rfl) | exact True.intro)
    all_goals try omega
    refine loop_of { q : Nat // q ≤ passes.toNat ∧ ∀ k, k < q → least ≤ after wh ph a (z i 0) (k + 1) ∧ after wl pl a (z i 1) (k + 1) ≤ most }
      (fun q => [(26, .int .i64 (q.1 : Int)), (25, .int .i64 passes), (11, .int .i64 (after wh ph a (z i 0) q.1)), (12, .int .i64 (after wl pl a (z i 1) q.1)), (15, .int .i64 (i : Int)), (14, .int .i64 (n : Int)), (13, .row n 4 fun i j => .int .i64 (z i j)), (0, .int .i64 a), (1, .ptr 0 0), (2, .ptr 3 0), (3, .ptr 1 0), (4, .ptr 2 0), (5, .ptr 4 0), (6, .ptr 5 0)])
      (fun _ => ⟨[.live 22 [.row n 4 fun i j => .int .i64 (z i j)], .live 24 [.int .i64 wl, .int .i64 wh], .live 24 [.int .i64 pl, .int .i64 ph], .live 3 [.int .i64 passes], .live 3 [.int .i64 least], .live 3 [.int .i64 most], .live 24 [.int .i64 x, .int .i64 y], .dead], []⟩)
      (fun q => passes.toNat - q.1) (fun _ => ⟨rfl, rfl⟩) ⟨0, by omega, by omega⟩ (by apply sub_of <;> simp only [after, go_sem, ↓reduceIte, Nat.reduceAdd, Nat.reduceSub, Nat.reduceMul, Nat.reduceEqDiff, Nat.reduceLT, Nat.reduceLeDiff, Int.reduceToNat, Int.reduceLE, Int.reduceLT, Int.reduceEq, Int.reduceNeg, reduceCtorEq] <;> (try simp)) ?_
    rintro ⟨q, hq1, hq2⟩
    simp only [Try.f26, p26_4, go_sem, ↓reduceIte, Nat.reduceAdd, Nat.reduceSub, Nat.reduceMul, Nat.reduceEqDiff, Nat.reduceLT, Nat.reduceLeDiff, Int.reduceToNat, Int.reduceLE, Int.reduceLT, Int.reduceEq, Int.reduceNeg, reduceCtorEq]
    have hwp : IntKind.i64.wrap (max 0 (IntKind.i64.wrap (max 0 (IntKind.i64.wrap (after wh ph a (z i 0) q - wh)) - ph)) + a) = after wh ph a (z i 0) (q + 1) := pass_wrap (by omega) (by omega) (by omega) (by omega) (by omega) (by omega) (by have := hwb q; omega) (by have := hwb q; omega)
    have hvp : IntKind.i64.wrap (max 0 (IntKind.i64.wrap (max 0 (IntKind.i64.wrap (after wl pl a (z i 1) q - wl)) - pl)) + a) = after wl pl a (z i 1) (q + 1) := pass_wrap (by omega) (by omega) (by omega) (by omega) (by omega) (by omega) (by have := hvb q; omega) (by have := hvb q; omega)
    have hw3 : IntKind.i64.wrap ((q : Int) + 1) = ((q + 1 : Nat) : Int) := by rw [wrap_id (by omega) (by omega)]; omega
    simp only [hwp, hvp]
    refine ⟨fun f1 => ⟨fun f2 => ⟨?_, _, rfl⟩, fun f2 => ⟨fun f3 => ⟨?_, _, rfl⟩, fun f3 => ?_⟩⟩, fun f1 => ?_⟩
    · have hf : keepB n passes.toNat z wl wh pl ph least most a = false := all2_false (a := i) (q := q) (by omega) (by simp only [decide_eq_true_eq] at f1; omega) (by simp only [decide_eq_true_eq] at f2; simp [show ¬ least ≤ after wh ph a (z i 0) (q + 1) by omega])
      rw [hf]
    · have hf : keepB n passes.toNat z wl wh pl ph least most a = false := all2_false (a := i) (q := q) (by omega) (by simp only [decide_eq_true_eq] at f1; omega) (by simp only [decide_eq_true_eq] at f3; simp [show ¬ after wl pl a (z i 1) (q + 1) ≤ most by omega])
      rw [hf]
    · simp only [decide_eq_true_eq, decide_eq_false_iff_not] at f1 f2 f3
      refine ⟨⟨q + 1, by omega, fun k hk => by
        rcases Nat.lt_or_ge k q with h | h
        · exact hq2 k h
        · obtain rfl : k = q := by omega
          exact ⟨by omega, by omega⟩⟩, by simp only []; omega, ?_⟩
      apply sub_of <;> simp only [hw3, go_sem, ↓reduceIte, Nat.reduceAdd, Nat.reduceSub, Nat.reduceMul, Nat.reduceEqDiff, Nat.reduceLT, Nat.reduceLeDiff, Int.reduceToNat, Int.reduceLE, Int.reduceLT, Int.reduceEq, Int.reduceNeg, reduceCtorEq] <;> (try simp)
    · simp only [decide_eq_false_iff_not] at f1
      obtain rfl : q = passes.toNat := by omega
      refine ⟨⟨i + 1, by omega, fun b hb' => by
        rcases Nat.lt_or_ge b i with h | h
        · exact hb b h
        · obtain rfl : b = i := by omega
          exact hq2⟩, by simp only []; omega, ?_⟩
      apply sub_of <;> simp only [hw2, go_sem, ↓reduceIte, Nat.reduceAdd, Nat.reduceSub, Nat.reduceMul, Nat.reduceEqDiff, Nat.reduceLT, Nat.reduceLeDiff, Int.reduceToNat, Int.reduceLE, Int.reduceLT, Int.reduceEq, Int.reduceNeg, reduceCtorEq] <;> (try simp)
  · simp only [decide_eq_false_iff_not] at e1
    have hf : keepB n passes.toNat z wl wh pl ph least most a = true := all2_true.2 fun b hb' k hk => by
      have := hb b (by omega) k hk
      simp [this.1, this.2]
    rw [hf]
    exact ⟨rfl, _, rfl⟩
end Go.Eng
end

/- IceWater: its call returns true. -/
section
namespace Go.Eng
open Go Go.RowKit Go.Proofs
set_option maxRecDepth 100000
set_option maxHeartbeats 4000000
attribute [local irreducible] OwnT DefS
theorem wf_u16 {w : Int} (h : (Lit.int .u16 w).wf = true) : 0 ≤ w ∧ w ≤ 65535 := by
  have : (decide (IntKind.min .u16 ≤ w) && decide (w ≤ IntKind.max .u16)) = true := h
  have h1 : IntKind.min .u16 = 0 := by decide
  have h2 : IntKind.max .u16 = 65535 := by decide
  rw [h1, h2] at this
  simpa using this
def iceWaterBase : BaseF := fun args => match args with
  | [.row n sz_z f_z, .agg [.int .i64 wl, .int .i64 wh], .agg [.int .i64 pl, .int .i64 ph], .int .i64 passes, .int .i64 least, .int .i64 most, .int .u16 w] => some ((sz_z = 4 ∧ IntR n 4 f_z) ∧ ((Lit.int .u16 w).wf = true), .bool true)
  | _ => none
theorem iceWater_eq (n : Nat) (z : Nat → Nat → Int) (wl : Int) (wh : Int) (pl : Int) (ph : Int) (passes : Int) (least : Int) (most : Int) (w : Int) : iceWaterBase [.row n 4 (fun i j => .int .i64 (z i j)), .agg [.int .i64 wl, .int .i64 wh], .agg [.int .i64 pl, .int .i64 ph], .int .i64 passes, .int .i64 least, .int .i64 most, .int .u16 w] = some ((4 = 4 ∧ IntR n 4 (fun i j => .int .i64 (z i j))) ∧ ((Lit.int .u16 w).wf = true), .bool true) := rfl
theorem iceWater_base : Base Try.prog 7 iceWaterBase := by
  intro args p v hq hp
  unfold iceWaterBase at hq
  split at hq
  rotate_left
  · cases hq
  rename_i n sz_z f_z wl wh pl ph passes least most w
  cases hq
  obtain ⟨⟨rfl, i_z⟩, wf_w⟩ := hp
  refine base_of (C := cx [26] [] [(14, waterBase), (13, aliveBase), (16, rinkBase), (21, hasBase)] [(7, 14, p7_14)] none) (cx_ok trivial ⟨water_base, alive_base, rink_base, has_base, trivial⟩) rfl (g := 7) (fn := Try.f7)
    (args' := [.row n 4 (rowF .i64 (fun i j => iv (f_z i j))), .agg [.int .i64 wl, .int .i64 wh], .agg [.int .i64 pl, .int .i64 ph], .int .i64 passes, .int .i64 least, .int .i64 most, .int .u16 w]) (fn_7) rfl 1000 (by simp only [BdL, Bd, and_self, and_true, true_and]; exact fun i j hi hj => by rw [i_z i j hi hj]; trivial) ⟨SameD.int i_z, SameD.rfl' _, SameD.rfl' _, SameD.rfl' _, SameD.rfl' _, SameD.rfl' _, SameD.rfl' _, trivial⟩ ?_
  generalize (fun i j => iv (f_z i j)) = z
  simp only [rowF_eq]
  simp only [alive_eq, rink_eq, has_eq, p7_14, water_at, spanT, Try.f7, go_sem, ↓reduceIte, Nat.reduceAdd, Nat.reduceSub, Nat.reduceMul, Nat.reduceEqDiff, Nat.reduceLT, Nat.reduceLeDiff, Int.reduceToNat, Int.reduceLE, Int.reduceLT, Int.reduceEq, Int.reduceNeg, reduceCtorEq]
  have hw0 := wf_u16 wf_w
  have hww : IntKind.i64.wrap w = w := wrap_id (by omega) (by omega)
  have hwt : w.tmod 20001 = ((w.toNat % 20001 : Nat) : Int) := by
    rw [Int.tmod_eq_emod_of_nonneg (by omega)]; omega
  simp only [hww, hwt]
  have hlt : w.toNat % 20001 < 20001 := Nat.mod_lt _ (by omega)
  generalize w.toNat % 20001 = u at *
  have hcs := waterV_cases n z wl wh pl ph passes least most
  generalize waterV n z wl wh pl ph passes least most = V at *
  refine ⟨fun _ => True.intro, fun c1 => ⟨fun c2 => ⟨fun _ => True.intro, fun c3 => ?_⟩, fun c2 => ?_⟩⟩
  all_goals
    rcases hcs with ⟨e, rfl, he0, he4⟩ | ⟨hr, hw, hp, hq, hcs⟩
    · refine ⟨fun d1 => ⟨fun d2 => ⟨fun _ => True.intro, fun d3 => by simp at d3⟩, fun d2 => by simp at d2; omega⟩, fun d1 => by simp at d1; omega⟩
  · simp at c2 c3; omega
  rcases hcs with ⟨rfl, hk⟩ | ⟨lo, hi, rfl, hlh, hh, hk⟩
  · refine ⟨fun d1 => ⟨fun d2 => by simp at d2, fun d2 => ⟨fun d3 => by simp [hr] at d3, fun d3 => ⟨fun d4 => by simp at d4; omega, fun d4 => ⟨by omega, fun d5 => ⟨fun d6 => ?_, fun d6 => by simp at d6⟩, fun d5 => by simp at d5⟩⟩⟩⟩, fun d1 => by simp at d1⟩
    unfold callS
    refine calls_mono ?_ (keepsP n z wl wh pl ph passes least most u 0 0 hr hw hp hq (by omega))
    rintro o h' ⟨rfl, rfl⟩
    rw [hk u hlt]
    simp only [alive_eq, rink_eq, has_eq, p7_14, water_at, spanT, Try.f7, go_sem, ↓reduceIte, Nat.reduceAdd, Nat.reduceSub, Nat.reduceMul, Nat.reduceEqDiff, Nat.reduceLT, Nat.reduceLeDiff, Int.reduceToNat, Int.reduceLE, Int.reduceLT, Int.reduceEq, Int.reduceNeg, reduceCtorEq]
  · have kt : ∀ a : Nat, lo ≤ a → a ≤ hi → keepB n passes.toNat z wl wh pl ph least most (a : Int) = true := fun a h1 h2 => (hk a (by omega)).2 ⟨h1, h2⟩
    have kf : ∀ a : Nat, a < 20001 → (a < lo ∨ hi < a) → keepB n passes.toNat z wl wh pl ph least most (a : Int) = false := fun a h0 h1 => by
      cases hc : keepB n passes.toNat z wl wh pl ph least most (a : Int) with
      | false => rfl
      | true => have := (hk a h0).1 hc; omega
    simp only [decide_true, Bool.not_true]
    refine ⟨fun d1 => (by cases d1), fun _ => ⟨fun d3 => by simp [hr] at d3, fun d3 => ⟨fun d4 => by simp at d4; omega, fun d4 => ⟨by omega, fun d5 => (by cases d5), fun d5 => ?_⟩⟩⟩⟩
    refine ⟨fun e1 => by simp at e1; omega, fun _ => ⟨fun e2 => by simp at e2; omega, fun _ => ⟨fun e3 => by simp at e3; omega, fun _ => ?_⟩⟩⟩
    unfold callS
    refine calls_mono ?_ (keepsP n z wl wh pl ph passes least most lo lo hi hr hw hp hq (by omega))
    rintro o h' ⟨rfl, rfl⟩
    rw [kt lo (by omega) (by omega)]
    simp only [alive_eq, rink_eq, has_eq, p7_14, water_at, spanT, Try.f7, go_sem, ↓reduceIte, Nat.reduceAdd, Nat.reduceSub, Nat.reduceMul, Nat.reduceEqDiff, Nat.reduceLT, Nat.reduceLeDiff, Int.reduceToNat, Int.reduceLE, Int.reduceLT, Int.reduceEq, Int.reduceNeg, reduceCtorEq]
    unfold callS
    refine calls_mono ?_ (keepsP n z wl wh pl ph passes least most hi lo hi hr hw hp hq (by omega))
    rintro o h' ⟨rfl, rfl⟩
    rw [kt hi (by omega) (by omega)]
    simp only [alive_eq, rink_eq, has_eq, p7_14, water_at, spanT, Try.f7, go_sem, ↓reduceIte, Nat.reduceAdd, Nat.reduceSub, Nat.reduceMul, Nat.reduceEqDiff, Nat.reduceLT, Nat.reduceLeDiff, Int.reduceToNat, Int.reduceLE, Int.reduceLT, Int.reduceEq, Int.reduceNeg, reduceCtorEq]
    have hlo : (0 : Int) < (lo : Int) → IntKind.i64.wrap ((lo : Int) - 1) = ((lo - 1 : Nat) : Int) := fun _ => by rw [wrap_id (by omega) (by omega)]; omega
    have hhi : IntKind.i64.wrap ((hi : Int) + 1) = ((hi + 1 : Nat) : Int) := by rw [wrap_id (by omega) (by omega)]; omega
    have hku : keepB n passes.toNat z wl wh pl ph least most (u : Int) = in3 (u : Int) (lo : Int) (hi : Int) := by
      rw [Bool.eq_iff_iff, hk u hlt, in3_iff]; omega
    refine ⟨fun e4 => ?_, fun e4 => ?_⟩
    · simp only [decide_eq_true_eq] at e4
      rw [hlo e4]
      unfold callS
      refine calls_mono ?_ (keepsP n z wl wh pl ph passes least most (lo - 1 : Nat) lo hi hr hw hp hq (by omega))
      rintro o h' ⟨rfl, rfl⟩
      rw [kf (lo - 1) (by omega) (by omega)]
      simp only [alive_eq, rink_eq, has_eq, p7_14, water_at, spanT, Try.f7, go_sem, ↓reduceIte, Nat.reduceAdd, Nat.reduceSub, Nat.reduceMul, Nat.reduceEqDiff, Nat.reduceLT, Nat.reduceLeDiff, Int.reduceToNat, Int.reduceLE, Int.reduceLT, Int.reduceEq, Int.reduceNeg, reduceCtorEq]
      refine ⟨fun e5 => ?_, fun e5 => ?_⟩
      · simp only [decide_eq_true_eq] at e5
        rw [hhi]
        unfold callS
        refine calls_mono ?_ (keepsP n z wl wh pl ph passes least most (hi + 1 : Nat) lo hi hr hw hp hq (by omega))
        rintro o h' ⟨rfl, rfl⟩
        rw [kf (hi + 1) (by omega) (by omega)]
        simp only [alive_eq, rink_eq, has_eq, p7_14, water_at, spanT, Try.f7, go_sem, ↓reduceIte, Nat.reduceAdd, Nat.reduceSub, Nat.reduceMul, Nat.reduceEqDiff, Nat.reduceLT, Nat.reduceLeDiff, Int.reduceToNat, Int.reduceLE, Int.reduceLT, Int.reduceEq, Int.reduceNeg, reduceCtorEq]
        refine ⟨⟨by kernel_rfl, by kernel_rfl⟩, calls_mono ?_ (keepsP n z wl wh pl ph passes least most u lo hi hr hw hp hq (by omega))⟩
        rintro o h' ⟨rfl, rfl⟩
        rw [hku]
        simp only [alive_eq, rink_eq, has_eq, p7_14, water_at, spanT, Try.f7, go_sem, ↓reduceIte, Nat.reduceAdd, Nat.reduceSub, Nat.reduceMul, Nat.reduceEqDiff, Nat.reduceLT, Nat.reduceLeDiff, Int.reduceToNat, Int.reduceLE, Int.reduceLT, Int.reduceEq, Int.reduceNeg, reduceCtorEq]
        exact spl_t (by simp) True.intro
      · refine ⟨⟨by kernel_rfl, by kernel_rfl⟩, calls_mono ?_ (keepsP n z wl wh pl ph passes least most u lo hi hr hw hp hq (by omega))⟩
        rintro o h' ⟨rfl, rfl⟩
        rw [hku]
        simp only [alive_eq, rink_eq, has_eq, p7_14, water_at, spanT, Try.f7, go_sem, ↓reduceIte, Nat.reduceAdd, Nat.reduceSub, Nat.reduceMul, Nat.reduceEqDiff, Nat.reduceLT, Nat.reduceLeDiff, Int.reduceToNat, Int.reduceLE, Int.reduceLT, Int.reduceEq, Int.reduceNeg, reduceCtorEq]
        exact spl_t (by simp) True.intro
    · refine ⟨fun e5 => ?_, fun e5 => ?_⟩
      · simp only [decide_eq_true_eq] at e5
        rw [hhi]
        unfold callS
        refine calls_mono ?_ (keepsP n z wl wh pl ph passes least most (hi + 1 : Nat) lo hi hr hw hp hq (by omega))
        rintro o h' ⟨rfl, rfl⟩
        rw [kf (hi + 1) (by omega) (by omega)]
        simp only [alive_eq, rink_eq, has_eq, p7_14, water_at, spanT, Try.f7, go_sem, ↓reduceIte, Nat.reduceAdd, Nat.reduceSub, Nat.reduceMul, Nat.reduceEqDiff, Nat.reduceLT, Nat.reduceLeDiff, Int.reduceToNat, Int.reduceLE, Int.reduceLT, Int.reduceEq, Int.reduceNeg, reduceCtorEq]
        refine ⟨⟨by kernel_rfl, by kernel_rfl⟩, calls_mono ?_ (keepsP n z wl wh pl ph passes least most u lo hi hr hw hp hq (by omega))⟩
        rintro o h' ⟨rfl, rfl⟩
        rw [hku]
        simp only [alive_eq, rink_eq, has_eq, p7_14, water_at, spanT, Try.f7, go_sem, ↓reduceIte, Nat.reduceAdd, Nat.reduceSub, Nat.reduceMul, Nat.reduceEqDiff, Nat.reduceLT, Nat.reduceLeDiff, Int.reduceToNat, Int.reduceLE, Int.reduceLT, Int.reduceEq, Int.reduceNeg, reduceCtorEq]
        exact spl_t (by simp) True.intro
      · refine ⟨⟨by kernel_rfl, by kernel_rfl⟩, calls_mono ?_ (keepsP n z wl wh pl ph passes least most u lo hi hr hw hp hq (by omega))⟩
        rintro o h' ⟨rfl, rfl⟩
        rw [hku]
        simp only [alive_eq, rink_eq, has_eq, p7_14, water_at, spanT, Try.f7, go_sem, ↓reduceIte, Nat.reduceAdd, Nat.reduceSub, Nat.reduceMul, Nat.reduceEqDiff, Nat.reduceLT, Nat.reduceLeDiff, Int.reduceToNat, Int.reduceLE, Int.reduceLT, Int.reduceEq, Int.reduceNeg, reduceCtorEq]
        exact spl_t (by simp) True.intro
end Go.Eng
end

/-
  IceWater: for every input the law returns true, and each argument reads afterwards as it read before. No condition.
-/
section
namespace Go.Proofs.Ytmpcdcphgepeiaa.iceWater
open Go.ChangeShapes Go.WideShapes Go.ChangeAt Go.RowKit Go.Eng
set_option linter.unusedVariables false
theorem own : ownKnob Try.prog.godebug = none := by kernel_rfl
theorem laid : laidOutB Try.prog = true := by kernel_rfl
set_option maxRecDepth 100000 in
theorem lifted (os : Os) (started : os.Started) (H : Type) (enc : TypeId × Value → H) :
    ReturnsInHanded {} Try.checked os 7 .any (Rows.iceWaterSpec.pre6 enc Try.prog Try.f7 Rows.iceWaterRow.domain false) (Rows.iceWaterSpec.post enc Try.prog Try.f7 false true false false) := by
  refine returnsInHanded_of_change (C := Try.checked) own started (by kernel_rfl) Try.func7
    (ChangeSpec.witness6 (enc := enc) (C := Try.checked) false ⟨#[], #[.slice none 0 0, .agg #[.int .i64 0, .int .i64 0], .agg #[.int .i64 0, .int .i64 0], .int .i64 0, .int .i64 0, .int .i64 0, .int .u16 0], []⟩ 8 (by kernel_rfl) (by kernel_rfl) (by kernel_rfl) (by kernel_rfl)) ?_
  intro W base args ds gs before hval0 hW hcnd _
  have hval : ∀ (j : Nat) t v, Try.f7.params[j]? = some t → args[j]? = some v → Value.okWide Try.prog W .any base t v := hval0
  have hW' := hW
  obtain ⟨p, q, hA0, hV, rfl, hfz, hnd⟩ := hW
  have hA : DataW.TrodAll enc Try.prog W 0 (fun _ => true) true Try.f7.params.toList args.toList ds p := hA0
  rw [Try.params7] at hA hval
  obtain ⟨v0, vs0, d0, ds0, p0, q0, hargs, rfl, rfl, h0, r0⟩ := trodAll_cons hA
  obtain ⟨v1, vs1, d1, ds1, p1, q1, rfl, rfl, rfl, h1, r1⟩ := trodAll_cons r0
  obtain ⟨v2, vs2, d2, ds2, p2, q2, rfl, rfl, rfl, h2, r2⟩ := trodAll_cons r1
  obtain ⟨v3, vs3, d3, ds3, p3, q3, rfl, rfl, rfl, h3, r3⟩ := trodAll_cons r2
  obtain ⟨v4, vs4, d4, ds4, p4, q4, rfl, rfl, rfl, h4, r4⟩ := trodAll_cons r3
  obtain ⟨v5, vs5, d5, ds5, p5, q5, rfl, rfl, rfl, h5, r5⟩ := trodAll_cons r4
  obtain ⟨v6, vs6, d6, ds6, p6, q6, rfl, rfl, rfl, h6, r6⟩ := trodAll_cons r5
  obtain ⟨rfl, rfl, rfl⟩ := trodAll_nil r6
  obtain rfl : args = #[v0, v1, v2, v3, v4, v5, v6] := by cases args; simp_all
  obtain ⟨rfl, rfl⟩ := trodVars_none hV
  obtain ⟨n0, f0, e0, m0, t0⟩ := arg_row (s := [.int .i64, .int .i64, .int .i64, .int .i64]) Try.underlying22 (by kernel_rfl) (hval 0 22 v0 rfl rfl) h0
  obtain ⟨i0, b0⟩ := intK_of_typ (k := .i64) (c := 4) rfl t0
  obtain ⟨xs1, e1, l1, t1⟩ := arg_agg (shs := [.int .i64, .int .i64]) Try.underlying24 (by kernel_rfl) (hval 1 24 v1 rfl rfl) h1
  obtain ⟨x1, y1, rfl, w1, u1⟩ := agg_2 l1 t1
  obtain ⟨xs2, e2, l2, t2⟩ := arg_agg (shs := [.int .i64, .int .i64]) Try.underlying24 (by kernel_rfl) (hval 2 24 v2 rfl rfl) h2
  obtain ⟨x2, y2, rfl, w2, u2⟩ := agg_2 l2 t2
  obtain ⟨x3, rfl, rfl, rfl, w3⟩ := open_int Try.underlying3 (hval 3 3 v3 rfl rfl) h3
  obtain ⟨x4, rfl, rfl, rfl, w4⟩ := open_int Try.underlying3 (hval 4 3 v4 rfl rfl) h4
  obtain ⟨x5, rfl, rfl, rfl, w5⟩ := open_int Try.underlying3 (hval 5 3 v5 rfl rfl) h5
  obtain ⟨x6, rfl, rfl, rfl, w6⟩ := open_int Try.underlying57 (hval 6 57 v6 rfl rfl) h6
  have hd : DenL Env.emp W [.row n0 4 f0, .agg [.int .i64 x1, .int .i64 y1], .agg [.int .i64 x2, .int .i64 y2], .int .i64 x3, .int .i64 x4, .int .i64 x5, .int .u16 x6] [v0, v1, v2, .int .i64 x3, .int .i64 x4, .int .i64 x5, .int .u16 x6] := ⟨e0, e1, e2, .int _ _, .int _ _, .int _ _, .int _ _, trivial⟩
  refine (law_calls iceWater_base (args := [.row n0 4 f0, .agg [.int .i64 x1, .int .i64 y1], .agg [.int .i64 x2, .int .i64 y2], .int .i64 x3, .int .i64 x4, .int .i64 x5, .int .u16 x6]) rfl ⟨⟨rfl, fun i j hi hj => i0 i j hi hj⟩, w6⟩ (denA_of hd)).mono fun e W' ⟨he, hb⟩ => ?_
  subst he
  exact ⟨_, rfl, law_end laid rfl Try.underlying4 (by kernel_rfl) rfl hW' rfl hb⟩
theorem over : Rows.iceWaterRow.holds Try.pinned (OpenSpec.ofChange Rows.iceWaterSpec) :=
  OpenClaim.holds_of_wide 7 Try.f7 rfl rfl rfl rfl rfl rfl rfl ⟨rfl, rfl, rfl, rfl, rfl⟩ rfl rfl rfl rfl rfl (by kernel_rfl) Try.func7 (by kernel_rfl)
    (of_decide_eq_true (by kernel_rfl)) (by unfold Func.isWrapper; first | (rw [if_pos (by decide +kernel)]; kernel_rfl) | (rw [if_neg (by decide +kernel)]; exact ⟨rfl, rfl⟩))
    (fun os started H enc _ => lifted os started H enc)
end Go.Proofs.Ytmpcdcphgepeiaa.iceWater
namespace Go.Proofs.Ytmpcdcphgepeiaa
/-- The given statement. -/
theorem iceWater_holds : Rows.IceWaterSaid := iceWater.over
#print axioms iceWater_holds
end Go.Proofs.Ytmpcdcphgepeiaa
end
