/-
  PressCold: for every input the law returns true, and each argument reads afterwards as it read before. No condition.
-/
import Derived.Test.YtdecicbgjkeefaaRows
import Derived.WalkKit
import Derived.Test.YtdecicbgjkeefaaP6
set_option linter.unusedSimpArgs false
set_option linter.unusedVariables false
/- press: cold is conserved, and how long each runs. No program in sight. -/
section
namespace Go.Eng
open Go Go.RowKit Go.Proofs
set_option maxRecDepth 100000
set_option maxHeartbeats 4000000
attribute [local irreducible] OwnT DefS
/-- What the first i compressors make. -/
def madeP (D : PD) (c : T3) : Nat → Int
  | 0 => 0
  | i + 1 => madeP D c i + (if c.get i = 0 then 0 else D.V i (c.get i - 1).toNat 1)
theorem made_bnd {D : PD} (hD : D.Ok) {c : T3} (hc : chOk D c) : ∀ i, i ≤ D.n → 0 ≤ madeP D c i ∧ madeP D c i ≤ 100 * i
  | 0, _ => by simp [madeP]
  | i + 1, hi => by
    have ih := made_bnd hD hc i (by omega)
    have h1 := hc i (by omega)
    simp only [madeP]
    split
    · omega
    · have := hD.cold i (c.get i - 1).toNat (by omega) (by omega)
      omega
theorem steps_made {D : PD} {on c : T3} {s : Int} : ∀ {i : Nat} {a : PA}, stepsP D on c s i = some a → a.sto = s + madeP D c i
  | 0, a, h => by cases h; simp [madeP]
  | i + 1, a, h => by
    simp only [stepsP] at h
    split at h
    · rename_i b hb
      have ih := steps_made hb
      unfold stepP at h
      split at h
      · rename_i hc
        split at h
        · cases h
          simp only [madeP, if_pos hc]
          omega
        · cases h
      · rename_i hc
        split at h
        · cases h
          simp only [madeP, if_neg hc]
          omega
        · cases h
    · cases h
theorem steps_on {D : PD} {on c : T3} {s : Int} : ∀ {i : Nat}, i ≤ 3 → ∀ {a : PA}, stepsP D on c s i = some a → ∀ j, j < i → a.on.get j = (if c.get j = 0 then 0 else on.get j + 1) ∧ (c.get j = 0 → on.get j = 0 ∨ D.A j 2 ≤ on.get j)
  | 0, _, _, _, j, hj => absurd hj (by omega)
  | i + 1, hi, a, h, j, hj => by
    simp only [stepsP] at h
    split at h
    · rename_i b hb
      have ih := steps_on (by omega) hb
      have hz := stepsP_zero (by omega) hb
      unfold stepP at h
      split at h
      · rename_i hc
        split at h
        · rename_i hl
          cases h
          rcases Nat.lt_or_ge j i with h1 | h1
          · exact ih j h1
          · obtain rfl : j = i := by omega
            rw [if_pos hc]
            exact ⟨hz j (Nat.le_refl _) (by omega), fun _ => hl⟩
        · cases h
      · rename_i hc
        split at h
        · cases h
          simp only []
          rw [T3.get_set _ _ _ _ (by omega) (by omega)]
          by_cases hji : j = i
          · subst hji
            rw [if_pos rfl, if_neg hc]
            exact ⟨rfl, fun h => absurd h hc⟩
          · rw [if_neg hji]; exact ih j (by omega)
        · cases h
    · cases h
theorem hour_made {D : PD} (hn : D.n ≤ 3) {s : PS} {hr : Nat} {c : T3} (he : (hourP D s hr c).e = 0) :
    (hourP D s hr c).s.sto = s.sto - D.nd hr 0 + madeP D c D.n ∧ (0 ≤ (hourP D s hr c).s.sto ∧ (hourP D s hr c).s.sto ≤ D.ro) ∧
    ∀ j, j < D.n → (hourP D s hr c).s.on.get j = (if c.get j = 0 then 0 else s.on.get j + 1) ∧ (c.get j = 0 → s.on.get j = 0 ∨ D.A j 2 ≤ s.on.get j) := by
  unfold hourP at he ⊢
  split at he
  · simp [badH] at he
  · rename_i a ha
    split at he
    · simp [badH] at he
    · split at he
      · simp [badH] at he
      · rename_i e1 e2
        simp only [if_neg e1, if_neg e2]
        exact ⟨steps_made ha, ⟨by omega, by omega⟩, fun j hj => steps_on hn ha j hj⟩
theorem plM_one {D : PD} {C : Nat → T3} {k : Nat} (h : (plM D C (k + 1)).e = 0) : (plM D C k).e = 0 ∧ (hourP D (plM D C k).s k (C k)).e = 0 ∧ (plM D C (k + 1)).s = (hourP D (plM D C k).s k (C k)).s := by
  simp only [plM, plStep] at h ⊢
  split at h
  · rename_i h0
    have hr := plM_hr k h0
    rw [hr] at h
    split at h
    · rename_i h1
      rw [if_pos h0, hr, if_pos h1]
      exact ⟨h0, h1, rfl⟩
    · rename_i h1; exact absurd h h1
  · rename_i h0; exact absurd h h0
theorem plM_pre {D : PD} {C : Nat → T3} : ∀ (m k : Nat), k ≤ m → (plM D C m).e = 0 → (plM D C k).e = 0
  | 0, k, hk, h => by obtain rfl : k = 0 := by omega
                      exact h
  | m + 1, k, hk, h => by
    rcases Nat.lt_or_ge m k with h1 | h1
    · obtain rfl : k = m + 1 := by omega
      exact h
    · exact plM_pre m k h1 (plM_one h).1
/-- For how many hours up to one something has been so. -/
def runB (f : Nat → Int) : Nat → Nat
  | 0 => 0
  | h + 1 => if f h = 0 then 0 else runB f h + 1
theorem runB_le (f : Nat → Int) : ∀ h, runB f h ≤ h
  | 0 => Nat.le_refl _
  | h + 1 => by have := runB_le f h; unfold runB; split <;> omega
theorem runB_lt (f : Nat → Int) : ∀ (H k : Nat), k ≤ runB f H → (k < runB f H ↔ k < H ∧ f (H - 1 - k) ≠ 0)
  | 0, k, h => by
    have : runB f 0 = 0 := rfl
    constructor
    · intro g; omega
    · intro g; omega
  | H + 1, k, h => by
    unfold runB at h ⊢
    by_cases h0 : f H = 0
    · rw [if_pos h0] at h ⊢
      obtain rfl : k = 0 := by omega
      constructor
      · intro g; omega
      · rintro ⟨_, g⟩; exact absurd h0 g
    · rw [if_neg h0] at h ⊢
      match k with
      | 0 => exact ⟨fun _ => ⟨by omega, h0⟩, fun _ => by omega⟩
      | k + 1 =>
        have ih := runB_lt f H k (by omega)
        have e : H + 1 - 1 - (k + 1) = H - 1 - k := by omega
        rw [e]
        constructor
        · intro g
          have := ih.1 (by omega)
          exact ⟨by omega, this.2⟩
        · rintro ⟨g1, g2⟩
          have := ih.2 ⟨by omega, g2⟩
          omega
/-- How long a compressor has run, with what it had run at first. -/
def onB (D : PD) (C : Nat → T3) (i k : Nat) : Int := (runB (fun j => (C j).get i) k : Int) + (if runB (fun j => (C j).get i) k = k then D.A i 4 else 0)
theorem plM_on {D : PD} (hn : D.n ≤ 3) {C : Nat → T3} {i : Nat} (hi : i < D.n) : ∀ k, (plM D C k).e = 0 → (plM D C k).s.on.get i = onB D C i k
  | 0, _ => by
    simp only [plM, begP, onB, runB]
    rw [onI_get _ hi (by omega)]
    simp
  | k + 1, h => by
    obtain ⟨h0, h1, h2⟩ := plM_one h
    have ih := plM_on hn hi k h0
    have h3 := (hour_made hn h1).2.2 i hi
    have hl := runB_le (fun j => (C j).get i) k
    rw [h2, h3.1, ih]
    by_cases hc : (C k).get i = 0
    · have hr : runB (fun j => (C j).get i) (k + 1) = 0 := by simp only [runB, if_pos hc]
      simp only [onB, hr, if_pos hc]
      rw [if_neg (by omega)]
      rfl
    · have hr : runB (fun j => (C j).get i) (k + 1) = runB (fun j => (C j).get i) k + 1 := by simp only [runB, if_neg hc]
      simp only [onB, hr, if_neg hc]
      by_cases hk : runB (fun j => (C j).get i) k = k
      · rw [if_pos hk, if_pos (by omega)]
        omega
      · rw [if_neg hk, if_neg (by omega)]
        omega
theorem plM_sto {D : PD} (hn : D.n ≤ 3) {C : Nat → T3} {k : Nat} (h : (plM D C (k + 1)).e = 0) :
    (plM D C (k + 1)).s.sto = (plM D C k).s.sto - D.nd k 0 + madeP D (C k) D.n ∧ 0 ≤ (plM D C (k + 1)).s.sto ∧ (plM D C (k + 1)).s.sto ≤ D.ro := by
  obtain ⟨h0, h1, h2⟩ := plM_one h
  rw [h2]
  exact ⟨(hour_made hn h1).1, (hour_made hn h1).2.1⟩
theorem plM_least {D : PD} (hD : D.Ok) {C : Nat → T3} {i : Nat} (hi : i < D.n) {k : Nat} (h : (plM D C (k + 1)).e = 0) (hc : (C k).get i = 0) (hr : 0 < runB (fun j => (C j).get i) k) :
    D.A i 2 ≤ onB D C i k := by
  obtain ⟨h0, h1, h2⟩ := plM_one h
  have hn := hD.n
  have h3 := ((hour_made (by omega) h1).2.2 i hi).2 hc
  rw [plM_on (by omega) hi k h0] at h3
  rcases h3 with h3 | h3
  · exfalso
    have := hD.on i hi
    unfold onB at h3
    split at h3 <;> omega
  · exact h3
end Go.Eng
end

/- press: cold is conserved: the law. -/
section
namespace Go.Eng
open Go Go.RowKit Go.Proofs
set_option maxRecDepth 100000
set_option maxHeartbeats 4000000
attribute [local irreducible] OwnT DefS
set_option maxHeartbeats 20000000
theorem splY {q : Bool} {A B : Prop} (h : q = true) (ha : A) : spl q A B := ⟨fun _ => ha, fun h' => (by rw [h] at h'; cases h')⟩
theorem splN {q : Bool} {A B : Prop} (h : q = false) (hb : B) : spl q A B := ⟨fun h' => (by rw [h] at h'; cases h'), fun _ => hb⟩
theorem plM_hrl {D : PD} {C : Nat → T3} : ∀ k, (plM D C k).hr ≤ k
  | 0 => Nat.le_refl _
  | k + 1 => by
    have ih := plM_hrl (D := D) (C := C) k
    simp only [plM, plStep]
    repeat' split
    all_goals first | omega | (dsimp only; omega)
theorem ckR_hrl (D : PD) (b : Bool) (m : Nat) (K : Nat → Nat) (W : Nat → Nat → Nat → Int) : (ckR D b m K W).hr ≤ m := by
  unfold ckR
  repeat' split
  · exact plM_hrl m
  · exact Nat.zero_le _
  · exact Nat.zero_le _
theorem ckR_ok {D : PD} {b : Bool} {m : Nat} {K : Nat → Nat} {W : Nat → Nat → Nat → Int} (h : (ckR D b m K W).e = 0) : b = true ∧ rdB D.n D.M m K W = true ∧ m = D.h ∧ (plM D (fun i => chT D.n (W i)) m).e = 0 := by
  unfold ckR at h
  split at h
  · rename_i hb
    split at h
    · rename_i hr
      simp only [Bool.and_eq_true, decide_eq_true_eq] at hr
      exact ⟨hb, hr.1, by omega, h⟩
    · simp [plBad] at h
  · simp [plBad] at h
def pressColdBase : BaseF := fun args => match args with
  | [.agg [.row n sz_A f_A, .row h sz_nd f_nd, .row q sz_pr f_pr, .int .i64 st, .int .i64 ro, .int .i64 pk, .int .i64 fr], .row m sz_B f_B] => some ((sz_A = 5 ∧ NestR n 5 0 2 f_A) ∧ (sz_nd = 1 ∧ IntR h 1 f_nd) ∧ (sz_pr = 1 ∧ IntR q 1 f_pr) ∧ (sz_B = 1 ∧ NestR m 1 0 1 f_B), .bool true)
  | _ => none
theorem pressCold_eq (n : Nat) (sz_A : Nat) (f_A : Nat → Nat → SV) (h : Nat) (sz_nd : Nat) (f_nd : Nat → Nat → SV) (q : Nat) (sz_pr : Nat) (f_pr : Nat → Nat → SV) (st : Int) (ro : Int) (pk : Int) (fr : Int) (m : Nat) (sz_B : Nat) (f_B : Nat → Nat → SV) : pressColdBase [.agg [.row n sz_A f_A, .row h sz_nd f_nd, .row q sz_pr f_pr, .int .i64 st, .int .i64 ro, .int .i64 pk, .int .i64 fr], .row m sz_B f_B] = some ((sz_A = 5 ∧ NestR n 5 0 2 f_A) ∧ (sz_nd = 1 ∧ IntR h 1 f_nd) ∧ (sz_pr = 1 ∧ IntR q 1 f_pr) ∧ (sz_B = 1 ∧ NestR m 1 0 1 f_B), .bool true) := rfl
theorem pressCold_base : Base Try.prog 8 pressColdBase := by
  intro args p v hq hp
  unfold pressColdBase at hq
  split at hq
  rotate_left
  · cases hq
  rename_i n sz_A f_A h sz_nd f_nd q sz_pr f_pr st ro pk fr m sz_B f_B
  cases hq
  obtain ⟨⟨rfl, i_A⟩, ⟨rfl, i_nd⟩, ⟨rfl, i_pr⟩, ⟨rfl, i_B⟩⟩ := hp
  refine base_of (C := cxn [] [(24, behindBase)] [] [(11, greatBase), (13, aliveBase), (19, checkBase), (17, pressesBase), (21, formsBase)] [(8, 20, p8_20)] none) (cxn_ok ⟨behind_base, trivial⟩ trivial ⟨great_base, alive_base, check_base, presses_base, forms_base, trivial⟩) rfl (g := 8) (fn := Try.f8)
    (args' := [.agg [.row n 5 (nestF 0 2 (nsA f_A) (nsM 0 f_A) (nsV 0 f_A)), .row h 1 (rowF .i64 (ivf f_nd)), .row q 1 (rowF .i64 (ivf f_pr)), .int .i64 st, .int .i64 ro, .int .i64 pk, .int .i64 fr], .row m 1 (nestF 0 1 (nsA f_B) (nsM 0 f_B) (nsV 0 f_B))]) (fn_8) rfl 1000 (by
    simp only [BdL, Bd, and_self, and_true, true_and]
    exact ⟨⟨(fun i j hi hj => nest_bd i_A i j hi hj), (fun i j hi hj => by rw [i_nd i j hi hj]; trivial), (fun i j hi hj => by rw [i_pr i j hi hj]; trivial)⟩, (fun i j hi hj => nest_bd i_B i j hi hj)⟩) ⟨SameD.agg ⟨SameD.nest i_A, SameD.int i_nd, SameD.int i_pr, SameD.rfl' _, SameD.rfl' _, SameD.rfl' _, SameD.rfl' _, trivial⟩, SameD.nest i_B, trivial⟩ ?_
  generalize nsA f_A = A
  generalize nsM 0 f_A = M
  generalize nsV 0 f_A = V
  generalize ivf f_nd = nd
  generalize ivf f_pr = pr
  generalize nsA f_B = B
  generalize nsM 0 f_B = K
  generalize nsV 0 f_B = W
  simp only [rowF_eq]
  cases c0 : gr0 n M h q with
  | true => simp only [c0, alive_eq, check_eq, presses_eq, forms_eq, behind_eq, p8_20, oneN_lit, oneM_lit, oneC_lit, great_one, great1_eq, prC, ckR_ns, psB_ns, nestF_eq, nestR_lit, nsM_lit, nsV_lit, Try.f8, go_sem, ↓reduceIte, Nat.reduceAdd, Nat.reduceSub, Nat.reduceMul, Nat.reduceEqDiff, Nat.reduceLT, Nat.reduceLeDiff, Int.reduceToNat, Int.reduceLE, Int.reduceLT, Int.reduceEq, Int.reduceNeg, reduceCtorEq]
  | false =>
  cases c1 : gr1 m K with
  | true => simp only [c0, c1, alive_eq, check_eq, presses_eq, forms_eq, behind_eq, p8_20, oneN_lit, oneM_lit, oneC_lit, great_one, great1_eq, prC, ckR_ns, psB_ns, nestF_eq, nestR_lit, nsM_lit, nsV_lit, Try.f8, go_sem, ↓reduceIte, Nat.reduceAdd, Nat.reduceSub, Nat.reduceMul, Nat.reduceEqDiff, Nat.reduceLT, Nat.reduceLeDiff, Int.reduceToNat, Int.reduceLE, Int.reduceLT, Int.reduceEq, Int.reduceNeg, reduceCtorEq]
  | false =>
  obtain ⟨h1, h2, h3, h4⟩ := gr0_false c0
  obtain ⟨g1, g2⟩ := gr1_false c1
  have pp : ((n ≤ 1000000 ∧ ∀ i, i < n → M i ≤ 1000000) ∧ h ≤ 1000000 ∧ q ≤ 1000000) ∧ m ≤ 1000000 ∧ ∀ i, i < m → K i ≤ 1000000 := ⟨⟨⟨by omega, fun i hi => by have := h2 i hi; omega⟩, by omega, by omega⟩, by omega, fun i hi => by have := g2 i hi; omega⟩
  have hl := ckR_hrl ⟨n, A, M, V, h, nd, pr, st, ro, pk, fr⟩ (psB n A M V h nd q pr st ro pk fr) m K W
  by_cases he : (ckR ⟨n, A, M, V, h, nd, pr, st, ro, pk, fr⟩ (psB n A M V h nd q pr st ro pk fr) m K W).e = 0
  rotate_left
  · have k1 : decide ((ckR ⟨n, A, M, V, h, nd, pr, st, ro, pk, fr⟩ (psB n A M V h nd q pr st ro pk fr) m K W).e = 0) = false := decide_eq_false he
    simp only [c0, c1, k1, alive_eq, check_eq, presses_eq, forms_eq, behind_eq, p8_20, oneN_lit, oneM_lit, oneC_lit, great_one, great1_eq, prC, ckR_ns, psB_ns, nestF_eq, nestR_lit, nsM_lit, nsV_lit, Try.f8, go_sem, ↓reduceIte, Nat.reduceAdd, Nat.reduceSub, Nat.reduceMul, Nat.reduceEqDiff, Nat.reduceLT, Nat.reduceLeDiff, Int.reduceToNat, Int.reduceLE, Int.reduceLT, Int.reduceEq, Int.reduceNeg, reduceCtorEq]
    exact ⟨⟨⟨⟨pp.1.1.1, pp.1.1.2⟩, pp.1.2.1, pp.1.2.2⟩, pp.2⟩, splY (decide_eq_true (by omega)) (splY (decide_eq_true (by omega)) trivial)⟩
  obtain ⟨e1, e2, e3, e4⟩ := ckR_ok he
  obtain ⟨rfl, hOk⟩ := psB_iff.1 e1
  simp only at e2 e3 e4
  subst e3
  have hF : formsB n M m K W = true := e2
  have he' := he
  rw [e1] at he'
  have k1 : decide ((ckR ⟨n, A, M, V, m, nd, pr, st, ro, pk, fr⟩ true m K W).e = 0) = true := decide_eq_true he'
  simp only [c0, c1, k1, e1, hF, alive_eq, check_eq, presses_eq, forms_eq, behind_eq, p8_20, oneN_lit, oneM_lit, oneC_lit, great_one, great1_eq, prC, ckR_ns, psB_ns, nestF_eq, nestR_lit, nsM_lit, nsV_lit, Try.f8, go_sem, ↓reduceIte, Nat.reduceAdd, Nat.reduceSub, Nat.reduceMul, Nat.reduceEqDiff, Nat.reduceLT, Nat.reduceLeDiff, Int.reduceToNat, Int.reduceLE, Int.reduceLT, Int.reduceEq, Int.reduceNeg, reduceCtorEq]
  refine ⟨⟨⟨pp.1.1, pp.1.2.1⟩, pp.2⟩, ⟨pp.1.1, pp.1.2.1⟩, pp.2, ?_⟩
  have hn := hOk.n
  have hm := hOk.h
  simp only at hn hm
  have hch : ∀ i, i < m → chOk ⟨n, A, M, V, m, nd, pr, st, ro, pk, fr⟩ (chT n (W i)) := fun i hi => chT_ok hOk e2 hi
  have hpl : ∀ k, k ≤ m → (plM ⟨n, A, M, V, m, nd, pr, st, ro, pk, fr⟩ (fun i => chT n (W i)) k).e = 0 := fun k hk => plM_pre m k hk e4
  refine loop_ofH { x : Nat // x ≤ m } (fun x => [(66, .int .i64 (x.1 : Int)), (8, .int .i64 ((plM (⟨n, A, M, V, m, nd, pr, st, ro, pk, fr⟩ : PD) (fun i => chT n (W i)) x.1).s.sto)), (65, .int .i64 (m : Int)), (64, .row m 1 (nestF 0 1 B K W)), (2, .ptr 0 0), (1, .row m 1 (nestF 0 1 B K W))]) (fun h _ => ⟨[getB h.blks 0, .dead], [.dead]⟩) (fun x => m - x.1) (fun _ => ⟨rfl, rfl⟩) ⟨0, by omega⟩ (by simp only [plM, begP, getB]; (apply sub_of <;> simp only [go_sem, ↓reduceIte, Nat.reduceAdd, Nat.reduceSub, Nat.reduceMul, Nat.reduceEqDiff, Nat.reduceLT, Nat.reduceLeDiff, Int.reduceToNat, Int.reduceLE, Int.reduceLT, Int.reduceEq, Int.reduceNeg, reduceCtorEq] <;> (try simp [catF]) <;> (try exact fun j _ => Bd_nth (by simp [BdL, Bd]) j) <;> (try exact bd_setL (by simp [bdAs, BdL, Bd])) <;> (try exact nestF_bd _ _ _ _ _ _ _ _ _)); all_goals first | rfl | (intros; exact nestF_bd1 _ _ _ _ _ _ _ _ _) | (refine ⟨?_, ?_⟩ <;> intros <;> exact nestF_bd1 _ _ _ _ _ _ _ _ _)) ?_
  rintro ⟨x, hx⟩
  have wx : IntKind.i64.wrap ((x : Int) + 1) = ((x + 1 : Nat) : Int) := by rw [wrap_id (by omega) (by omega)]; omega
  rcases Nat.lt_or_ge x m with hxm | hxm
  rotate_left
  · have d1 : decide ((x : Int) < (m : Int)) = false := decide_eq_false (by omega)
    simp only [d1, alive_eq, check_eq, presses_eq, forms_eq, behind_eq, p8_20, oneN_lit, oneM_lit, oneC_lit, great_one, great1_eq, prC, ckR_ns, psB_ns, nestF_eq, nestR_lit, nsM_lit, nsV_lit, Try.f8, go_sem, ↓reduceIte, Nat.reduceAdd, Nat.reduceSub, Nat.reduceMul, Nat.reduceEqDiff, Nat.reduceLT, Nat.reduceLeDiff, Int.reduceToNat, Int.reduceLE, Int.reduceLT, Int.reduceEq, Int.reduceNeg, reduceCtorEq]
  have d1 : decide ((x : Int) < (m : Int)) = true := decide_eq_true (by omega)
  obtain ⟨hK, hW⟩ := rdB_ok e2 hxm
  simp only [d1, wx, hK, Int.toNat_natCast, alive_eq, check_eq, presses_eq, forms_eq, behind_eq, p8_20, oneN_lit, oneM_lit, oneC_lit, great_one, great1_eq, prC, ckR_ns, psB_ns, nestF_eq, nestR_lit, nsM_lit, nsV_lit, Try.f8, go_sem, ↓reduceIte, Nat.reduceAdd, Nat.reduceSub, Nat.reduceMul, Nat.reduceEqDiff, Nat.reduceLT, Nat.reduceLeDiff, Int.reduceToNat, Int.reduceLE, Int.reduceLT, Int.reduceEq, Int.reduceNeg, reduceCtorEq]
  refine ⟨by omega, ?_⟩
  refine loop_ofH { i : Nat // i ≤ n } (fun i => [(73, .int .i64 (i.1 : Int)), (72, .int .i64 (n : Int)), (71, .row n 1 fun a b => .int .i64 (W x a b)), (11, .int .i64 (madeP (⟨n, A, M, V, m, nd, pr, st, ro, pk, fr⟩ : PD) (chT n (W x)) i.1)), (10, .row n 1 fun a b => .int .i64 (W x a b)), (9, .int .i64 (x : Int)), (66, .int .i64 (x : Int)), (8, .int .i64 ((plM (⟨n, A, M, V, m, nd, pr, st, ro, pk, fr⟩ : PD) (fun i => chT n (W i)) x).s.sto)), (65, .int .i64 (m : Int)), (64, .row m 1 (nestF 0 1 B K W)), (2, .ptr 0 0), (1, .row m 1 (nestF 0 1 B K W))]) (fun h _ => h) (fun i => n - i.1) (fun _ => ⟨rfl, rfl⟩) ⟨0, by omega⟩ (by simp only [madeP]; (apply sub_of <;> simp only [go_sem, ↓reduceIte, Nat.reduceAdd, Nat.reduceSub, Nat.reduceMul, Nat.reduceEqDiff, Nat.reduceLT, Nat.reduceLeDiff, Int.reduceToNat, Int.reduceLE, Int.reduceLT, Int.reduceEq, Int.reduceNeg, reduceCtorEq] <;> (try simp [catF]) <;> (try exact fun j _ => Bd_nth (by simp [BdL, Bd]) j) <;> (try exact bd_setL (by simp [bdAs, BdL, Bd])) <;> (try exact nestF_bd _ _ _ _ _ _ _ _ _)); all_goals first | rfl | (intros; exact nestF_bd1 _ _ _ _ _ _ _ _ _) | (refine ⟨?_, ?_⟩ <;> intros <;> exact nestF_bd1 _ _ _ _ _ _ _ _ _)) ?_
  rintro ⟨i, hi⟩
  have wi : IntKind.i64.wrap ((i : Int) + 1) = ((i + 1 : Nat) : Int) := by rw [wrap_id (by omega) (by omega)]; omega
  have hmb := made_bnd hOk (hch x hxm)
  rcases Nat.lt_or_ge i n with hin | hin
  · have d2 : decide ((i : Int) < (n : Int)) = true := decide_eq_true (by omega)
    have hWi := hW i hin
    have hg : (chT n (W x)).get i = W x i 0 := chT_get hin (by omega) _
    have hb1 := hmb i hi
    have hMi := hOk.M i hin
    simp only at hMi
    have fin : ∀ v, madeP (⟨n, A, M, V, m, nd, pr, st, ro, pk, fr⟩ : PD) (chT n (W x)) (i + 1) = v → ∃ i' : { i : Nat // i ≤ n }, i'.1 = i + 1 ∧ madeP (⟨n, A, M, V, m, nd, pr, st, ro, pk, fr⟩ : PD) (chT n (W x)) i'.1 = v := fun v h => ⟨⟨i + 1, by omega⟩, rfl, h⟩
    rcases Int.lt_or_le 0 (W x i 0) with hp | hp
    · have d3 : decide (0 < W x i 0) = true := decide_eq_true hp
      have hc := hOk.cold i (W x i 0 - 1).toNat hin (by simp only []; omega)
      simp only at hc
      have w1 : IntKind.i64.wrap (W x i 0 - 1) = W x i 0 - 1 := wrap_id (by omega) (by omega)
      have e5 : madeP (⟨n, A, M, V, m, nd, pr, st, ro, pk, fr⟩ : PD) (chT n (W x)) (i + 1) = madeP (⟨n, A, M, V, m, nd, pr, st, ro, pk, fr⟩ : PD) (chT n (W x)) i + V i (W x i 0 - 1).toNat 1 := by simp only [madeP, hg]; rw [if_neg (by omega)]
      have w2 : IntKind.i64.wrap (madeP (⟨n, A, M, V, m, nd, pr, st, ro, pk, fr⟩ : PD) (chT n (W x)) i + V i (W x i 0 - 1).toNat 1) = madeP (⟨n, A, M, V, m, nd, pr, st, ro, pk, fr⟩ : PD) (chT n (W x)) (i + 1) := by rw [e5]; exact wrap_id (by omega) (by omega)
      simp only [d2, d3, wi, w1, w2, Int.toNat_natCast, alive_eq, check_eq, presses_eq, forms_eq, behind_eq, p8_20, oneN_lit, oneM_lit, oneC_lit, great_one, great1_eq, prC, ckR_ns, psB_ns, nestF_eq, nestR_lit, nsM_lit, nsV_lit, Try.f8, go_sem, ↓reduceIte, Nat.reduceAdd, Nat.reduceSub, Nat.reduceMul, Nat.reduceEqDiff, Nat.reduceLT, Nat.reduceLeDiff, Int.reduceToNat, Int.reduceLE, Int.reduceLT, Int.reduceEq, Int.reduceNeg, reduceCtorEq]
      refine ⟨by omega, by omega, by omega, ⟨⟨i + 1, by omega⟩, by simp only []; omega, ?_⟩⟩
      apply sub_of <;> simp only [wi, go_sem, ↓reduceIte, Nat.reduceAdd, Nat.reduceSub, Nat.reduceMul, Nat.reduceEqDiff, Nat.reduceLT, Nat.reduceLeDiff, Int.reduceToNat, Int.reduceLE, Int.reduceLT, Int.reduceEq, Int.reduceNeg, reduceCtorEq] <;> (try simp) <;> (try exact fun j _ => Bd_nth (by simp [BdL, Bd]) j) <;> (try exact bd_setL (by simp [bdAs, BdL, Bd])) <;> (try exact nestF_bd _ _ _ _ _ _ _ _ _)
      all_goals first | rfl | (intros; exact nestF_bd1 _ _ _ _ _ _ _ _ _) | (refine ⟨?_, ?_⟩ <;> intros <;> exact nestF_bd1 _ _ _ _ _ _ _ _ _)
    · have d3 : decide (0 < W x i 0) = false := decide_eq_false (by omega)
      have e5 : madeP (⟨n, A, M, V, m, nd, pr, st, ro, pk, fr⟩ : PD) (chT n (W x)) (i + 1) = madeP (⟨n, A, M, V, m, nd, pr, st, ro, pk, fr⟩ : PD) (chT n (W x)) i := by simp only [madeP, hg]; rw [if_pos (by omega)]; omega
      simp only [d2, d3, wi, Int.toNat_natCast, alive_eq, check_eq, presses_eq, forms_eq, behind_eq, p8_20, oneN_lit, oneM_lit, oneC_lit, great_one, great1_eq, prC, ckR_ns, psB_ns, nestF_eq, nestR_lit, nsM_lit, nsV_lit, Try.f8, go_sem, ↓reduceIte, Nat.reduceAdd, Nat.reduceSub, Nat.reduceMul, Nat.reduceEqDiff, Nat.reduceLT, Nat.reduceLeDiff, Int.reduceToNat, Int.reduceLE, Int.reduceLT, Int.reduceEq, Int.reduceNeg, reduceCtorEq]
      refine ⟨by omega, ⟨⟨i + 1, by omega⟩, by simp only []; omega, ?_⟩⟩
      apply sub_of <;> simp only [wi, e5, go_sem, ↓reduceIte, Nat.reduceAdd, Nat.reduceSub, Nat.reduceMul, Nat.reduceEqDiff, Nat.reduceLT, Nat.reduceLeDiff, Int.reduceToNat, Int.reduceLE, Int.reduceLT, Int.reduceEq, Int.reduceNeg, reduceCtorEq] <;> (try simp) <;> (try exact fun j _ => Bd_nth (by simp [BdL, Bd]) j) <;> (try exact bd_setL (by simp [bdAs, BdL, Bd])) <;> (try exact nestF_bd _ _ _ _ _ _ _ _ _)
      all_goals first | rfl | (intros; exact nestF_bd1 _ _ _ _ _ _ _ _ _) | (refine ⟨?_, ?_⟩ <;> intros <;> exact nestF_bd1 _ _ _ _ _ _ _ _ _)
  obtain rfl : n = i := by omega
  have d2 : decide ((n : Int) < (n : Int)) = false := decide_eq_false (by omega)
  have d0 := hpl (x + 1) (by omega)
  have hmn := hmb n (Nat.le_refl _)
  have hnd := hOk.nd x hxm
  simp only at hnd
  obtain ⟨s1, s2, s3⟩ := plM_sto (D := (⟨n, A, M, V, m, nd, pr, st, ro, pk, fr⟩ : PD)) hn.2 d0
  simp only at s1 s2 s3
  have s4 := (plM_ok hOk (C := (fun i => chT n (W i))) x hx (fun i hi => hch i (by omega)) (hpl x hx)).1.2.1
  have hr2 : rdB n M (x + 1) K W = true := allU_iff.2 fun i hi => allU_iff.1 e2 i (by omega)
  have f1 : bhE ⟨n, nsA (nestF 0 2 A M V), M, V, m, nd, pr, st, ro, pk, fr⟩ true (x + 1) K W = 0 := by
    simp only [bhE, if_true]
    rw [if_pos ⟨by omega, hr2⟩, plM_ns]
    exact d0
  have f2 : bhX ⟨n, nsA (nestF 0 2 A M V), M, V, m, nd, pr, st, ro, pk, fr⟩ true (x + 1) K W = bhP ⟨n, nsA (nestF 0 2 A M V), M, V, m, nd, pr, st, ro, pk, fr⟩ (x + 1) (plM (⟨n, A, M, V, m, nd, pr, st, ro, pk, fr⟩ : PD) (fun i => chT n (W i)) (x + 1)).s := by
    rw [bhX, if_pos f1, plM_ns]
  have w3 : IntKind.i64.wrap (madeP (⟨n, A, M, V, m, nd, pr, st, ro, pk, fr⟩ : PD) (chT n (W x)) n - nd x 0) = madeP (⟨n, A, M, V, m, nd, pr, st, ro, pk, fr⟩ : PD) (chT n (W x)) n - nd x 0 := wrap_id (by omega) (by omega)
  have w4 : IntKind.i64.wrap ((plM (⟨n, A, M, V, m, nd, pr, st, ro, pk, fr⟩ : PD) (fun i => chT n (W i)) x).s.sto + (madeP (⟨n, A, M, V, m, nd, pr, st, ro, pk, fr⟩ : PD) (chT n (W x)) n - nd x 0)) = (plM (⟨n, A, M, V, m, nd, pr, st, ro, pk, fr⟩ : PD) (fun i => chT n (W i)) (x + 1)).s.sto := by
    rw [s1, wrap_id (by omega) (by omega)]; omega
  have w5 : IntKind.i64.wrap (IntKind.i64.wrap ((m : Int) - (x : Int)) - 1) = ((m - (x + 1) : Nat) : Int) := by
    rw [wrap_id (x := (m : Int) - (x : Int)) (by omega) (by omega), wrap_id (by omega) (by omega)]; omega
  have d3 : decide ((plM (⟨n, A, M, V, m, nd, pr, st, ro, pk, fr⟩ : PD) (fun i => chT n (W i)) (x + 1)).s.sto < 0) = false := decide_eq_false (by omega)
  have d4 : decide (ro < (plM (⟨n, A, M, V, m, nd, pr, st, ro, pk, fr⟩ : PD) (fun i => chT n (W i)) (x + 1)).s.sto) = false := decide_eq_false (by omega)
  simp only [d2, d3, d4, e1, f1, f2, wx, w3, w4, w5, bhP, Int.toNat_natCast, alive_eq, check_eq, presses_eq, forms_eq, behind_eq, p8_20, oneN_lit, oneM_lit, oneC_lit, great_one, great1_eq, prC, ckR_ns, psB_ns, nestF_eq, nestR_lit, nsM_lit, nsV_lit, Try.f8, go_sem, ↓reduceIte, Nat.reduceAdd, Nat.reduceSub, Nat.reduceMul, Nat.reduceEqDiff, Nat.reduceLT, Nat.reduceLeDiff, Int.reduceToNat, Int.reduceLE, Int.reduceLT, Int.reduceEq, Int.reduceNeg, reduceCtorEq]
  have pq : ∀ (i : Nat), i < x + 1 → K i ≤ 1000000 := fun i hi => pp.2.2 i (by omega)
  refine ⟨by omega, ⟨by kernel_rfl, by kernel_rfl⟩, by omega, ⟨⟨pp.1.1, pp.1.2.1⟩, by omega, pq⟩, ⟨by omega, ⟨pp.1.1, pp.1.2.1⟩, by omega, pq⟩, ?_⟩
  refine loop_ofH { i : Nat // i ≤ n } (fun i => [(154, .int .i64 (i.1 : Int)), (153, .int .i64 (n : Int)), (152, .row n 5 (nestF 0 2 (fun i j => if j = 4 then (plM (⟨n, A, M, V, m, nd, pr, st, ro, pk, fr⟩ : PD) (fun i => chT n (W i)) (x + 1)).s.on.get i else nsA (nestF 0 2 A M V) i j) M V)), (10, .row n 1 fun a b => .int .i64 (W x a b)), (9, .int .i64 (x : Int)), (66, .int .i64 (x : Int)), (8, .int .i64 ((plM (⟨n, A, M, V, m, nd, pr, st, ro, pk, fr⟩ : PD) (fun i => chT n (W i)) (x + 1)).s.sto)), (65, .int .i64 (m : Int)), (64, .row m 1 (nestF 0 1 B K W)), (2, .ptr 0 0), (1, .row m 1 (nestF 0 1 B K W))]) (fun h _ => ⟨[getB h.blks 0, .dead, .dead], [.dead, .dead, .dead, .dead]⟩) (fun i => n - i.1) (fun _ => ⟨rfl, rfl⟩) ⟨0, by omega⟩ (by simp only [getB]; (apply sub_of <;> simp only [go_sem, ↓reduceIte, Nat.reduceAdd, Nat.reduceSub, Nat.reduceMul, Nat.reduceEqDiff, Nat.reduceLT, Nat.reduceLeDiff, Int.reduceToNat, Int.reduceLE, Int.reduceLT, Int.reduceEq, Int.reduceNeg, reduceCtorEq] <;> (try simp [catF]) <;> (try exact fun j _ => Bd_nth (by simp [BdL, Bd]) j) <;> (try exact bd_setL (by simp [bdAs, BdL, Bd])) <;> (try exact nestF_bd _ _ _ _ _ _ _ _ _)); all_goals first | rfl | (intros; exact nestF_bd1 _ _ _ _ _ _ _ _ _) | (refine ⟨?_, ?_⟩ <;> intros <;> exact nestF_bd1 _ _ _ _ _ _ _ _ _)) ?_
  clear hmb w3 w4 w5 d3 d4 f1 f2 s1 s2 s3 s4 hmn hnd hin
  rintro ⟨i, hi⟩
  have wi : IntKind.i64.wrap ((i : Int) + 1) = ((i + 1 : Nat) : Int) := by rw [wrap_id (by omega) (by omega)]; omega
  rcases Nat.lt_or_ge i n with hin | hin
  rotate_left
  · have d3 : decide ((i : Int) < (n : Int)) = false := decide_eq_false (by omega)
    simp only [d3, wx, alive_eq, check_eq, presses_eq, forms_eq, behind_eq, p8_20, oneN_lit, oneM_lit, oneC_lit, great_one, great1_eq, prC, ckR_ns, psB_ns, nestF_eq, nestR_lit, nsM_lit, nsV_lit, Try.f8, go_sem, ↓reduceIte, Nat.reduceAdd, Nat.reduceSub, Nat.reduceMul, Nat.reduceEqDiff, Nat.reduceLT, Nat.reduceLeDiff, Int.reduceToNat, Int.reduceLE, Int.reduceLT, Int.reduceEq, Int.reduceNeg, reduceCtorEq]
    refine ⟨⟨x + 1, by omega⟩, by simp only []; omega, ?_⟩
    apply sub_of <;> simp only [wx, go_sem, ↓reduceIte, Nat.reduceAdd, Nat.reduceSub, Nat.reduceMul, Nat.reduceEqDiff, Nat.reduceLT, Nat.reduceLeDiff, Int.reduceToNat, Int.reduceLE, Int.reduceLT, Int.reduceEq, Int.reduceNeg, reduceCtorEq] <;> (try simp) <;> (try exact fun j _ => Bd_nth (by simp [BdL, Bd]) j) <;> (try exact bd_setL (by simp [bdAs, BdL, Bd])) <;> (try exact nestF_bd _ _ _ _ _ _ _ _ _)
    all_goals first | rfl | (intros; exact nestF_bd1 _ _ _ _ _ _ _ _ _) | (refine ⟨?_, ?_⟩ <;> intros <;> exact nestF_bd1 _ _ _ _ _ _ _ _ _)
  have d3 : decide ((i : Int) < (n : Int)) = true := decide_eq_true (by omega)
  have hon : (plM (⟨n, A, M, V, m, nd, pr, st, ro, pk, fr⟩ : PD) (fun i => chT n (W i)) (x + 1)).s.on.get i = onB (⟨n, A, M, V, m, nd, pr, st, ro, pk, fr⟩ : PD) (fun i => chT n (W i)) i (x + 1) := plM_on (D := (⟨n, A, M, V, m, nd, pr, st, ro, pk, fr⟩ : PD)) hn.2 hin (x + 1) d0
  have hoil : onB (⟨n, A, M, V, m, nd, pr, st, ro, pk, fr⟩ : PD) (fun i => chT n (W i)) i (x + 1) ≤ A i 3 := by rw [← hon]; exact (plM_oil hOk (x + 1) d0).1 i hin
  have hoilb := hOk.oil i hin
  have honb := hOk.on i hin
  simp only at hoilb honb
  have hF : ∀ j, (chT n (W j)).get i = W j i 0 := fun j => chT_get hin (by omega) _
  have hWj : ∀ j, j < m → K j = n ∧ 0 ≤ W j i 0 := fun j hj => ⟨(rdB_ok e2 hj).1, ((rdB_ok e2 hj).2 i hin).1⟩
  have hle := fun (hc : W x i 0 = 0) (hr : 0 < runB (fun j => (chT n (W j)).get i) x) => plM_least hOk (C := (fun i => chT n (W i))) hin (k := x) d0 ((hF x).trans hc) hr
  simp only at hle
  have hb1 : onB (⟨n, A, M, V, m, nd, pr, st, ro, pk, fr⟩ : PD) (fun i => chT n (W i)) i (x + 1) = (runB (fun j => (chT n (W j)).get i) (x + 1) : Int) + (if runB (fun j => (chT n (W j)).get i) (x + 1) = x + 1 then A i 4 else 0) := rfl
  have hb0 : onB (⟨n, A, M, V, m, nd, pr, st, ro, pk, fr⟩ : PD) (fun i => chT n (W i)) i x = (runB (fun j => (chT n (W j)).get i) x : Int) + (if runB (fun j => (chT n (W j)).get i) x = x then A i 4 else 0) := rfl
  have r1 := runB_lt (fun j => (chT n (W j)).get i) (x + 1)
  have r0 := runB_lt (fun j => (chT n (W j)).get i) x
  have q1 := runB_le (fun j => (chT n (W j)).get i) (x + 1)
  have q0 := runB_le (fun j => (chT n (W j)).get i) x
  have hpos : 0 < x → 0 < W (x - 1) i 0 → 0 < runB (fun j => (chT n (W j)).get i) x := fun h1 h2 => (r0 0 (Nat.zero_le _)).2 ⟨h1, fun h => by have e := (hF (x - 1 - 0)).symm.trans h; simp only [Nat.sub_zero] at e; omega⟩
  generalize onB (⟨n, A, M, V, m, nd, pr, st, ro, pk, fr⟩ : PD) (fun i => chT n (W i)) i (x + 1) = ON at hon hoil hb1
  generalize onB (⟨n, A, M, V, m, nd, pr, st, ro, pk, fr⟩ : PD) (fun i => chT n (W i)) i x = ON0 at hle hb0
  generalize runB (fun j => (chT n (W j)).get i) (x + 1) = R at r1 q1 hb1
  generalize runB (fun j => (chT n (W j)).get i) x = R0 at r0 q0 hb0 hle hpos
  simp only [hF] at r1 r0
  simp only [d3, wi, wx, hon, Int.toNat_natCast, alive_eq, check_eq, presses_eq, forms_eq, behind_eq, p8_20, oneN_lit, oneM_lit, oneC_lit, great_one, great1_eq, prC, ckR_ns, psB_ns, nestF_eq, nestR_lit, nsM_lit, nsV_lit, Try.f8, go_sem, ↓reduceIte, Nat.reduceAdd, Nat.reduceSub, Nat.reduceMul, Nat.reduceEqDiff, Nat.reduceLT, Nat.reduceLeDiff, Int.reduceToNat, Int.reduceLE, Int.reduceLT, Int.reduceEq, Int.reduceNeg, reduceCtorEq]
  refine ⟨by omega, ?_⟩
  refine loop_ofH { k : Nat // k ≤ R } (fun k => [(18, .int .i64 (k.1 : Int)), (17, .ptr 3 0), (16, .int .i64 (i : Int)), (154, .int .i64 (i : Int)), (153, .int .i64 (n : Int)), (152, .row n 5 (nestF 0 2 (fun i j => if j = 4 then (plM (⟨n, A, M, V, m, nd, pr, st, ro, pk, fr⟩ : PD) (fun i => chT n (W i)) (x + 1)).s.on.get i else nsA (nestF 0 2 A M V) i j) M V)), (10, .row n 1 fun a b => .int .i64 (W x a b)), (9, .int .i64 (x : Int)), (66, .int .i64 (x : Int)), (8, .int .i64 ((plM (⟨n, A, M, V, m, nd, pr, st, ro, pk, fr⟩ : PD) (fun i => chT n (W i)) (x + 1)).s.sto)), (65, .int .i64 (m : Int)), (64, .row m 1 (nestF 0 1 B K W)), (2, .ptr 0 0), (1, .row m 1 (nestF 0 1 B K W))]) (fun h _ => ⟨h.blks, [.dead, .dead, .dead, .dead, .dead]⟩) (fun k => R - k.1) (fun _ => ⟨rfl, rfl⟩) ⟨0, by omega⟩ (by (apply sub_of <;> simp only [go_sem, ↓reduceIte, Nat.reduceAdd, Nat.reduceSub, Nat.reduceMul, Nat.reduceEqDiff, Nat.reduceLT, Nat.reduceLeDiff, Int.reduceToNat, Int.reduceLE, Int.reduceLT, Int.reduceEq, Int.reduceNeg, reduceCtorEq] <;> (try simp [catF]) <;> (try exact fun j _ => Bd_nth (by simp [BdL, Bd]) j) <;> (try exact bd_setL (by simp [bdAs, BdL, Bd])) <;> (try exact nestF_bd _ _ _ _ _ _ _ _ _)); all_goals first | rfl | (intros; exact nestF_bd1 _ _ _ _ _ _ _ _ _) | (refine ⟨?_, ?_⟩ <;> intros <;> exact nestF_bd1 _ _ _ _ _ _ _ _ _)) ?_
  rintro ⟨k, hk⟩
  have wk : IntKind.i64.wrap ((k : Int) + 1) = ((k + 1 : Nat) : Int) := by rw [wrap_id (by omega) (by omega)]; omega
  rcases Nat.lt_or_ge k R with hkR | hkR
  · obtain ⟨u1, u2⟩ := (r1 k hk).1 hkR
    have e5 : x + 1 - 1 - k = x - k := by omega
    rw [e5] at u2
    obtain ⟨u3, u4⟩ := hWj (x - k) (by omega)
    have w1 : IntKind.i64.wrap ((x : Int) - (k : Int)) = ((x - k : Nat) : Int) := by rw [wrap_id (by omega) (by omega)]; omega
    have d4 : decide ((k : Int) ≤ (x : Int)) = true := decide_eq_true (by omega)
    have d5 : decide (0 < W (x - k) i 0) = true := decide_eq_true (by omega)
    simp only [d4, d5, w1, wk, u3, Int.toNat_natCast, alive_eq, check_eq, presses_eq, forms_eq, behind_eq, p8_20, oneN_lit, oneM_lit, oneC_lit, great_one, great1_eq, prC, ckR_ns, psB_ns, nestF_eq, nestR_lit, nsM_lit, nsV_lit, Try.f8, go_sem, ↓reduceIte, Nat.reduceAdd, Nat.reduceSub, Nat.reduceMul, Nat.reduceEqDiff, Nat.reduceLT, Nat.reduceLeDiff, Int.reduceToNat, Int.reduceLE, Int.reduceLT, Int.reduceEq, Int.reduceNeg, reduceCtorEq]
    repeat' apply And.intro
    all_goals first
      | omega
      | (refine ⟨⟨k + 1, by omega⟩, by simp only []; omega, ?_⟩
         apply sub_of <;> simp only [wk, go_sem, ↓reduceIte, Nat.reduceAdd, Nat.reduceSub, Nat.reduceMul, Nat.reduceEqDiff, Nat.reduceLT, Nat.reduceLeDiff, Int.reduceToNat, Int.reduceLE, Int.reduceLT, Int.reduceEq, Int.reduceNeg, reduceCtorEq] <;> (try simp) <;> (try exact fun j _ => Bd_nth (by simp [BdL, Bd]) j) <;> (try exact bd_setL (by simp [bdAs, BdL, Bd])) <;> (try exact nestF_bd _ _ _ _ _ _ _ _ _)
         all_goals first | rfl | (intros; exact nestF_bd1 _ _ _ _ _ _ _ _ _) | (refine ⟨?_, ?_⟩ <;> intros <;> exact nestF_bd1 _ _ _ _ _ _ _ _ _))
  obtain rfl : R = k := by omega
  have ex1 : R = x + 1 ∨ (R ≤ x ∧ W (x - R) i 0 = 0) := by
    rcases Nat.lt_or_ge x R with g | g
    · exact .inl (by omega)
    · refine .inr ⟨g, Decidable.byContradiction fun g2 => ?_⟩
      have := (r1 R (Nat.le_refl _)).2 ⟨by omega, by rw [show x + 1 - 1 - R = x - R by omega]; exact g2⟩
      omega
  rcases ex1 with g | ⟨g, g2⟩
  · rw [if_pos g] at hb1
    have d4 : decide ((R : Int) ≤ (x : Int)) = false := decide_eq_false (by omega)
    have d6 : decide ((R : Int) = ((x + 1 : Nat) : Int)) = true := decide_eq_true (by omega)
    have w2 : IntKind.i64.wrap ((R : Int) + A i 4) = ON := by rw [wrap_id (by omega) (by omega)]; omega
    have d8 : decide (A i 3 < ON) = false := decide_eq_false (by omega)
    rcases Nat.eq_zero_or_pos x with z0 | z0
    · have d9 : decide (0 < (x : Int)) = false := decide_eq_false (by omega)
      simp only [d4, d6, d8, w2, wx, d9, Int.toNat_natCast, alive_eq, check_eq, presses_eq, forms_eq, behind_eq, p8_20, oneN_lit, oneM_lit, oneC_lit, great_one, great1_eq, prC, ckR_ns, psB_ns, nestF_eq, nestR_lit, nsM_lit, nsV_lit, Try.f8, go_sem, ↓reduceIte, Nat.reduceAdd, Nat.reduceSub, Nat.reduceMul, Nat.reduceEqDiff, Nat.reduceLT, Nat.reduceLeDiff, Int.reduceToNat, Int.reduceLE, Int.reduceLT, Int.reduceEq, Int.reduceNeg, reduceCtorEq]
      repeat' apply And.intro
      all_goals first
        | omega
        | (refine ⟨⟨i + 1, by omega⟩, by simp only []; omega, ?_⟩
           apply sub_of <;> simp only [wi, go_sem, ↓reduceIte, Nat.reduceAdd, Nat.reduceSub, Nat.reduceMul, Nat.reduceEqDiff, Nat.reduceLT, Nat.reduceLeDiff, Int.reduceToNat, Int.reduceLE, Int.reduceLT, Int.reduceEq, Int.reduceNeg, reduceCtorEq] <;> (try simp) <;> (try exact fun j _ => Bd_nth (by simp [BdL, Bd]) j) <;> (try exact bd_setL (by simp [bdAs, BdL, Bd])) <;> (try exact nestF_bd _ _ _ _ _ _ _ _ _)
           all_goals first | rfl | (intros; exact nestF_bd1 _ _ _ _ _ _ _ _ _) | (refine ⟨?_, ?_⟩ <;> intros <;> exact nestF_bd1 _ _ _ _ _ _ _ _ _))
    have d9 : decide (0 < (x : Int)) = true := decide_eq_true (by omega)
    have w3 : IntKind.i64.wrap ((x : Int) - 1) = ((x - 1 : Nat) : Int) := by rw [wrap_id (by omega) (by omega)]; omega
    obtain ⟨u5, u6⟩ := hWj (x - 1) (by omega)
    by_cases z2 : W x i 0 = 0
    rotate_left
    · have d10 : decide (W x i 0 = 0) = false := decide_eq_false z2
      simp only [d4, d6, d8, w2, wx, d9, d10, Int.toNat_natCast, alive_eq, check_eq, presses_eq, forms_eq, behind_eq, p8_20, oneN_lit, oneM_lit, oneC_lit, great_one, great1_eq, prC, ckR_ns, psB_ns, nestF_eq, nestR_lit, nsM_lit, nsV_lit, Try.f8, go_sem, ↓reduceIte, Nat.reduceAdd, Nat.reduceSub, Nat.reduceMul, Nat.reduceEqDiff, Nat.reduceLT, Nat.reduceLeDiff, Int.reduceToNat, Int.reduceLE, Int.reduceLT, Int.reduceEq, Int.reduceNeg, reduceCtorEq]
      repeat' apply And.intro
      all_goals first
        | omega
        | (refine ⟨⟨i + 1, by omega⟩, by simp only []; omega, ?_⟩
           apply sub_of <;> simp only [wi, go_sem, ↓reduceIte, Nat.reduceAdd, Nat.reduceSub, Nat.reduceMul, Nat.reduceEqDiff, Nat.reduceLT, Nat.reduceLeDiff, Int.reduceToNat, Int.reduceLE, Int.reduceLT, Int.reduceEq, Int.reduceNeg, reduceCtorEq] <;> (try simp) <;> (try exact fun j _ => Bd_nth (by simp [BdL, Bd]) j) <;> (try exact bd_setL (by simp [bdAs, BdL, Bd])) <;> (try exact nestF_bd _ _ _ _ _ _ _ _ _)
           all_goals first | rfl | (intros; exact nestF_bd1 _ _ _ _ _ _ _ _ _) | (refine ⟨?_, ?_⟩ <;> intros <;> exact nestF_bd1 _ _ _ _ _ _ _ _ _))
    have d10 : decide (W x i 0 = 0) = true := decide_eq_true z2
    by_cases z3 : 0 < W (x - 1) i 0
    rotate_left
    · have d11 : decide (0 < W (x - 1) i 0) = false := decide_eq_false z3
      simp only [d4, d6, d8, w2, wx, d9, d10, d11, w3, u5, Int.toNat_natCast, alive_eq, check_eq, presses_eq, forms_eq, behind_eq, p8_20, oneN_lit, oneM_lit, oneC_lit, great_one, great1_eq, prC, ckR_ns, psB_ns, nestF_eq, nestR_lit, nsM_lit, nsV_lit, Try.f8, go_sem, ↓reduceIte, Nat.reduceAdd, Nat.reduceSub, Nat.reduceMul, Nat.reduceEqDiff, Nat.reduceLT, Nat.reduceLeDiff, Int.reduceToNat, Int.reduceLE, Int.reduceLT, Int.reduceEq, Int.reduceNeg, reduceCtorEq]
      repeat' apply And.intro
      all_goals first
        | omega
        | (refine ⟨⟨i + 1, by omega⟩, by simp only []; omega, ?_⟩
           apply sub_of <;> simp only [wi, go_sem, ↓reduceIte, Nat.reduceAdd, Nat.reduceSub, Nat.reduceMul, Nat.reduceEqDiff, Nat.reduceLT, Nat.reduceLeDiff, Int.reduceToNat, Int.reduceLE, Int.reduceLT, Int.reduceEq, Int.reduceNeg, reduceCtorEq] <;> (try simp) <;> (try exact fun j _ => Bd_nth (by simp [BdL, Bd]) j) <;> (try exact bd_setL (by simp [bdAs, BdL, Bd])) <;> (try exact nestF_bd _ _ _ _ _ _ _ _ _)
           all_goals first | rfl | (intros; exact nestF_bd1 _ _ _ _ _ _ _ _ _) | (refine ⟨?_, ?_⟩ <;> intros <;> exact nestF_bd1 _ _ _ _ _ _ _ _ _))
    have d11 : decide (0 < W (x - 1) i 0) = true := decide_eq_true z3
    simp only [d4, d6, d8, w2, wx, d9, d10, d11, w3, u5, Int.toNat_natCast, alive_eq, check_eq, presses_eq, forms_eq, behind_eq, p8_20, oneN_lit, oneM_lit, oneC_lit, great_one, great1_eq, prC, ckR_ns, psB_ns, nestF_eq, nestR_lit, nsM_lit, nsV_lit, Try.f8, go_sem, ↓reduceIte, Nat.reduceAdd, Nat.reduceSub, Nat.reduceMul, Nat.reduceEqDiff, Nat.reduceLT, Nat.reduceLeDiff, Int.reduceToNat, Int.reduceLE, Int.reduceLT, Int.reduceEq, Int.reduceNeg, reduceCtorEq]
    repeat' apply And.intro
    all_goals first | omega | skip
    refine loop_ofH { j : Nat // j ≤ R0 } (fun j => [(19, .int .i64 (j.1 : Int)), (16, .int .i64 (i : Int)), (154, .int .i64 (i : Int)), (153, .int .i64 (n : Int)), (152, .row n 5 (nestF 0 2 (fun i j => if j = 4 then (plM (⟨n, A, M, V, m, nd, pr, st, ro, pk, fr⟩ : PD) (fun i => chT n (W i)) (x + 1)).s.on.get i else nsA (nestF 0 2 A M V) i j) M V)), (10, .row n 1 fun a b => .int .i64 (W x a b)), (9, .int .i64 (x : Int)), (66, .int .i64 (x : Int)), (8, .int .i64 ((plM (⟨n, A, M, V, m, nd, pr, st, ro, pk, fr⟩ : PD) (fun i => chT n (W i)) (x + 1)).s.sto)), (65, .int .i64 (m : Int)), (64, .row m 1 (nestF 0 1 B K W)), (2, .ptr 0 0), (1, .row m 1 (nestF 0 1 B K W))]) (fun h _ => h) (fun j => R0 - j.1) (fun _ => ⟨rfl, rfl⟩) ⟨0, by omega⟩ (by (apply sub_of <;> simp only [go_sem, ↓reduceIte, Nat.reduceAdd, Nat.reduceSub, Nat.reduceMul, Nat.reduceEqDiff, Nat.reduceLT, Nat.reduceLeDiff, Int.reduceToNat, Int.reduceLE, Int.reduceLT, Int.reduceEq, Int.reduceNeg, reduceCtorEq] <;> (try simp [catF]) <;> (try exact fun j _ => Bd_nth (by simp [BdL, Bd]) j) <;> (try exact bd_setL (by simp [bdAs, BdL, Bd])) <;> (try exact nestF_bd _ _ _ _ _ _ _ _ _)); all_goals first | rfl | (intros; exact nestF_bd1 _ _ _ _ _ _ _ _ _) | (refine ⟨?_, ?_⟩ <;> intros <;> exact nestF_bd1 _ _ _ _ _ _ _ _ _)) ?_
    rintro ⟨j, hj⟩
    have wj : IntKind.i64.wrap ((j : Int) + 1) = ((j + 1 : Nat) : Int) := by rw [wrap_id (by omega) (by omega)]; omega
    rcases Nat.lt_or_ge j R0 with hjR | hjR
    · obtain ⟨v1, v2⟩ := (r0 j hj).1 hjR
      obtain ⟨v3, v4⟩ := hWj (x - 1 - j) (by omega)
      have w5 : IntKind.i64.wrap (((x - 1 : Nat) : Int) - (j : Int)) = ((x - 1 - j : Nat) : Int) := by rw [wrap_id (by omega) (by omega)]; omega
      have d12 : decide ((j : Int) < (x : Int)) = true := decide_eq_true (by omega)
      have d13 : decide (0 < W (x - 1 - j) i 0) = true := decide_eq_true (by omega)
      simp only [d12, d13, w3, w5, wj, v3, Int.toNat_natCast, alive_eq, check_eq, presses_eq, forms_eq, behind_eq, p8_20, oneN_lit, oneM_lit, oneC_lit, great_one, great1_eq, prC, ckR_ns, psB_ns, nestF_eq, nestR_lit, nsM_lit, nsV_lit, Try.f8, go_sem, ↓reduceIte, Nat.reduceAdd, Nat.reduceSub, Nat.reduceMul, Nat.reduceEqDiff, Nat.reduceLT, Nat.reduceLeDiff, Int.reduceToNat, Int.reduceLE, Int.reduceLT, Int.reduceEq, Int.reduceNeg, reduceCtorEq]
      repeat' apply And.intro
      all_goals first
        | omega
        | (refine ⟨⟨j + 1, by omega⟩, by simp only []; omega, ?_⟩
           apply sub_of <;> simp only [wj, go_sem, ↓reduceIte, Nat.reduceAdd, Nat.reduceSub, Nat.reduceMul, Nat.reduceEqDiff, Nat.reduceLT, Nat.reduceLeDiff, Int.reduceToNat, Int.reduceLE, Int.reduceLT, Int.reduceEq, Int.reduceNeg, reduceCtorEq] <;> (try simp) <;> (try exact fun j _ => Bd_nth (by simp [BdL, Bd]) j) <;> (try exact bd_setL (by simp [bdAs, BdL, Bd])) <;> (try exact nestF_bd _ _ _ _ _ _ _ _ _)
           all_goals first | rfl | (intros; exact nestF_bd1 _ _ _ _ _ _ _ _ _) | (refine ⟨?_, ?_⟩ <;> intros <;> exact nestF_bd1 _ _ _ _ _ _ _ _ _))
    obtain rfl : R0 = j := by omega
    have hle2 := hle z2 (hpos (by omega) (by omega))
    have ex0 : R0 = x ∨ (R0 < x ∧ W (x - 1 - R0) i 0 = 0) := by
      rcases Nat.lt_or_ge R0 x with g | g
      · refine .inr ⟨g, Decidable.byContradiction fun g2 => ?_⟩
        have := (r0 R0 (Nat.le_refl _)).2 ⟨g, g2⟩
        omega
      · exact .inl (by omega)
    rcases ex0 with g | ⟨g, g2⟩
    · rw [if_pos g] at hb0
      have d12 : decide ((R0 : Int) < (x : Int)) = false := decide_eq_false (by omega)
      have d14 : decide ((R0 : Int) = (x : Int)) = true := decide_eq_true (by omega)
      have w6 : IntKind.i64.wrap ((R0 : Int) + A i 4) = ON0 := by rw [wrap_id (by omega) (by omega)]; omega
      have d15 : decide (ON0 < A i 2) = false := decide_eq_false (by omega)
      simp only [d12, d14, d15, w6, Int.toNat_natCast, alive_eq, check_eq, presses_eq, forms_eq, behind_eq, p8_20, oneN_lit, oneM_lit, oneC_lit, great_one, great1_eq, prC, ckR_ns, psB_ns, nestF_eq, nestR_lit, nsM_lit, nsV_lit, Try.f8, go_sem, ↓reduceIte, Nat.reduceAdd, Nat.reduceSub, Nat.reduceMul, Nat.reduceEqDiff, Nat.reduceLT, Nat.reduceLeDiff, Int.reduceToNat, Int.reduceLE, Int.reduceLT, Int.reduceEq, Int.reduceNeg, reduceCtorEq]
      repeat' apply And.intro
      all_goals first
        | omega
        | (refine ⟨⟨i + 1, by omega⟩, by simp only []; omega, ?_⟩
           apply sub_of <;> simp only [wi, go_sem, ↓reduceIte, Nat.reduceAdd, Nat.reduceSub, Nat.reduceMul, Nat.reduceEqDiff, Nat.reduceLT, Nat.reduceLeDiff, Int.reduceToNat, Int.reduceLE, Int.reduceLT, Int.reduceEq, Int.reduceNeg, reduceCtorEq] <;> (try simp) <;> (try exact fun j _ => Bd_nth (by simp [BdL, Bd]) j) <;> (try exact bd_setL (by simp [bdAs, BdL, Bd])) <;> (try exact nestF_bd _ _ _ _ _ _ _ _ _)
           all_goals first | rfl | (intros; exact nestF_bd1 _ _ _ _ _ _ _ _ _) | (refine ⟨?_, ?_⟩ <;> intros <;> exact nestF_bd1 _ _ _ _ _ _ _ _ _))
    · rw [if_neg (by omega)] at hb0
      obtain ⟨v3, v4⟩ := hWj (x - 1 - R0) (by omega)
      have w5 : IntKind.i64.wrap (((x - 1 : Nat) : Int) - (R0 : Int)) = ((x - 1 - R0 : Nat) : Int) := by rw [wrap_id (by omega) (by omega)]; omega
      have d12 : decide ((R0 : Int) < (x : Int)) = true := decide_eq_true (by omega)
      have d13 : decide (0 < W (x - 1 - R0) i 0) = false := decide_eq_false (by omega)
      have d14 : decide ((R0 : Int) = (x : Int)) = false := decide_eq_false (by omega)
      have d15 : decide ((R0 : Int) < A i 2) = false := decide_eq_false (by omega)
      simp only [d12, d13, d14, d15, w3, w5, v3, Int.toNat_natCast, alive_eq, check_eq, presses_eq, forms_eq, behind_eq, p8_20, oneN_lit, oneM_lit, oneC_lit, great_one, great1_eq, prC, ckR_ns, psB_ns, nestF_eq, nestR_lit, nsM_lit, nsV_lit, Try.f8, go_sem, ↓reduceIte, Nat.reduceAdd, Nat.reduceSub, Nat.reduceMul, Nat.reduceEqDiff, Nat.reduceLT, Nat.reduceLeDiff, Int.reduceToNat, Int.reduceLE, Int.reduceLT, Int.reduceEq, Int.reduceNeg, reduceCtorEq]
      repeat' apply And.intro
      all_goals first
        | omega
        | (refine ⟨⟨i + 1, by omega⟩, by simp only []; omega, ?_⟩
           apply sub_of <;> simp only [wi, go_sem, ↓reduceIte, Nat.reduceAdd, Nat.reduceSub, Nat.reduceMul, Nat.reduceEqDiff, Nat.reduceLT, Nat.reduceLeDiff, Int.reduceToNat, Int.reduceLE, Int.reduceLT, Int.reduceEq, Int.reduceNeg, reduceCtorEq] <;> (try simp) <;> (try exact fun j _ => Bd_nth (by simp [BdL, Bd]) j) <;> (try exact bd_setL (by simp [bdAs, BdL, Bd])) <;> (try exact nestF_bd _ _ _ _ _ _ _ _ _)
           all_goals first | rfl | (intros; exact nestF_bd1 _ _ _ _ _ _ _ _ _) | (refine ⟨?_, ?_⟩ <;> intros <;> exact nestF_bd1 _ _ _ _ _ _ _ _ _))
  · rw [if_neg (by omega)] at hb1
    obtain ⟨u3, u4⟩ := hWj (x - R) (by omega)
    have w1 : IntKind.i64.wrap ((x : Int) - (R : Int)) = ((x - R : Nat) : Int) := by rw [wrap_id (by omega) (by omega)]; omega
    have d4 : decide ((R : Int) ≤ (x : Int)) = true := decide_eq_true (by omega)
    have d5 : decide (0 < W (x - R) i 0) = false := decide_eq_false (by omega)
    have d6 : decide ((R : Int) = ((x + 1 : Nat) : Int)) = false := decide_eq_false (by omega)
    have d7 : decide (ON = (R : Int)) = true := decide_eq_true (by omega)
    have d8 : decide (A i 3 < (R : Int)) = false := decide_eq_false (by omega)
    rcases Nat.eq_zero_or_pos x with z0 | z0
    · have d9 : decide (0 < (x : Int)) = false := decide_eq_false (by omega)
      simp only [d4, d5, d6, d7, d8, w1, u3, wx, d9, Int.toNat_natCast, alive_eq, check_eq, presses_eq, forms_eq, behind_eq, p8_20, oneN_lit, oneM_lit, oneC_lit, great_one, great1_eq, prC, ckR_ns, psB_ns, nestF_eq, nestR_lit, nsM_lit, nsV_lit, Try.f8, go_sem, ↓reduceIte, Nat.reduceAdd, Nat.reduceSub, Nat.reduceMul, Nat.reduceEqDiff, Nat.reduceLT, Nat.reduceLeDiff, Int.reduceToNat, Int.reduceLE, Int.reduceLT, Int.reduceEq, Int.reduceNeg, reduceCtorEq]
      repeat' apply And.intro
      all_goals first
        | omega
        | (refine ⟨⟨i + 1, by omega⟩, by simp only []; omega, ?_⟩
           apply sub_of <;> simp only [wi, go_sem, ↓reduceIte, Nat.reduceAdd, Nat.reduceSub, Nat.reduceMul, Nat.reduceEqDiff, Nat.reduceLT, Nat.reduceLeDiff, Int.reduceToNat, Int.reduceLE, Int.reduceLT, Int.reduceEq, Int.reduceNeg, reduceCtorEq] <;> (try simp) <;> (try exact fun j _ => Bd_nth (by simp [BdL, Bd]) j) <;> (try exact bd_setL (by simp [bdAs, BdL, Bd])) <;> (try exact nestF_bd _ _ _ _ _ _ _ _ _)
           all_goals first | rfl | (intros; exact nestF_bd1 _ _ _ _ _ _ _ _ _) | (refine ⟨?_, ?_⟩ <;> intros <;> exact nestF_bd1 _ _ _ _ _ _ _ _ _))
    have d9 : decide (0 < (x : Int)) = true := decide_eq_true (by omega)
    have w3 : IntKind.i64.wrap ((x : Int) - 1) = ((x - 1 : Nat) : Int) := by rw [wrap_id (by omega) (by omega)]; omega
    obtain ⟨u5, u6⟩ := hWj (x - 1) (by omega)
    by_cases z2 : W x i 0 = 0
    rotate_left
    · have d10 : decide (W x i 0 = 0) = false := decide_eq_false z2
      simp only [d4, d5, d6, d7, d8, w1, u3, wx, d9, d10, Int.toNat_natCast, alive_eq, check_eq, presses_eq, forms_eq, behind_eq, p8_20, oneN_lit, oneM_lit, oneC_lit, great_one, great1_eq, prC, ckR_ns, psB_ns, nestF_eq, nestR_lit, nsM_lit, nsV_lit, Try.f8, go_sem, ↓reduceIte, Nat.reduceAdd, Nat.reduceSub, Nat.reduceMul, Nat.reduceEqDiff, Nat.reduceLT, Nat.reduceLeDiff, Int.reduceToNat, Int.reduceLE, Int.reduceLT, Int.reduceEq, Int.reduceNeg, reduceCtorEq]
      repeat' apply And.intro
      all_goals first
        | omega
        | (refine ⟨⟨i + 1, by omega⟩, by simp only []; omega, ?_⟩
           apply sub_of <;> simp only [wi, go_sem, ↓reduceIte, Nat.reduceAdd, Nat.reduceSub, Nat.reduceMul, Nat.reduceEqDiff, Nat.reduceLT, Nat.reduceLeDiff, Int.reduceToNat, Int.reduceLE, Int.reduceLT, Int.reduceEq, Int.reduceNeg, reduceCtorEq] <;> (try simp) <;> (try exact fun j _ => Bd_nth (by simp [BdL, Bd]) j) <;> (try exact bd_setL (by simp [bdAs, BdL, Bd])) <;> (try exact nestF_bd _ _ _ _ _ _ _ _ _)
           all_goals first | rfl | (intros; exact nestF_bd1 _ _ _ _ _ _ _ _ _) | (refine ⟨?_, ?_⟩ <;> intros <;> exact nestF_bd1 _ _ _ _ _ _ _ _ _))
    have d10 : decide (W x i 0 = 0) = true := decide_eq_true z2
    by_cases z3 : 0 < W (x - 1) i 0
    rotate_left
    · have d11 : decide (0 < W (x - 1) i 0) = false := decide_eq_false z3
      simp only [d4, d5, d6, d7, d8, w1, u3, wx, d9, d10, d11, w3, u5, Int.toNat_natCast, alive_eq, check_eq, presses_eq, forms_eq, behind_eq, p8_20, oneN_lit, oneM_lit, oneC_lit, great_one, great1_eq, prC, ckR_ns, psB_ns, nestF_eq, nestR_lit, nsM_lit, nsV_lit, Try.f8, go_sem, ↓reduceIte, Nat.reduceAdd, Nat.reduceSub, Nat.reduceMul, Nat.reduceEqDiff, Nat.reduceLT, Nat.reduceLeDiff, Int.reduceToNat, Int.reduceLE, Int.reduceLT, Int.reduceEq, Int.reduceNeg, reduceCtorEq]
      repeat' apply And.intro
      all_goals first
        | omega
        | (refine ⟨⟨i + 1, by omega⟩, by simp only []; omega, ?_⟩
           apply sub_of <;> simp only [wi, go_sem, ↓reduceIte, Nat.reduceAdd, Nat.reduceSub, Nat.reduceMul, Nat.reduceEqDiff, Nat.reduceLT, Nat.reduceLeDiff, Int.reduceToNat, Int.reduceLE, Int.reduceLT, Int.reduceEq, Int.reduceNeg, reduceCtorEq] <;> (try simp) <;> (try exact fun j _ => Bd_nth (by simp [BdL, Bd]) j) <;> (try exact bd_setL (by simp [bdAs, BdL, Bd])) <;> (try exact nestF_bd _ _ _ _ _ _ _ _ _)
           all_goals first | rfl | (intros; exact nestF_bd1 _ _ _ _ _ _ _ _ _) | (refine ⟨?_, ?_⟩ <;> intros <;> exact nestF_bd1 _ _ _ _ _ _ _ _ _))
    have d11 : decide (0 < W (x - 1) i 0) = true := decide_eq_true z3
    simp only [d4, d5, d6, d7, d8, w1, u3, wx, d9, d10, d11, w3, u5, Int.toNat_natCast, alive_eq, check_eq, presses_eq, forms_eq, behind_eq, p8_20, oneN_lit, oneM_lit, oneC_lit, great_one, great1_eq, prC, ckR_ns, psB_ns, nestF_eq, nestR_lit, nsM_lit, nsV_lit, Try.f8, go_sem, ↓reduceIte, Nat.reduceAdd, Nat.reduceSub, Nat.reduceMul, Nat.reduceEqDiff, Nat.reduceLT, Nat.reduceLeDiff, Int.reduceToNat, Int.reduceLE, Int.reduceLT, Int.reduceEq, Int.reduceNeg, reduceCtorEq]
    repeat' apply And.intro
    all_goals first | omega | skip
    refine loop_ofH { j : Nat // j ≤ R0 } (fun j => [(19, .int .i64 (j.1 : Int)), (16, .int .i64 (i : Int)), (154, .int .i64 (i : Int)), (153, .int .i64 (n : Int)), (152, .row n 5 (nestF 0 2 (fun i j => if j = 4 then (plM (⟨n, A, M, V, m, nd, pr, st, ro, pk, fr⟩ : PD) (fun i => chT n (W i)) (x + 1)).s.on.get i else nsA (nestF 0 2 A M V) i j) M V)), (10, .row n 1 fun a b => .int .i64 (W x a b)), (9, .int .i64 (x : Int)), (66, .int .i64 (x : Int)), (8, .int .i64 ((plM (⟨n, A, M, V, m, nd, pr, st, ro, pk, fr⟩ : PD) (fun i => chT n (W i)) (x + 1)).s.sto)), (65, .int .i64 (m : Int)), (64, .row m 1 (nestF 0 1 B K W)), (2, .ptr 0 0), (1, .row m 1 (nestF 0 1 B K W))]) (fun h _ => h) (fun j => R0 - j.1) (fun _ => ⟨rfl, rfl⟩) ⟨0, by omega⟩ (by (apply sub_of <;> simp only [go_sem, ↓reduceIte, Nat.reduceAdd, Nat.reduceSub, Nat.reduceMul, Nat.reduceEqDiff, Nat.reduceLT, Nat.reduceLeDiff, Int.reduceToNat, Int.reduceLE, Int.reduceLT, Int.reduceEq, Int.reduceNeg, reduceCtorEq] <;> (try simp [catF]) <;> (try exact fun j _ => Bd_nth (by simp [BdL, Bd]) j) <;> (try exact bd_setL (by simp [bdAs, BdL, Bd])) <;> (try exact nestF_bd _ _ _ _ _ _ _ _ _)); all_goals first | rfl | (intros; exact nestF_bd1 _ _ _ _ _ _ _ _ _) | (refine ⟨?_, ?_⟩ <;> intros <;> exact nestF_bd1 _ _ _ _ _ _ _ _ _)) ?_
    rintro ⟨j, hj⟩
    have wj : IntKind.i64.wrap ((j : Int) + 1) = ((j + 1 : Nat) : Int) := by rw [wrap_id (by omega) (by omega)]; omega
    rcases Nat.lt_or_ge j R0 with hjR | hjR
    · obtain ⟨v1, v2⟩ := (r0 j hj).1 hjR
      obtain ⟨v3, v4⟩ := hWj (x - 1 - j) (by omega)
      have w5 : IntKind.i64.wrap (((x - 1 : Nat) : Int) - (j : Int)) = ((x - 1 - j : Nat) : Int) := by rw [wrap_id (by omega) (by omega)]; omega
      have d12 : decide ((j : Int) < (x : Int)) = true := decide_eq_true (by omega)
      have d13 : decide (0 < W (x - 1 - j) i 0) = true := decide_eq_true (by omega)
      simp only [d12, d13, w3, w5, wj, v3, Int.toNat_natCast, alive_eq, check_eq, presses_eq, forms_eq, behind_eq, p8_20, oneN_lit, oneM_lit, oneC_lit, great_one, great1_eq, prC, ckR_ns, psB_ns, nestF_eq, nestR_lit, nsM_lit, nsV_lit, Try.f8, go_sem, ↓reduceIte, Nat.reduceAdd, Nat.reduceSub, Nat.reduceMul, Nat.reduceEqDiff, Nat.reduceLT, Nat.reduceLeDiff, Int.reduceToNat, Int.reduceLE, Int.reduceLT, Int.reduceEq, Int.reduceNeg, reduceCtorEq]
      repeat' apply And.intro
      all_goals first
        | omega
        | (refine ⟨⟨j + 1, by omega⟩, by simp only []; omega, ?_⟩
           apply sub_of <;> simp only [wj, go_sem, ↓reduceIte, Nat.reduceAdd, Nat.reduceSub, Nat.reduceMul, Nat.reduceEqDiff, Nat.reduceLT, Nat.reduceLeDiff, Int.reduceToNat, Int.reduceLE, Int.reduceLT, Int.reduceEq, Int.reduceNeg, reduceCtorEq] <;> (try simp) <;> (try exact fun j _ => Bd_nth (by simp [BdL, Bd]) j) <;> (try exact bd_setL (by simp [bdAs, BdL, Bd])) <;> (try exact nestF_bd _ _ _ _ _ _ _ _ _)
           all_goals first | rfl | (intros; exact nestF_bd1 _ _ _ _ _ _ _ _ _) | (refine ⟨?_, ?_⟩ <;> intros <;> exact nestF_bd1 _ _ _ _ _ _ _ _ _))
    obtain rfl : R0 = j := by omega
    have hle2 := hle z2 (hpos (by omega) (by omega))
    have ex0 : R0 = x ∨ (R0 < x ∧ W (x - 1 - R0) i 0 = 0) := by
      rcases Nat.lt_or_ge R0 x with g | g
      · refine .inr ⟨g, Decidable.byContradiction fun g2 => ?_⟩
        have := (r0 R0 (Nat.le_refl _)).2 ⟨g, g2⟩
        omega
      · exact .inl (by omega)
    rcases ex0 with g | ⟨g, g2⟩
    · rw [if_pos g] at hb0
      have d12 : decide ((R0 : Int) < (x : Int)) = false := decide_eq_false (by omega)
      have d14 : decide ((R0 : Int) = (x : Int)) = true := decide_eq_true (by omega)
      have w6 : IntKind.i64.wrap ((R0 : Int) + A i 4) = ON0 := by rw [wrap_id (by omega) (by omega)]; omega
      have d15 : decide (ON0 < A i 2) = false := decide_eq_false (by omega)
      simp only [d12, d14, d15, w6, Int.toNat_natCast, alive_eq, check_eq, presses_eq, forms_eq, behind_eq, p8_20, oneN_lit, oneM_lit, oneC_lit, great_one, great1_eq, prC, ckR_ns, psB_ns, nestF_eq, nestR_lit, nsM_lit, nsV_lit, Try.f8, go_sem, ↓reduceIte, Nat.reduceAdd, Nat.reduceSub, Nat.reduceMul, Nat.reduceEqDiff, Nat.reduceLT, Nat.reduceLeDiff, Int.reduceToNat, Int.reduceLE, Int.reduceLT, Int.reduceEq, Int.reduceNeg, reduceCtorEq]
      repeat' apply And.intro
      all_goals first
        | omega
        | (refine ⟨⟨i + 1, by omega⟩, by simp only []; omega, ?_⟩
           apply sub_of <;> simp only [wi, go_sem, ↓reduceIte, Nat.reduceAdd, Nat.reduceSub, Nat.reduceMul, Nat.reduceEqDiff, Nat.reduceLT, Nat.reduceLeDiff, Int.reduceToNat, Int.reduceLE, Int.reduceLT, Int.reduceEq, Int.reduceNeg, reduceCtorEq] <;> (try simp) <;> (try exact fun j _ => Bd_nth (by simp [BdL, Bd]) j) <;> (try exact bd_setL (by simp [bdAs, BdL, Bd])) <;> (try exact nestF_bd _ _ _ _ _ _ _ _ _)
           all_goals first | rfl | (intros; exact nestF_bd1 _ _ _ _ _ _ _ _ _) | (refine ⟨?_, ?_⟩ <;> intros <;> exact nestF_bd1 _ _ _ _ _ _ _ _ _))
    · rw [if_neg (by omega)] at hb0
      obtain ⟨v3, v4⟩ := hWj (x - 1 - R0) (by omega)
      have w5 : IntKind.i64.wrap (((x - 1 : Nat) : Int) - (R0 : Int)) = ((x - 1 - R0 : Nat) : Int) := by rw [wrap_id (by omega) (by omega)]; omega
      have d12 : decide ((R0 : Int) < (x : Int)) = true := decide_eq_true (by omega)
      have d13 : decide (0 < W (x - 1 - R0) i 0) = false := decide_eq_false (by omega)
      have d14 : decide ((R0 : Int) = (x : Int)) = false := decide_eq_false (by omega)
      have d15 : decide ((R0 : Int) < A i 2) = false := decide_eq_false (by omega)
      simp only [d12, d13, d14, d15, w3, w5, v3, Int.toNat_natCast, alive_eq, check_eq, presses_eq, forms_eq, behind_eq, p8_20, oneN_lit, oneM_lit, oneC_lit, great_one, great1_eq, prC, ckR_ns, psB_ns, nestF_eq, nestR_lit, nsM_lit, nsV_lit, Try.f8, go_sem, ↓reduceIte, Nat.reduceAdd, Nat.reduceSub, Nat.reduceMul, Nat.reduceEqDiff, Nat.reduceLT, Nat.reduceLeDiff, Int.reduceToNat, Int.reduceLE, Int.reduceLT, Int.reduceEq, Int.reduceNeg, reduceCtorEq]
      repeat' apply And.intro
      all_goals first
        | omega
        | (refine ⟨⟨i + 1, by omega⟩, by simp only []; omega, ?_⟩
           apply sub_of <;> simp only [wi, go_sem, ↓reduceIte, Nat.reduceAdd, Nat.reduceSub, Nat.reduceMul, Nat.reduceEqDiff, Nat.reduceLT, Nat.reduceLeDiff, Int.reduceToNat, Int.reduceLE, Int.reduceLT, Int.reduceEq, Int.reduceNeg, reduceCtorEq] <;> (try simp) <;> (try exact fun j _ => Bd_nth (by simp [BdL, Bd]) j) <;> (try exact bd_setL (by simp [bdAs, BdL, Bd])) <;> (try exact nestF_bd _ _ _ _ _ _ _ _ _)
           all_goals first | rfl | (intros; exact nestF_bd1 _ _ _ _ _ _ _ _ _) | (refine ⟨?_, ?_⟩ <;> intros <;> exact nestF_bd1 _ _ _ _ _ _ _ _ _))
end Go.Eng
end

/-
  PressCold: for every input the law returns true, and each argument reads afterwards as it read before. No condition.
-/
section
namespace Go.Proofs.Ytdecicbgjkeefaa.pressCold
open Go.ChangeShapes Go.WideShapes Go.ChangeAt Go.RowKit Go.Eng
set_option linter.unusedVariables false
theorem own : ownKnob Try.prog.godebug = none := by kernel_rfl
theorem laid : laidOutB Try.prog = true := by kernel_rfl
set_option maxRecDepth 100000 in
theorem lifted (os : Os) (started : os.Started) (H : Type) (enc : TypeId × Value → H) :
    ReturnsInHanded {} Try.checked os 8 .any (Rows.pressColdSpec.pre6 enc Try.prog Try.f8 Rows.pressColdRow.domain false) (Rows.pressColdSpec.post enc Try.prog Try.f8 false true false false) := by
  refine returnsInHanded_of_change (C := Try.checked) own started (by kernel_rfl) Try.func8
    (ChangeSpec.witness6 (enc := enc) (C := Try.checked) false ⟨#[], #[.agg #[.slice none 0 0, .slice none 0 0, .slice none 0 0, .int .i64 0, .int .i64 0, .int .i64 0, .int .i64 0], .slice none 0 0], []⟩ 8 (by kernel_rfl) (by kernel_rfl) (by kernel_rfl) (by kernel_rfl)) ?_
  intro W base args ds gs before hval0 hW hcnd _
  have hval : ∀ (j : Nat) t v, Try.f8.params[j]? = some t → args[j]? = some v → Value.okWide Try.prog W .any base t v := hval0
  have hW' := hW
  obtain ⟨p, q, hA0, hV, rfl, hfz, hnd⟩ := hW
  have hA : DataW.TrodAll enc Try.prog W 0 (fun _ => true) true Try.f8.params.toList args.toList ds p := hA0
  rw [Try.params8] at hA hval
  obtain ⟨v0, vs0, d0, ds0, p0, q0, hargs, rfl, rfl, h0, r0⟩ := trodAll_cons hA
  obtain ⟨v1, vs1, d1, ds1, p1, q1, rfl, rfl, rfl, h1, r1⟩ := trodAll_cons r0
  obtain ⟨rfl, rfl, rfl⟩ := trodAll_nil r1
  obtain rfl : args = #[v0, v1] := by cases args; simp_all
  obtain ⟨rfl, rfl⟩ := trodVars_none hV
  obtain ⟨xs0, e0, l0, t0⟩ := arg_agg (shs := [.sl [.sl [.int .i64, .int .i64], .int .i64, .int .i64, .int .i64, .int .i64], .sl [.int .i64], .sl [.int .i64], .int .i64, .int .i64, .int .i64, .int .i64]) Try.underlying25 (by kernel_rfl) (hval 0 25 v0 rfl rfl) h0
  obtain ⟨a0_0, a0_1, a0_2, a0_3, a0_4, a0_5, a0_6, rfl⟩ : ∃ a0_0 a0_1 a0_2 a0_3 a0_4 a0_5 a0_6, xs0 = [a0_0, a0_1, a0_2, a0_3, a0_4, a0_5, a0_6] := by
    match xs0, l0 with
    | [a0_0, a0_1, a0_2, a0_3, a0_4, a0_5, a0_6], _ => exact ⟨a0_0, a0_1, a0_2, a0_3, a0_4, a0_5, a0_6, rfl⟩
  obtain ⟨n0_0, f0_0, rfl, m0_0, s0_0⟩ := typ_sl (t0 0 _ _ rfl rfl)
  obtain ⟨i0_0, b0_0, c0_0, g0_0⟩ := nestR_typ (sz := 5) (k := 0) (s := 2) (by intro j hj hk; rcases (show j = 0 ∨ j = 1 ∨ j = 2 ∨ j = 3 ∨ j = 4 by omega) with rfl | rfl | rfl | rfl | rfl <;> first | rfl | exact absurd rfl hk) rfl s0_0
  obtain ⟨n0_1, f0_1, rfl, m0_1, s0_1⟩ := typ_sl (t0 1 _ _ rfl rfl)
  obtain ⟨i0_1, b0_1⟩ := intK_of_typ (k := .i64) (c := 1) rfl s0_1
  obtain ⟨n0_2, f0_2, rfl, m0_2, s0_2⟩ := typ_sl (t0 2 _ _ rfl rfl)
  obtain ⟨i0_2, b0_2⟩ := intK_of_typ (k := .i64) (c := 1) rfl s0_2
  obtain ⟨x0_3, rfl, w0_3⟩ := typ_int (t0 3 _ _ rfl rfl)
  obtain ⟨x0_4, rfl, w0_4⟩ := typ_int (t0 4 _ _ rfl rfl)
  obtain ⟨x0_5, rfl, w0_5⟩ := typ_int (t0 5 _ _ rfl rfl)
  obtain ⟨x0_6, rfl, w0_6⟩ := typ_int (t0 6 _ _ rfl rfl)
  obtain ⟨n1, f1, e1, m1, t1⟩ := arg_row (s := [.sl [.int .i64]]) Try.underlying29 (by kernel_rfl) (hval 1 29 v1 rfl rfl) h1
  obtain ⟨i1, b1, c1, g1⟩ := nestR_typ (sz := 1) (k := 0) (s := 1) (by intro j hj hk; rcases (show j = 0 by omega) with rfl <;> first | rfl | exact absurd rfl hk) rfl t1
  have hd : DenL Env.emp W [.agg [.row n0_0 5 f0_0, .row n0_1 1 f0_1, .row n0_2 1 f0_2, .int .i64 x0_3, .int .i64 x0_4, .int .i64 x0_5, .int .i64 x0_6], .row n1 1 f1] [v0, v1] := ⟨e0, e1, trivial⟩
  refine (law_calls pressCold_base (args := [.agg [.row n0_0 5 f0_0, .row n0_1 1 f0_1, .row n0_2 1 f0_2, .int .i64 x0_3, .int .i64 x0_4, .int .i64 x0_5, .int .i64 x0_6], .row n1 1 f1]) rfl ⟨⟨rfl, i0_0⟩, ⟨rfl, fun i j hi hj => i0_1 i j hi hj⟩, ⟨rfl, fun i j hi hj => i0_2 i j hi hj⟩, ⟨rfl, i1⟩⟩ (denA_of hd)).mono fun e W' ⟨he, hb⟩ => ?_
  subst he
  exact ⟨_, rfl, law_end laid rfl Try.underlying4 (by kernel_rfl) rfl hW' rfl hb⟩
theorem over : Rows.pressColdRow.holds Try.pinned (OpenSpec.ofChange Rows.pressColdSpec) :=
  OpenClaim.holds_of_wide 8 Try.f8 rfl rfl rfl rfl rfl rfl rfl ⟨rfl, rfl, rfl, rfl, rfl⟩ rfl rfl rfl rfl rfl (by kernel_rfl) Try.func8 (by kernel_rfl)
    (of_decide_eq_true (by kernel_rfl)) (by unfold Func.isWrapper; first | (rw [if_pos (by decide +kernel)]; kernel_rfl) | (rw [if_neg (by decide +kernel)]; exact ⟨rfl, rfl⟩))
    (fun os started H enc _ => lifted os started H enc)
end Go.Proofs.Ytdecicbgjkeefaa.pressCold
namespace Go.Proofs.Ytdecicbgjkeefaa
/-- The given statement. -/
theorem pressCold_holds : Rows.PressColdSaid := pressCold.over
#print axioms pressCold_holds
end Go.Proofs.Ytdecicbgjkeefaa
end
