/-
  A part of the symbolic machine, of its soundness, and of what functions compute. No condition.
-/
import Derived.Test.YtdecicbgjkeefaaP5
set_option linter.unusedSimpArgs false
set_option linter.unusedVariables false
/- press: Check and Behind are the document's. -/
section
namespace Go.Eng
open Go Go.RowKit Go.Proofs
set_option maxRecDepth 100000
set_option maxHeartbeats 4000000
attribute [local irreducible] OwnT DefS
theorem great_one (n a h b q c s1 : Nat) (fA fn fp f : Nat → Nat → SV) (st ro pk fr : Int) : greatBase [.agg [.row n a fA, .row h b fn, .row q c fp, .int .i64 st, .int .i64 ro, .int .i64 pk, .int .i64 fr], .row 1 s1 f] = great1Base [.agg [.row n a fA, .row h b fn, .row q c fp, .int .i64 st, .int .i64 ro, .int .i64 pk, .int .i64 fr], .row 1 s1 f] := rfl
theorem sameB_refl (n : Nat) (A : Nat → Nat → Int) (M : Nat → Nat) (V : Nat → Nat → Nat → Int) (h : Nat) (nd : Nat → Nat → Int) (q : Nat) (pr : Nat → Nat → Int) (st ro pk fr : Int) :
    sameB n A M V h nd q pr st ro pk fr n A M V h nd q pr st ro pk fr = true := by
  have ht : ∀ n, allU (fun _ => true) n = true := fun n => allU_iff.2 fun _ _ => rfl
  have e1 : allU (same1 A M V A M V) n = true := allU_iff.2 fun i _ => by simp only [same1, ht, decide_true, Bool.and_self]
  have e2 : ∀ (n : Nat) (a : Nat → Nat → Int), intsB n a n a = true := fun n a => by simp only [intsB, ht, decide_true, Bool.and_self]
  simp only [sameB, e1, e2, decide_true, Bool.and_self]
theorem bhX_bd (D : PD) (b : Bool) (m : Nat) (K : Nat → Nat) (W : Nat → Nat → Nat → Int) : (bhX D b m K W).n ≤ D.n ∧ (bhX D b m K W).h ≤ D.h ∧ ∀ i, (bhX D b m K W).M i ≤ D.M i := by
  unfold bhX
  split
  · exact ⟨Nat.le_refl _, by simp only [bhP]; omega, fun i => Nat.le_refl _⟩
  · exact ⟨Nat.zero_le _, Nat.zero_le _, fun i => Nat.zero_le _⟩
theorem gr1_false {m : Nat} {K : Nat → Nat} (e : gr1 m K = false) : m ≤ 20 ∧ ∀ i, i < m → K i ≤ 8 := by
  simp only [gr1, Bool.or_eq_false_iff, Bool.not_eq_false', decide_eq_false_iff_not, allU_iff, decide_eq_true_eq] at e
  exact ⟨by omega, fun i hi => by have := e.2 i hi; omega⟩
def pressChecksBase : BaseF := fun args => match args with
  | [.agg [.row n sz_A f_A, .row h sz_nd f_nd, .row q sz_pr f_pr, .int .i64 st, .int .i64 ro, .int .i64 pk, .int .i64 fr], .row m sz_B f_B] => some ((sz_A = 5 ∧ NestR n 5 0 2 f_A) ∧ (sz_nd = 1 ∧ IntR h 1 f_nd) ∧ (sz_pr = 1 ∧ IntR q 1 f_pr) ∧ (sz_B = 1 ∧ NestR m 1 0 1 f_B), .bool true)
  | _ => none
theorem pressChecks_eq (n : Nat) (sz_A : Nat) (f_A : Nat → Nat → SV) (h : Nat) (sz_nd : Nat) (f_nd : Nat → Nat → SV) (q : Nat) (sz_pr : Nat) (f_pr : Nat → Nat → SV) (st : Int) (ro : Int) (pk : Int) (fr : Int) (m : Nat) (sz_B : Nat) (f_B : Nat → Nat → SV) : pressChecksBase [.agg [.row n sz_A f_A, .row h sz_nd f_nd, .row q sz_pr f_pr, .int .i64 st, .int .i64 ro, .int .i64 pk, .int .i64 fr], .row m sz_B f_B] = some ((sz_A = 5 ∧ NestR n 5 0 2 f_A) ∧ (sz_nd = 1 ∧ IntR h 1 f_nd) ∧ (sz_pr = 1 ∧ IntR q 1 f_pr) ∧ (sz_B = 1 ∧ NestR m 1 0 1 f_B), .bool true) := rfl
theorem pressChecks_base : Base Try.prog 6 pressChecksBase := by
  intro args p v hq hp
  unfold pressChecksBase at hq
  split at hq
  rotate_left
  · cases hq
  rename_i n sz_A f_A h sz_nd f_nd q sz_pr f_pr st ro pk fr m sz_B f_B
  cases hq
  obtain ⟨⟨rfl, i_A⟩, ⟨rfl, i_nd⟩, ⟨rfl, i_pr⟩, ⟨rfl, i_B⟩⟩ := hp
  refine base_of (C := cxn [] [(24, behindBase), (25, behindRBase)] [] [(11, greatBase), (13, aliveBase), (19, checkBase), (23, checkRBase), (26, sameBase)] [] none) (cxn_ok ⟨behind_base, behindR_base, trivial⟩ trivial ⟨great_base, alive_base, check_base, checkR_base, same_base, trivial⟩) rfl (g := 6) (fn := Try.f6)
    (args' := [.agg [.row n 5 (nestF 0 2 (nsA f_A) (nsM 0 f_A) (nsV 0 f_A)), .row h 1 (rowF .i64 (ivf f_nd)), .row q 1 (rowF .i64 (ivf f_pr)), .int .i64 st, .int .i64 ro, .int .i64 pk, .int .i64 fr], .row m 1 (nestF 0 1 (nsA f_B) (nsM 0 f_B) (nsV 0 f_B))]) (fn_6) rfl 1000 (by
    simp only [BdL, Bd, and_self, and_true, true_and]
    exact ⟨⟨(fun i j hi hj => nest_bd i_A i j hi hj), (fun i j hi hj => by rw [i_nd i j hi hj]; trivial), (fun i j hi hj => by rw [i_pr i j hi hj]; trivial)⟩, (fun i j hi hj => nest_bd i_B i j hi hj)⟩) ⟨SameD.agg ⟨SameD.nest i_A, SameD.int i_nd, SameD.int i_pr, SameD.rfl' _, SameD.rfl' _, SameD.rfl' _, SameD.rfl' _, trivial⟩, SameD.nest i_B, trivial⟩ ?_
  generalize nsA f_A = A
  generalize nsM 0 f_A = M
  generalize nsV 0 f_A = V
  generalize ivf f_nd = nd
  generalize ivf f_pr = pr
  generalize nsA f_B = B
  generalize nsM 0 f_B = K
  generalize nsV 0 f_B = W
  simp only [rowF_eq]
  simp only [alive_eq, check_eq, checkR_eq, same_eq, behind_eq, behindR_eq, oneN_lit, oneM_lit, oneC_lit, great_one, great1_eq, prC, ckR_ns, psB_ns, nestF_eq, nestR_lit, nsM_lit, nsV_lit, Try.f6, go_sem, ↓reduceIte, Nat.reduceAdd, Nat.reduceSub, Nat.reduceMul, Nat.reduceEqDiff, Nat.reduceLT, Nat.reduceLeDiff, Int.reduceToNat, Int.reduceLE, Int.reduceLT, Int.reduceEq, Int.reduceNeg, reduceCtorEq]
  have hx := bhX_bd ⟨n, nsA (nestF 0 2 A M V), M, V, h, nd, pr, st, ro, pk, fr⟩ (psB n A M V h nd q pr st ro pk fr) m K W
  generalize bhX ⟨n, nsA (nestF 0 2 A M V), M, V, h, nd, pr, st, ro, pk, fr⟩ (psB n A M V h nd q pr st ro pk fr) m K W = X at hx
  simp only [] at hx
  simp only [sameB_refl, go_sem, ↓reduceIte, Nat.reduceAdd, Nat.reduceSub, Nat.reduceMul, Nat.reduceEqDiff, Nat.reduceLT, Nat.reduceLeDiff, Int.reduceToNat, Int.reduceLE, Int.reduceLT, Int.reduceEq, Int.reduceNeg, reduceCtorEq]
  refine ⟨fun _ => trivial, fun c1 => ?_⟩
  simp only [Bool.or_eq_false_iff] at c1
  obtain ⟨h1, h2, h3, h4⟩ := gr0_false c1.1
  obtain ⟨g1, g2⟩ := gr1_false c1.2
  have pp : ((n ≤ 1000000 ∧ ∀ i, i < n → M i ≤ 1000000) ∧ h ≤ 1000000 ∧ q ≤ 1000000) ∧ m ≤ 1000000 ∧ ∀ i, i < m → K i ≤ 1000000 := ⟨⟨⟨by omega, fun i hi => by have := h2 i hi; omega⟩, by omega, by omega⟩, by omega, fun i hi => by have := g2 i hi; omega⟩
  obtain ⟨x1, x2, x3⟩ := hx
  exact ⟨pp, pp, pp, pp, by omega, by omega, by omega, fun i hi => by have := x3 i; have := h2 i (by omega); omega⟩
end Go.Eng
end

/- press: the rest of the cheapest plan. No program in sight. -/
section
namespace Go.Eng
open Go Go.RowKit Go.Proofs
set_option maxRecDepth 100000
set_option maxHeartbeats 4000000
attribute [local irreducible] OwnT DefS
/-- States that do the same, if the peak costs nothing. -/
def simS (D : PD) (s s' : PS) : Prop := (∀ i, i < D.n → s.on.get i = s'.on.get i) ∧ s.sto = s'.sto
theorem rest_steps {D : PD} {m : Nat} {s0 : PS} {on on' c : T3} (ho : ∀ i, i < D.n → on.get i = on'.get i) (x : Int) : ∀ i, i ≤ D.n → stepsP (bhP D m s0) on c x i = stepsP D on' c x i
  | 0, _ => rfl
  | i + 1, hi => by
    simp only [stepsP, rest_steps ho x i (by omega)]
    cases stepsP D on' c x i with
    | none => rfl
    | some a =>
      have h := ho i (by omega)
      simp only [stepP, bhP, h, show ¬ (2 = 4) by omega, show ¬ (3 = 4) by omega, show ¬ (1 = 4) by omega, if_false]
theorem rest_hour {D : PD} {m : Nat} {s0 s s' : PS} {c : T3} (hs : simS D s s') (hr : Nat) :
    (hourP (bhP D m s0) s hr c).e = (hourP D s' (m + hr) c).e ∧ (hourP (bhP D m s0) s hr c).en = (hourP D s' (m + hr) c).en ∧ (hourP (bhP D m s0) s hr c).sta = (hourP D s' (m + hr) c).sta ∧
    simS D (hourP (bhP D m s0) s hr c).s (hourP D s' (m + hr) c).s := by
  obtain ⟨h1, h2⟩ := hs
  unfold hourP
  have e1 : (bhP D m s0).nd hr 0 = D.nd (m + hr) 0 := rfl
  have e2 : (bhP D m s0).n = D.n := rfl
  have e3 : (bhP D m s0).ro = D.ro := rfl
  have e4 : (bhP D m s0).pr hr 0 = D.pr (m + hr) 0 := rfl
  rw [e1, e2, h2, rest_steps h1 _ _ (Nat.le_refl _), e3, e4]
  cases stepsP D s'.on c (s'.sto - D.nd (m + hr) 0) D.n with
  | none => exact ⟨rfl, rfl, rfl, fun _ _ => rfl, rfl⟩
  | some a =>
    simp only []
    by_cases c1 : a.sto < 0
    · simp only [if_pos c1]; exact ⟨trivial, trivial, trivial, fun _ _ => rfl, rfl⟩
    · by_cases c2 : D.ro < a.sto
      · simp only [if_neg c1, if_pos c2]; exact ⟨trivial, trivial, trivial, fun _ _ => rfl, rfl⟩
      · simp only [if_neg c1, if_neg c2]; exact ⟨trivial, trivial, trivial, fun _ _ => rfl, rfl⟩
theorem pickM_ext {D E : PD} {f g : T3 → Option Int} (hd : ∀ q, dig E q = dig D q) (hf : ∀ c, f c = g c) : ∀ k, pickM E f k = pickM D g k
  | 0 => rfl
  | k + 1 => by simp only [pickM, pickM_ext hd hf k, hd, hf]
theorem rest_best {D : PD} {m : Nat} {s0 : PS} (hpk : D.pk = 0) (hm : m ≤ D.h) : ∀ (j : Nat) (s s' : PS), j ≤ D.h - m → simS D s s' → bestM (bhP D m s0) j s = bestM D j s'
  | 0, s, s', _, _ => by
    have : (bhP D m s0).pk = 0 := hpk
    simp only [bestM, this, hpk, Int.mul_zero]
  | j + 1, s, s', hj, hs => by
    have e : D.h - (j + 1) = m + ((bhP D m s0).h - (j + 1)) := by
      have : (bhP D m s0).h = D.h - m := rfl
      omega
    simp only [bestM]
    have ht : tot (bhP D m s0) = tot D := rfl
    rw [ht]
    refine pickM_ext (D := D) (E := bhP D m s0) (fun q => rfl) (fun c => ?_) _
    obtain ⟨g1, g2, g3, g4⟩ := rest_hour (m := m) (s0 := s0) (c := c) hs ((bhP D m s0).h - (j + 1))
    rw [← e] at g1 g2 g3 g4
    simp only [candM, g1, g2, g3, rest_best hpk hm j _ _ (by omega) g4]
theorem sAt_rest {D : PD} {m : Nat} (hpk : D.pk = 0) (hm : m ≤ D.h) (hn : D.n ≤ 3) : ∀ i, i ≤ D.h - m → simS D (sAt (bhP D m (sAt D m)) i) (sAt D (m + i)) ∧ (i < D.h - m → cAt (bhP D m (sAt D m)) i = cAt D (m + i)) := by
  intro i
  have hc : ∀ i, i ≤ D.h - m → simS D (sAt (bhP D m (sAt D m)) i) (sAt D (m + i)) → cAt (bhP D m (sAt D m)) i = cAt D (m + i) := fun i hi hs => by
    have e : (bhP D m (sAt D m)).h - i = D.h - (m + i) := by
      have : (bhP D m (sAt D m)).h = D.h - m := rfl
      omega
    simp only [cAt, e]
    rw [rest_best hpk hm _ _ _ (by omega) hs]
  induction i with
  | zero =>
    intro hi
    have h0 : simS D (sAt (bhP D m (sAt D m)) 0) (sAt D (m + 0)) := by
      refine ⟨fun i hi => ?_, rfl⟩
      simp only [sAt, begP, Nat.add_zero]
      have : (bhP D m (sAt D m)).n = D.n := rfl
      rw [this, onI_get _ hi (by omega)]
      rfl
    exact ⟨h0, fun _ => hc 0 hi h0⟩
  | succ i ih =>
    intro hi
    obtain ⟨h1, h2⟩ := ih (by omega)
    have hcc := h2 (by omega)
    have h3 : simS D (sAt (bhP D m (sAt D m)) (i + 1)) (sAt D (m + (i + 1))) := by
      rw [sAt_succ, ← Nat.add_assoc, sAt_succ, hcc]
      exact (rest_hour h1 i).2.2.2
    exact ⟨h3, fun _ => hc (i + 1) hi h3⟩
/-- No compressor has run longer than its oil lasts. -/
theorem step_oil {D : PD} (hD : D.Ok) {on c : T3} {s : Int} : ∀ {i : Nat}, i ≤ D.n → ∀ {a : PA}, stepsP D on c s i = some a → ∀ j, j < i → a.on.get j ≤ D.A j 3
  | 0, _, _, _, j, hj => absurd hj (by omega)
  | i + 1, hi, a, h, j, hj => by
    have hn := hD.n
    simp only [stepsP] at h
    split at h
    · rename_i b hb
      have ih := step_oil hD (by omega) hb
      have hz := stepsP_zero (by omega) hb
      unfold stepP at h
      split at h
      · split at h
        · cases h
          rcases Nat.lt_or_ge j i with h1 | h1
          · exact ih j h1
          · rw [hz j h1 (by omega)]
            have := hD.oil j (by omega); omega
        · cases h
      · split at h
        · rename_i ho
          cases h
          simp only []
          rw [T3.get_set _ _ _ _ (by omega) (by omega)]
          by_cases hji : j = i
          · rw [if_pos hji, hji]; omega
          · rw [if_neg hji]; exact ih j (by omega)
        · cases h
    · cases h
theorem hour_oil {D : PD} (hD : D.Ok) {s : PS} {hr : Nat} {c : T3} (he : (hourP D s hr c).e = 0) : (∀ j, j < D.n → (hourP D s hr c).s.on.get j ≤ D.A j 3) ∧ (hourP D s hr c).s.sto ≤ D.ro := by
  unfold hourP at he ⊢
  split at he
  · simp [badH] at he
  · rename_i a ha
    split at he
    · simp [badH] at he
    · split at he
      · simp [badH] at he
      · rename_i e1 e2
        simp only [if_neg e1, if_neg e2]
        exact ⟨step_oil hD (Nat.le_refl _) ha, by omega⟩
theorem plM_oil {D : PD} (hD : D.Ok) {C : Nat → T3} : ∀ k, (plM D C k).e = 0 → (∀ j, j < D.n → (plM D C k).s.on.get j ≤ D.A j 3) ∧ (plM D C k).s.sto ≤ D.ro
  | 0, _ => by
    have hn := hD.n
    refine ⟨fun j hj => ?_, hD.st.2⟩
    simp only [plM, begP]
    rw [onI_get _ hj (by omega)]
    exact (hD.on j hj).2
  | k + 1, h => by
    simp only [plM, plStep] at h ⊢
    split at h
    · rename_i h0
      rw [if_pos h0]
      split at h
      · rename_i h1
        rw [if_pos h1]
        exact hour_oil hD h1
      · rename_i h1; exact absurd h h1
    · rename_i h0; exact absurd h h0
theorem bhP_ok {D : PD} (hD : D.Ok) {C : Nat → T3} {k : Nat} (hk : k ≤ D.h) (hc : ∀ i, i < k → chOk D (C i)) (he : (plM D C k).e = 0) : (bhP D k (plM D C k).s).Ok := by
  obtain ⟨g1, _, _⟩ := plM_ok hD k hk hc he
  obtain ⟨g2, g3⟩ := plM_oil hD k he
  have hn := hD.n
  refine ⟨hD.n, by have := hD.h; simp only [bhP]; omega, fun i hi => hD.nd _ (by simp only [bhP] at hi; omega), fun i hi => hD.pr _ (by simp only [bhP] at hi; omega), hD.oil, hD.least, fun i hi => ?_, hD.start, hD.M, hD.pow, hD.cold, hD.ro, ⟨g1.2.1.1, g3⟩, hD.pk, hD.fr⟩
  have hi2 : i < D.n := hi
  exact ⟨(g1.1 i (by omega)).1, g2 i hi2⟩
end Go.Eng
end
