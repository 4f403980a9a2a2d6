/-
  A part of the symbolic machine, of its soundness, and of what functions compute. No condition.
-/
import Derived.Test.YtdecicbgjkeefaaP1
set_option linter.unusedSimpArgs false
set_option linter.unusedVariables false
/- press: the cheapest plan. -/
section
namespace Go.Eng
open Go Go.RowKit Go.Proofs
set_option maxRecDepth 100000
set_option maxHeartbeats 4000000
attribute [local irreducible] OwnT DefS
theorem pickM_some {D : PD} {f : T3 → Option Int} : ∀ (k : Nat) {y : Int × T3}, pickM D f k = some y → ∃ q, q < k ∧ y.2 = dig D q ∧ f y.2 = some y.1
  | 0, y, h => by cases h
  | k + 1, y, h => by
    simp only [pickM] at h
    split at h
    · obtain ⟨q, h1, h2⟩ := pickM_some k h
      exact ⟨q, by omega, h2⟩
    · rename_i x hx
      split at h
      · cases h; exact ⟨k, by omega, rfl, hx⟩
      · rename_i z hz
        split at h
        · cases h; exact ⟨k, by omega, rfl, hx⟩
        · cases h
          obtain ⟨q, h1, h2⟩ := pickM_some k hz
          exact ⟨q, by omega, h2⟩
theorem candM_some {D : PD} {rest : PS → Option (Int × T3)} {s : PS} {hr : Nat} {c : T3} {x : Int} (h : candM D rest s hr c = some x) :
    (hourP D s hr c).e = 0 ∧ ∃ z, rest (hourP D s hr c).s = some z ∧ x = (hourP D s hr c).en + (hourP D s hr c).sta + z.1 := by
  unfold candM at h
  split at h
  · rename_i he
    split at h
    · rename_i z hz
      cases h
      exact ⟨he, z, hz, rfl⟩
    · cases h
  · cases h
theorem bestM_some {D : PD} (hD : D.Ok) {k : Nat} {s : PS} {y : Int × T3} (h : bestM D (k + 1) s = some y) :
    chOk D y.2 ∧ (hourP D s (D.h - (k + 1)) y.2).e = 0 ∧ ∃ z, bestM D k (hourP D s (D.h - (k + 1)) y.2).s = some z ∧ y.1 = (hourP D s (D.h - (k + 1)) y.2).en + (hourP D s (D.h - (k + 1)) y.2).sta + z.1 := by
  obtain ⟨q, h1, h2, h3⟩ := pickM_some _ h
  obtain ⟨h4, h5⟩ := candM_some h3
  exact ⟨by rw [h2]; exact dig_ok hD h1, h4, h5⟩
/-- The state ahead of an hour of the cheapest plan, and its choices. -/
def sAt (D : PD) : Nat → PS
  | 0 => begP D
  | i + 1 => (hourP D (sAt D i) i (wc (bestM D (D.h - i) (sAt D i)))).s
def cAt (D : PD) (i : Nat) : T3 := wc (bestM D (D.h - i) (sAt D i))
theorem sAt_succ (D : PD) (i : Nat) : sAt D (i + 1) = (hourP D (sAt D i) i (cAt D i)).s := rfl
theorem sAt_ok {D : PD} (hD : D.Ok) (hb : (bestM D D.h (begP D)).isNone = false) : ∀ i, i ≤ D.h → stOk D (sAt D i) ∧ (bestM D (D.h - i) (sAt D i)).isNone = false ∧ (i < D.h → chOk D (cAt D i) ∧ (hourP D (sAt D i) i (cAt D i)).e = 0) := by
  intro i
  induction i with
  | zero =>
    intro _
    refine ⟨begP_ok hD, hb, fun h0 => ?_⟩
    obtain ⟨k, hk⟩ : ∃ k, D.h = k + 1 := ⟨D.h - 1, by omega⟩
    obtain ⟨y, hy⟩ : ∃ y, bestM D D.h (begP D) = some y := by cases hq : bestM D D.h (begP D) with | none => rw [hq] at hb; cases hb | some y => exact ⟨y, rfl⟩
    have e : cAt D 0 = y.2 := by simp only [cAt, Nat.sub_zero, sAt, hy, wc_some]
    rw [e]
    rw [hk] at hy
    obtain ⟨g1, g2, _⟩ := bestM_some hD hy
    rw [show D.h - (k + 1) = 0 by omega] at g2
    exact ⟨g1, g2⟩
  | succ i ih =>
    intro hi
    obtain ⟨h1, h2, h3⟩ := ih (by omega)
    obtain ⟨h4, h5⟩ := h3 (by omega)
    have h6 := (hourP_ok hD h1 h4 (hr := i) (by omega) h5).1
    have h7 : (bestM D (D.h - (i + 1)) (sAt D (i + 1))).isNone = false := by
      obtain ⟨y, hy⟩ : ∃ y, bestM D (D.h - i) (sAt D i) = some y := by cases hq : bestM D (D.h - i) (sAt D i) with | none => rw [hq] at h2; cases h2 | some y => exact ⟨y, rfl⟩
      have e : cAt D i = y.2 := by simp only [cAt, hy, wc_some]
      rw [show D.h - i = (D.h - (i + 1)) + 1 by omega] at hy
      obtain ⟨_, _, z, g3, _⟩ := bestM_some hD hy
      rw [show D.h - (D.h - (i + 1) + 1) = i by omega] at g3
      rw [sAt_succ, e, g3]
      rfl
    refine ⟨h6, h7, fun hlt => ?_⟩
    obtain ⟨y, hy⟩ : ∃ y, bestM D (D.h - (i + 1)) (sAt D (i + 1)) = some y := by cases hq : bestM D (D.h - (i + 1)) (sAt D (i + 1)) with | none => rw [hq] at h7; cases h7 | some y => exact ⟨y, rfl⟩
    have e : cAt D (i + 1) = y.2 := by simp only [cAt, hy, wc_some]
    rw [show D.h - (i + 1) = (D.h - (i + 2)) + 1 by omega] at hy
    obtain ⟨g1, g2, _⟩ := bestM_some hD hy
    rw [show D.h - (D.h - (i + 2) + 1) = i + 1 by omega] at g2
    rw [e]
    exact ⟨g1, g2⟩
def chE (b : Bool) (D : PD) : Int := if b then (if (bestM D D.h (begP D)).isNone then 4 else 0) else 1
def chC (b : Bool) (D : PD) : Int := if chE b D = 0 then wx (bestM D D.h (begP D)) else 0
def chN (b : Bool) (D : PD) : Nat := if chE b D = 0 then D.h else 0
/-- A plan, as rows. -/
def z0 : Nat → Nat → Int := fun _ _ => 0
def plV (c : Nat → T3) : Nat → Nat → Nat → Int := fun i a _ => (c i).get a
def planF (n : Nat) (c : Nat → T3) : Nat → Nat → SV := nestF 0 1 z0 (fun _ => n) (plV c)
theorem known_nil (D : PD) : Known D [] := fun i s v _ h => by simp [findM] at h
def planG (n : Nat) (c : Nat → T3) : Nat → Nat → SV := fun i _ => .row n 1 (fun a _ => nth [.int .i64 (c i).a, .int .i64 (c i).b, .int .i64 (c i).c] a)
theorem frzF_nth (k : Nat) (h : HS) : ∀ (l : List SV) (j : Nat), frzF (k + 1) h (nth l j) = nth (mapF (frzF (k + 1) h) l) j
  | [], j => by cases j <;> rfl
  | x :: l, 0 => rfl
  | x :: l, j + 1 => frzF_nth k h l j
theorem planG_frz (k : Nat) (h : HS) (n : Nat) (c : Nat → T3) (i j : Nat) : frzF (k + 1) h (planG n c i j) = planG n c i j := rfl
theorem planG_bd (n : Nat) (c : Nat → T3) (L K i j : Nat) : Bd L K (planG n c i j) := by
  simp only [planG, Bd]
  exact fun a _ _ _ => Bd_nth (by simp [BdL, Bd]) a
theorem planG_same {n : Nat} (hn : n ≤ 3) (c : Nat → T3) (i j : Nat) (hj : j < 1) : SameD (planG n c i j) (planF n c i j) := by
  obtain rfl : j = 0 := by omega
  refine SameD.rowD fun a b ha hb => ?_
  rcases (by omega : a = 0 ∨ a = 1 ∨ a = 2) with rfl | rfl | rfl <;> exact SameD.rfl' _
theorem planF_bd (n : Nat) (c : Nat → T3) (L K i j : Nat) : Bd L K (planF n c i j) := nestF_bd1 _ _ _ _ _ _ _ i j
theorem onI_ns (A : Nat → Nat → Int) (M : Nat → Nat) (V : Nat → Nat → Nat → Int) (n : Nat) : onI (nsA (nestF 0 2 A M V)) n = onI A n := by
  simp only [onI, nsA_lit _ (show 4 ≠ 0 by omega)]
theorem psB_ns (n : Nat) (A : Nat → Nat → Int) (M : Nat → Nat) (V : Nat → Nat → Nat → Int) (h : Nat) (nd : Nat → Nat → Int) (q : Nat) (pr : Nat → Nat → Int) (st ro pk fr : Int) :
    psB n (nsA (nestF 0 2 A M V)) M V h nd q pr st ro pk fr = psB n A M V h nd q pr st ro pk fr := by
  simp only [psB, prB_ns]
def cheapestBase : BaseF := fun args => match args with
  | [.agg [.row n sz_A f_A, .row h sz_nd f_nd, .row q sz_pr f_pr, .int .i64 st, .int .i64 ro, .int .i64 pk, .int .i64 fr]] => some ((sz_A = 5 ∧ NestR n 5 0 2 f_A) ∧ (sz_nd = 1 ∧ IntR h 1 f_nd) ∧ (sz_pr = 1 ∧ IntR q 1 f_pr) ∧ ((n ≤ 1000000 ∧ ∀ i, i < n → (nsM 0 f_A) i ≤ 1000000) ∧ h ≤ 1000000 ∧ q ≤ 1000000), .tup [.row (chN (psB n (nsA f_A) (nsM 0 f_A) (nsV 0 f_A) h (ivf f_nd) q (ivf f_pr) st ro pk fr) ⟨n, (nsA f_A), (nsM 0 f_A), (nsV 0 f_A), h, (ivf f_nd), (ivf f_pr), st, ro, pk, fr⟩) 1 (planF n (cAt ⟨n, (nsA f_A), (nsM 0 f_A), (nsV 0 f_A), h, (ivf f_nd), (ivf f_pr), st, ro, pk, fr⟩)), .int .i64 (chC (psB n (nsA f_A) (nsM 0 f_A) (nsV 0 f_A) h (ivf f_nd) q (ivf f_pr) st ro pk fr) ⟨n, (nsA f_A), (nsM 0 f_A), (nsV 0 f_A), h, (ivf f_nd), (ivf f_pr), st, ro, pk, fr⟩), .int .i64 (chE (psB n (nsA f_A) (nsM 0 f_A) (nsV 0 f_A) h (ivf f_nd) q (ivf f_pr) st ro pk fr) ⟨n, (nsA f_A), (nsM 0 f_A), (nsV 0 f_A), h, (ivf f_nd), (ivf f_pr), st, ro, pk, fr⟩)])
  | _ => none
theorem cheapest_eq (n : Nat) (sz_A : Nat) (f_A : Nat → Nat → SV) (h : Nat) (sz_nd : Nat) (f_nd : Nat → Nat → SV) (q : Nat) (sz_pr : Nat) (f_pr : Nat → Nat → SV) (st : Int) (ro : Int) (pk : Int) (fr : Int) : cheapestBase [.agg [.row n sz_A f_A, .row h sz_nd f_nd, .row q sz_pr f_pr, .int .i64 st, .int .i64 ro, .int .i64 pk, .int .i64 fr]] = some ((sz_A = 5 ∧ NestR n 5 0 2 f_A) ∧ (sz_nd = 1 ∧ IntR h 1 f_nd) ∧ (sz_pr = 1 ∧ IntR q 1 f_pr) ∧ ((n ≤ 1000000 ∧ ∀ i, i < n → (nsM 0 f_A) i ≤ 1000000) ∧ h ≤ 1000000 ∧ q ≤ 1000000), .tup [.row (chN (psB n (nsA f_A) (nsM 0 f_A) (nsV 0 f_A) h (ivf f_nd) q (ivf f_pr) st ro pk fr) ⟨n, (nsA f_A), (nsM 0 f_A), (nsV 0 f_A), h, (ivf f_nd), (ivf f_pr), st, ro, pk, fr⟩) 1 (planF n (cAt ⟨n, (nsA f_A), (nsM 0 f_A), (nsV 0 f_A), h, (ivf f_nd), (ivf f_pr), st, ro, pk, fr⟩)), .int .i64 (chC (psB n (nsA f_A) (nsM 0 f_A) (nsV 0 f_A) h (ivf f_nd) q (ivf f_pr) st ro pk fr) ⟨n, (nsA f_A), (nsM 0 f_A), (nsV 0 f_A), h, (ivf f_nd), (ivf f_pr), st, ro, pk, fr⟩), .int .i64 (chE (psB n (nsA f_A) (nsM 0 f_A) (nsV 0 f_A) h (ivf f_nd) q (ivf f_pr) st ro pk fr) ⟨n, (nsA f_A), (nsM 0 f_A), (nsV 0 f_A), h, (ivf f_nd), (ivf f_pr), st, ro, pk, fr⟩)]) := rfl
theorem cheapest_base : NB Try.prog 14 cheapestBase := by
  intro args p v hq hp
  unfold cheapestBase at hq
  split at hq
  rotate_left
  · cases hq
  rename_i n sz_A f_A h sz_nd f_nd q sz_pr f_pr st ro pk fr
  cases hq
  obtain ⟨⟨rfl, i_A⟩, ⟨rfl, i_nd⟩, ⟨rfl, i_pr⟩, pre⟩ := hp
  refine nb_of (C := cx [32, 37] [] [(31, arePsBase), (35, beginBase)] [(14, 17, p14_17)] none) (cx_ok trivial ⟨arePs_base, begin_base, trivial⟩) rfl (g := 14) (fn := Try.f14)
    (args' := [.agg [.row n 5 (nestF 0 2 (nsA f_A) (nsM 0 f_A) (nsV 0 f_A)), .row h 1 (rowF .i64 (ivf f_nd)), .row q 1 (rowF .i64 (ivf f_pr)), .int .i64 st, .int .i64 ro, .int .i64 pk, .int .i64 fr]]) (fn_14) rfl 1000 (by
    simp only [BdL, Bd, and_self, and_true, true_and]
    exact ⟨(fun i j hi hj => nest_bd i_A i j hi hj), (fun i j hi hj => by rw [i_nd i j hi hj]; trivial), (fun i j hi hj => by rw [i_pr i j hi hj]; trivial)⟩) ⟨SameD.agg ⟨SameD.nest i_A, SameD.int i_nd, SameD.int i_pr, SameD.rfl' _, SameD.rfl' _, SameD.rfl' _, SameD.rfl' _, trivial⟩, trivial⟩ (by simp only [Bd, BdL, and_true]; exact fun i j _ _ => planF_bd _ _ _ _ _ _) ?_
  generalize nsA f_A = A at *
  generalize nsM 0 f_A = M at *
  generalize nsV 0 f_A = V at *
  generalize ivf f_nd = nd at *
  generalize ivf f_pr = pr at *
  simp only [rowF_eq]
  simp only [arePs_eq, begin_eq, p14_17, Try.f36, nestF_eq, nestR_lit, nsM_lit, nsV_lit, psS, onI_ns, psB_ns, Try.f14, go_sem, ↓reduceIte, Nat.reduceAdd, Nat.reduceSub, Nat.reduceMul, Nat.reduceEqDiff, Nat.reduceLT, Nat.reduceLeDiff, Int.reduceToNat, Int.reduceLE, Int.reduceLT, Int.reduceEq, Int.reduceNeg, reduceCtorEq]
  generalize hb : psB n A M V h nd q pr st ro pk fr = b
  generalize hD : (⟨n, A, M, V, h, nd, pr, st, ro, pk, fr⟩ : PD) = D
  refine ⟨pre, fun c1 => ?_, fun c1 => ?_⟩
  · obtain rfl : b = false := by simpa using c1
    have e1 : chE false D = 1 := rfl
    have e2 : chN false D = 0 := rfl
    have e3 : chC false D = 0 := rfl
    rw [e1, e2, e3]
    refine ⟨fun _ _ hi => absurd hi (by omega), ?_⟩
    apply SameD.tup
    exact ⟨SameD.row0, SameD.rfl' _, SameD.rfl' _, trivial⟩
  · obtain rfl : b = true := by simpa using c1
    obtain ⟨rfl, hOk⟩ := psB_iff.1 hb
    rw [hD] at hOk
    clear pre i_A i_nd i_pr hb c1
    have d0 : n = D.n := by rw [← hD]
    have d1 : A = D.A := by rw [← hD]
    have d2 : M = D.M := by rw [← hD]
    have d3 : V = D.V := by rw [← hD]
    have d4 : q = D.h := by rw [← hD]
    have d5 : nd = D.nd := by rw [← hD]
    have d6 : pr = D.pr := by rw [← hD]
    have d7 : st = D.st := by rw [← hD]
    have d8 : ro = D.ro := by rw [← hD]
    have d9 : pk = D.pk := by rw [← hD]
    have d10 : fr = D.fr := by rw [← hD]
    clear hD
    subst d0 d1 d2 d3 d4 d5 d6 d7 d8 d9 d10
    have hn := hOk.n
    have hh := hOk.h
    have hs0 := begP_ok hOk
    refine ⟨by omega, ?_⟩
    unfold callS
    refine calls_mono ?_ (best_frame (D := D) (hr := (0 : Nat)) (s := begP D) (es := []) (w := bestM D D.h (begP D)) [.live 65 [.int .i64 (onI D.A D.n).a, .int .i64 (onI D.A D.n).b, .int .i64 (onI D.A D.n).c, .int .i64 D.st, .int .i64 0]] [.live 0 23 1 0 fun _ _ => .any] (best_calls hOk D.h 0 (begP D) [] (by omega) hs0 (known_nil D)))
    rintro o h' ⟨es, hes, rfl, rfl⟩
    simp only [arePs_eq, begin_eq, p14_17, Try.f36, nestF_eq, nestR_lit, nsM_lit, nsV_lit, psS, onI_ns, psB_ns, Try.f14, bestH, catB, prC, mpS, wayC, go_sem, ↓reduceIte, Nat.reduceAdd, Nat.reduceSub, Nat.reduceMul, Nat.reduceEqDiff, Nat.reduceLT, Nat.reduceLeDiff, Int.reduceToNat, Int.reduceLE, Int.reduceLT, Int.reduceEq, Int.reduceNeg, reduceCtorEq]
    refine ⟨fun c2 => ?_, fun c2 => ?_⟩
    · have e1 : chE true D = 4 := by simp only [chE, c2, if_true]
      have e2 : chN true D = 0 := by simp only [chN, e1]; rfl
      have e3 : chC true D = 0 := by simp only [chC, e1]; rfl
      rw [e1, e2, e3]
      refine ⟨fun _ _ hi => absurd hi (by omega), ?_⟩
      apply SameD.tup
      exact ⟨SameD.row0, SameD.rfl' _, SameD.rfl' _, trivial⟩
    have e1 : chE true D = 0 := by simp only [chE, c2, if_true, Bool.false_eq_true, if_false]
    have e2 : chN true D = D.h := by simp only [chN, e1, if_true]
    have e3 : chC true D = wx (bestM D D.h (begP D)) := by simp only [chC, e1, if_true]
    rw [e1, e2, e3]
    have hst := sAt_ok hOk c2
    generalize bestM D D.h (begP D) = W at c2
    refine loop_ofH { x : Nat × List (List Int × List Int) // x.1 ≤ D.h ∧ Known D x.2 } (fun x => [(26, .int .i64 (x.1.1 : Int)), (25, .int .i64 (D.h : Int)), (8, .ptr 5 0), (7, .ptr 4 0), (6, .ptr 3 0), (2, .vec 0 x.1.1), (1, .ptr 0 0)])
      (fun h x => ⟨[.live 25 (prC D), .mp (mpS x.1.2), .live 60 [.mapp 1], .live 61 [.func 32 [.ptr 0 0, .ptr 2 0, .ptr 3 0]], .live 65 [.int .i64 (sAt D x.1.1).on.a, .int .i64 (sAt D x.1.1).on.b, .int .i64 (sAt D x.1.1).on.c, .int .i64 (sAt D x.1.1).sto, .int .i64 (sAt D x.1.1).pk], getB h.blks 5], [.live x.1.1 23 1 x.1.1 (planG D.n (cAt D))]⟩)
      (fun x => D.h - x.1.1) (fun _ => ⟨rfl, rfl⟩) ⟨(0, es), Nat.zero_le _, hes⟩ (by simp only [prC, mpS, sAt, begP]; (apply sub_of <;> simp only [go_sem, ↓reduceIte, Nat.reduceAdd, Nat.reduceSub, Nat.reduceMul, Nat.reduceEqDiff, Nat.reduceLT, Nat.reduceLeDiff, Int.reduceToNat, Int.reduceLE, Int.reduceLT, Int.reduceEq, Int.reduceNeg, reduceCtorEq] <;> (try simp [catF]) <;> (try exact fun j _ => Bd_nth (by simp [BdL, Bd]) j) <;> (try exact bd_setL (by simp [bdAs, BdL, Bd])) <;> (try exact nestF_bd _ _ _ _ _ _ _ _ _))) ?_
    rintro ⟨⟨i, es⟩, hi, hes⟩
    simp only at hi hes
    obtain ⟨hs1, hs2, hs3⟩ := hst i hi
    have hw3 : IntKind.i64.wrap ((i : Int) + 1) = ((i + 1 : Nat) : Int) := by rw [wrap_id (by omega) (by omega)]; omega
    simp only [arePs_eq, begin_eq, p14_17, Try.f36, nestF_eq, nestR_lit, nsM_lit, nsV_lit, psS, onI_ns, psB_ns, Try.f14, prC, mpS, go_sem, ↓reduceIte, Nat.reduceAdd, Nat.reduceSub, Nat.reduceMul, Nat.reduceEqDiff, Nat.reduceLT, Nat.reduceLeDiff, Int.reduceToNat, Int.reduceLE, Int.reduceLT, Int.reduceEq, Int.reduceNeg, reduceCtorEq]
    refine ⟨fun c3 => ?_, fun c3 => ?_⟩
    · simp only [decide_eq_true_eq] at c3
      obtain ⟨hc1, hc2⟩ := hs3 (by omega)
      unfold callS
      refine calls_mono ?_ (best_frame (D := D) (hr := (i : Nat)) (s := sAt D i) (es := es) (w := bestM D (D.h - i) (sAt D i)) _ _ (best_calls hOk (D.h - i) i (sAt D i) es (by omega) hs1 hes))
      rintro o h' ⟨es', hes', rfl, rfl⟩
      simp only [arePs_eq, begin_eq, p14_17, Try.f36, nestF_eq, nestR_lit, nsM_lit, nsV_lit, psS, onI_ns, psB_ns, Try.f14, bestH, catB, prC, mpS, wayC, go_sem, ↓reduceIte, Nat.reduceAdd, Nat.reduceSub, Nat.reduceMul, Nat.reduceEqDiff, Nat.reduceLT, Nat.reduceLeDiff, Int.reduceToNat, Int.reduceLE, Int.reduceLT, Int.reduceEq, Int.reduceNeg, reduceCtorEq]
      have e4 : wc (bestM D (D.h - i) (sAt D i)) = cAt D i := rfl
      rw [e4]
      refine ⟨⟨by omega, by omega⟩, ⟨by omega, by omega, by omega⟩, ⟨by omega, by omega⟩, ?_⟩
      have hp := pass0 hOk hs1 hc1 (hr := i) (by omega)
      simp only [prC, psS, tS] at hp
      unfold callS
      refine calls_mono ?_ (calls_lend (K := fun o => o = resP (hourP D (sAt D i) i (cAt D i))) ?_ ?_)
      rotate_left
      · simp only [frzF_nth, go_sem, ↓reduceIte, Nat.reduceAdd, Nat.reduceSub, Nat.reduceMul, Nat.reduceEqDiff, Nat.reduceLT, Nat.reduceLeDiff, Int.reduceToNat, Int.reduceLE, Int.reduceLT, Int.reduceEq, Int.reduceNeg, reduceCtorEq]
        exact fun j _ => Bd_nth (prC_bd D 0 0) j
      · simp only [frzF_nth, go_sem, ↓reduceIte, Nat.reduceAdd, Nat.reduceSub, Nat.reduceMul, Nat.reduceEqDiff, Nat.reduceLT, Nat.reduceLeDiff, Int.reduceToNat, Int.reduceLE, Int.reduceLT, Int.reduceEq, Int.reduceNeg, reduceCtorEq]
        exact hp
      rintro o h' ⟨rfl, rfl⟩
      simp only [resP, hc2, if_true, ← sAt_succ, arePs_eq, begin_eq, p14_17, Try.f36, nestF_eq, nestR_lit, nsM_lit, nsV_lit, psS, onI_ns, psB_ns, Try.f14, go_sem, ↓reduceIte, Nat.reduceAdd, Nat.reduceSub, Nat.reduceMul, Nat.reduceEqDiff, Nat.reduceLT, Nat.reduceLeDiff, Int.reduceToNat, Int.reduceLE, Int.reduceLT, Int.reduceEq, Int.reduceNeg, reduceCtorEq]
      refine ⟨⟨(i + 1, es'), by simp only []; omega, hes'⟩, by simp only []; omega, ?_⟩
      refine sub_fz 2 0 (planG D.n (cAt D)) rfl rfl (by decide) ?_ ?_
      · intro a b ha hb
        rcases Nat.lt_or_ge a i with h1 | h1
        · left
          simp only [catF, if_pos h1]
        · obtain rfl : a = i := by omega
          right
          obtain rfl : b = 0 := by omega
          refine ⟨by simp only [catF, if_neg (Nat.lt_irrefl _), Nat.sub_self]; rfl, ?_⟩
          simp only [planG]
          congr 1
      · apply sub_of <;> simp only [hw3, prC, mpS, go_sem, ↓reduceIte, Nat.reduceAdd, Nat.reduceSub, Nat.reduceMul, Nat.reduceEqDiff, Nat.reduceLT, Nat.reduceLeDiff, Int.reduceToNat, Int.reduceLE, Int.reduceLT, Int.reduceEq, Int.reduceNeg, reduceCtorEq] <;> (try simp) <;> (try exact fun j _ => Bd_nth (by simp [BdL, Bd]) j) <;> (try exact bd_setL (by simp [bdAs, BdL, Bd])) <;> (try exact nestF_bd _ _ _ _ _ _ _ _ _)
        exact fun _ _ => planG_bd _ _ _ _ _ _
    · simp only [decide_eq_false_iff_not] at c3
      obtain rfl : i = D.h := by omega
      simp only [planG_frz]
      refine ⟨⟨by kernel_rfl, by kernel_rfl⟩, fun _ _ _ _ => planG_bd _ _ _ _ _ _, ?_⟩
      apply SameD.tup
      exact ⟨SameD.rowD fun a b _ hb => planG_same hn.2 _ a b hb, SameD.rfl' _, SameD.rfl' _, trivial⟩
end Go.Eng
end

/- press: plans compared, their form, sums. -/
section
namespace Go.Eng
open Go Go.RowKit Go.Proofs
set_option maxRecDepth 100000
set_option maxHeartbeats 4000000
attribute [local irreducible] OwnT DefS
def intsBase : BaseF := fun args => match args with
  | [.row n sz_a f_a, .row m sz_b f_b] => some ((sz_a = 1 ∧ IntR n 1 f_a) ∧ (sz_b = 1 ∧ IntR m 1 f_b) ∧ (n ≤ 1000000), .bool (decide ((n : Int) = (m : Int)) && allU (fun i => decide ((ivf f_a) i 0 = (ivf f_b) i 0)) n))
  | _ => none
theorem ints_eq (n : Nat) (sz_a : Nat) (f_a : Nat → Nat → SV) (m : Nat) (sz_b : Nat) (f_b : Nat → Nat → SV) : intsBase [.row n sz_a f_a, .row m sz_b f_b] = some ((sz_a = 1 ∧ IntR n 1 f_a) ∧ (sz_b = 1 ∧ IntR m 1 f_b) ∧ (n ≤ 1000000), .bool (decide ((n : Int) = (m : Int)) && allU (fun i => decide ((ivf f_a) i 0 = (ivf f_b) i 0)) n)) := rfl
theorem ints_base : Base Try.prog 30 intsBase := by
  intro args p v hq hp
  unfold intsBase at hq
  split at hq
  rotate_left
  · cases hq
  rename_i n sz_a f_a m sz_b f_b
  cases hq
  obtain ⟨⟨rfl, i_a⟩, ⟨rfl, i_b⟩, pre⟩ := hp
  refine base_of (C := cx [] [] [] [(30, 6, p30_6)] none) (cx_ok trivial trivial) rfl (g := 30) (fn := Try.f30)
    (args' := [.row n 1 (rowF .i64 (ivf f_a)), .row m 1 (rowF .i64 (ivf f_b))]) (fn_30) rfl 1000 (by
    simp only [BdL, Bd, and_self, and_true, true_and]
    exact ⟨(fun i j hi hj => by rw [i_a i j hi hj]; trivial), (fun i j hi hj => by rw [i_b i j hi hj]; trivial)⟩) ⟨SameD.int i_a, SameD.int i_b, trivial⟩ ?_
  generalize ivf f_a = a at *
  generalize ivf f_b = b at *
  simp only [rowF_eq]
  simp only [p30_6, Try.f30, go_sem, ↓reduceIte, Nat.reduceAdd, Nat.reduceSub, Nat.reduceMul, Nat.reduceEqDiff, Nat.reduceLT, Nat.reduceLeDiff, Int.reduceToNat, Int.reduceLE, Int.reduceLT, Int.reduceEq, Int.reduceNeg, reduceCtorEq]
  refine ⟨fun c1 => by simp only [Bool.not_eq_true'] at c1; simp [c1], fun c1 => ?_⟩
  simp only [Bool.not_eq_false'] at c1
  have hnm := of_decide_eq_true c1
  refine loop_ofH { i : Nat // i ≤ n ∧ ∀ j, j < i → (fun i => decide (a i 0 = b i 0)) j = true } (fun i => [(5, .int .i64 (i.1 : Int)), (1, .row m 1 fun i j => .int .i64 (b i j)), (0, .row n 1 fun i j => .int .i64 (a i j))]) (fun h _ => h) (fun i => n - i.1) (fun _ => ⟨rfl, rfl⟩) ⟨0, by omega, by omega⟩ (by (apply sub_of <;> simp only [go_sem, ↓reduceIte, Nat.reduceAdd, Nat.reduceSub, Nat.reduceMul, Nat.reduceEqDiff, Nat.reduceLT, Nat.reduceLeDiff, Int.reduceToNat, Int.reduceLE, Int.reduceLT, Int.reduceEq, Int.reduceNeg, reduceCtorEq] <;> (try simp [catF]) <;> (try exact fun j _ => Bd_nth (by simp [BdL, Bd]) j) <;> (try exact bd_setL (by simp [bdAs, BdL, Bd])) <;> (try exact nestF_bd _ _ _ _ _ _ _ _ _))) ?_
  rintro ⟨i, hi, h3⟩
  simp only [p30_6, Try.f30, go_sem, ↓reduceIte, Nat.reduceAdd, Nat.reduceSub, Nat.reduceMul, Nat.reduceEqDiff, Nat.reduceLT, Nat.reduceLeDiff, Int.reduceToNat, Int.reduceLE, Int.reduceLT, Int.reduceEq, Int.reduceNeg, reduceCtorEq]
  have hw3 : IntKind.i64.wrap ((i : Int) + 1) = ((i + 1 : Nat) : Int) := by rw [wrap_id (by omega) (by omega)]; omega
  refine ⟨fun e1 => ?_, fun e1 => ?_⟩
  · simp only [decide_eq_true_eq] at e1
    refine ⟨⟨by kernel_rfl, by kernel_rfl⟩, ⟨by omega, by omega⟩, ⟨by omega, by omega⟩, fun e2 => ?_, fun e2 => ⟨⟨i + 1, by omega, below h3 (by simpa using e2)⟩, by simp only []; omega, ?_⟩⟩
    · rw [allU_false (p := fun i => decide (a i 0 = b i 0)) (i := i) (by omega) (by simpa using e2)]; simp
    · apply sub_of <;> simp only [hw3, go_sem, ↓reduceIte, Nat.reduceAdd, Nat.reduceSub, Nat.reduceMul, Nat.reduceEqDiff, Nat.reduceLT, Nat.reduceLeDiff, Int.reduceToNat, Int.reduceLE, Int.reduceLT, Int.reduceEq, Int.reduceNeg, reduceCtorEq] <;> (try simp) <;> (try exact fun j _ => Bd_nth (by simp [BdL, Bd]) j) <;> (try exact bd_setL (by simp [bdAs, BdL, Bd])) <;> (try exact nestF_bd _ _ _ _ _ _ _ _ _)
  · simp only [decide_eq_false_iff_not] at e1
    obtain rfl : i = n := by omega
    rw [allU_true h3, c1]; rfl
def eqB (n : Nat) (M : Nat → Nat) (V : Nat → Nat → Nat → Int) (m : Nat) (K : Nat → Nat) (W : Nat → Nat → Nat → Int) : Bool := decide ((n : Int) = (m : Int)) && allU (fun i => decide ((M i : Int) = (K i : Int)) && allU (fun k => decide (V i k 0 = W i k 0)) (M i)) n
def plansBase : BaseF := fun args => match args with
  | [.row n sz_A f_A, .row m sz_B f_B] => some ((sz_A = 1 ∧ NestR n 1 0 1 f_A) ∧ (sz_B = 1 ∧ NestR m 1 0 1 f_B) ∧ (n ≤ 1000000 ∧ ∀ i, i < n → (nsM 0 f_A) i ≤ 1000000), .bool (eqB n (nsM 0 f_A) (nsV 0 f_A) m (nsM 0 f_B) (nsV 0 f_B)))
  | _ => none
theorem plans_eq (n : Nat) (sz_A : Nat) (f_A : Nat → Nat → SV) (m : Nat) (sz_B : Nat) (f_B : Nat → Nat → SV) : plansBase [.row n sz_A f_A, .row m sz_B f_B] = some ((sz_A = 1 ∧ NestR n 1 0 1 f_A) ∧ (sz_B = 1 ∧ NestR m 1 0 1 f_B) ∧ (n ≤ 1000000 ∧ ∀ i, i < n → (nsM 0 f_A) i ≤ 1000000), .bool (eqB n (nsM 0 f_A) (nsV 0 f_A) m (nsM 0 f_B) (nsV 0 f_B))) := rfl
theorem plans_base : Base Try.prog 16 plansBase := by
  intro args p v hq hp
  unfold plansBase at hq
  split at hq
  rotate_left
  · cases hq
  rename_i n sz_A f_A m sz_B f_B
  cases hq
  obtain ⟨⟨rfl, i_A⟩, ⟨rfl, i_B⟩, pre⟩ := hp
  refine base_of (C := cx [] [] [(30, intsBase)] [(16, 6, p16_6)] none) (cx_ok trivial ⟨ints_base, trivial⟩) rfl (g := 16) (fn := Try.f16)
    (args' := [.row n 1 (nestF 0 1 (nsA f_A) (nsM 0 f_A) (nsV 0 f_A)), .row m 1 (nestF 0 1 (nsA f_B) (nsM 0 f_B) (nsV 0 f_B))]) (fn_16) rfl 1000 (by
    simp only [BdL, Bd, and_self, and_true, true_and]
    exact ⟨(fun i j hi hj => nest_bd i_A i j hi hj), (fun i j hi hj => nest_bd i_B i j hi hj)⟩) ⟨SameD.nest i_A, SameD.nest i_B, trivial⟩ ?_
  generalize nsA f_A = A at *
  generalize nsM 0 f_A = M at *
  generalize nsV 0 f_A = V at *
  generalize nsA f_B = B at *
  generalize nsM 0 f_B = K at *
  generalize nsV 0 f_B = W at *
  simp only [ints_eq, p16_6, nestF_eq, nestR_lit, nsM_lit, nsV_lit, Try.f16, go_sem, ↓reduceIte, Nat.reduceAdd, Nat.reduceSub, Nat.reduceMul, Nat.reduceEqDiff, Nat.reduceLT, Nat.reduceLeDiff, Int.reduceToNat, Int.reduceLE, Int.reduceLT, Int.reduceEq, Int.reduceNeg, reduceCtorEq]
  obtain ⟨hn, hM⟩ := pre
  refine ⟨fun c1 => by simp only [Bool.not_eq_true'] at c1; simp [eqB, c1], fun c1 => ?_⟩
  simp only [Bool.not_eq_false'] at c1
  have hnm := of_decide_eq_true c1
  refine loop_ofH { i : Nat // i ≤ n ∧ ∀ j, j < i → (fun i => decide ((M i : Int) = (K i : Int)) && allU (fun k => decide (V i k 0 = W i k 0)) (M i)) j = true } (fun i => [(5, .int .i64 (i.1 : Int)), (1, .row m 1 (nestF 0 1 B K W)), (0, .row n 1 (nestF 0 1 A M V))]) (fun h _ => h) (fun i => n - i.1) (fun _ => ⟨rfl, rfl⟩) ⟨0, by omega, by omega⟩ (by (apply sub_of <;> simp only [go_sem, ↓reduceIte, Nat.reduceAdd, Nat.reduceSub, Nat.reduceMul, Nat.reduceEqDiff, Nat.reduceLT, Nat.reduceLeDiff, Int.reduceToNat, Int.reduceLE, Int.reduceLT, Int.reduceEq, Int.reduceNeg, reduceCtorEq] <;> (try simp [catF]) <;> (try exact fun j _ => Bd_nth (by simp [BdL, Bd]) j) <;> (try exact bd_setL (by simp [bdAs, BdL, Bd])) <;> (try exact nestF_bd _ _ _ _ _ _ _ _ _)); exact ⟨fun i _ => nestF_bd1 _ _ _ _ _ _ _ i 0, fun i _ => nestF_bd1 _ _ _ _ _ _ _ i 0⟩) ?_
  rintro ⟨i, hi, h3⟩
  simp only [ints_eq, p16_6, nestF_eq, nestR_lit, nsM_lit, nsV_lit, Try.f16, go_sem, ↓reduceIte, Nat.reduceAdd, Nat.reduceSub, Nat.reduceMul, Nat.reduceEqDiff, Nat.reduceLT, Nat.reduceLeDiff, Int.reduceToNat, Int.reduceLE, Int.reduceLT, Int.reduceEq, Int.reduceNeg, reduceCtorEq]
  have hw3 : IntKind.i64.wrap ((i : Int) + 1) = ((i + 1 : Nat) : Int) := by rw [wrap_id (by omega) (by omega)]; omega
  refine ⟨fun e1 => ?_, fun e1 => ?_⟩
  · simp only [decide_eq_true_eq] at e1
    refine ⟨⟨by kernel_rfl, by kernel_rfl⟩, ⟨by omega, by omega⟩, ⟨by omega, by omega⟩, hM i (by omega), fun e2 => ?_, fun e2 => ⟨⟨i + 1, by omega, below h3 (by simp only [Bool.not_eq_false'] at e2; exact e2)⟩, by simp only []; omega, ?_⟩⟩
    · have := allU_false (p := fun i => decide ((M i : Int) = (K i : Int)) && allU (fun k => decide (V i k 0 = W i k 0)) (M i)) (n := n) (i := i) (by omega) (by simp only [Bool.not_eq_true'] at e2; exact e2)
      simp only [eqB, this, Bool.and_false]
    · apply sub_of <;> simp only [hw3, go_sem, ↓reduceIte, Nat.reduceAdd, Nat.reduceSub, Nat.reduceMul, Nat.reduceEqDiff, Nat.reduceLT, Nat.reduceLeDiff, Int.reduceToNat, Int.reduceLE, Int.reduceLT, Int.reduceEq, Int.reduceNeg, reduceCtorEq] <;> (try simp) <;> (try exact fun j _ => Bd_nth (by simp [BdL, Bd]) j) <;> (try exact bd_setL (by simp [bdAs, BdL, Bd])) <;> (try exact nestF_bd _ _ _ _ _ _ _ _ _)
      all_goals exact ⟨fun i _ => nestF_bd1 _ _ _ _ _ _ _ i 0, fun i _ => nestF_bd1 _ _ _ _ _ _ _ i 0⟩
  · simp only [decide_eq_false_iff_not] at e1
    obtain rfl : i = n := by omega
    simp only [eqB, allU_true h3, c1]; rfl
def formB (n : Nat) (M : Nat → Nat) (m : Nat) (l : Nat → Nat → Int) : Bool := decide ((m : Int) = (n : Int)) && allU (fun i => in3 (l i 0) 0 (M i)) m
def formBase : BaseF := fun args => match args with
  | [.agg [.row n sz_A f_A, .row h sz_nd f_nd, .row q sz_pr f_pr, .int .i64 st, .int .i64 ro, .int .i64 pk, .int .i64 fr], .row m sz_l f_l] => some ((sz_A = 5 ∧ NestR n 5 0 2 f_A) ∧ (sz_nd = 1 ∧ IntR h 1 f_nd) ∧ (sz_pr = 1 ∧ IntR q 1 f_pr) ∧ (sz_l = 1 ∧ IntR m 1 f_l) ∧ (m ≤ 1000000), .bool (formB n (nsM 0 f_A) m (ivf f_l)))
  | _ => none
theorem form_eq (n : Nat) (sz_A : Nat) (f_A : Nat → Nat → SV) (h : Nat) (sz_nd : Nat) (f_nd : Nat → Nat → SV) (q : Nat) (sz_pr : Nat) (f_pr : Nat → Nat → SV) (st : Int) (ro : Int) (pk : Int) (fr : Int) (m : Nat) (sz_l : Nat) (f_l : Nat → Nat → SV) : formBase [.agg [.row n sz_A f_A, .row h sz_nd f_nd, .row q sz_pr f_pr, .int .i64 st, .int .i64 ro, .int .i64 pk, .int .i64 fr], .row m sz_l f_l] = some ((sz_A = 5 ∧ NestR n 5 0 2 f_A) ∧ (sz_nd = 1 ∧ IntR h 1 f_nd) ∧ (sz_pr = 1 ∧ IntR q 1 f_pr) ∧ (sz_l = 1 ∧ IntR m 1 f_l) ∧ (m ≤ 1000000), .bool (formB n (nsM 0 f_A) m (ivf f_l))) := rfl
theorem form_base : Base Try.prog 45 formBase := by
  intro args p v hq hp
  unfold formBase at hq
  split at hq
  rotate_left
  · cases hq
  rename_i n sz_A f_A h sz_nd f_nd q sz_pr f_pr st ro pk fr m sz_l f_l
  cases hq
  obtain ⟨⟨rfl, i_A⟩, ⟨rfl, i_nd⟩, ⟨rfl, i_pr⟩, ⟨rfl, i_l⟩, pre⟩ := hp
  refine base_of (C := cx [] [] [(41, inBase)] [(45, 6, p45_6)] none) (cx_ok trivial ⟨in_base, trivial⟩) rfl (g := 45) (fn := Try.f45)
    (args' := [.agg [.row n 5 (nestF 0 2 (nsA f_A) (nsM 0 f_A) (nsV 0 f_A)), .row h 1 (rowF .i64 (ivf f_nd)), .row q 1 (rowF .i64 (ivf f_pr)), .int .i64 st, .int .i64 ro, .int .i64 pk, .int .i64 fr], .row m 1 (rowF .i64 (ivf f_l))]) (fn_45) rfl 1000 (by
    simp only [BdL, Bd, and_self, and_true, true_and]
    exact ⟨⟨(fun i j hi hj => nest_bd i_A i j hi hj), (fun i j hi hj => by rw [i_nd i j hi hj]; trivial), (fun i j hi hj => by rw [i_pr i j hi hj]; trivial)⟩, (fun i j hi hj => by rw [i_l i j hi hj]; trivial)⟩) ⟨SameD.agg ⟨SameD.nest i_A, SameD.int i_nd, SameD.int i_pr, SameD.rfl' _, SameD.rfl' _, SameD.rfl' _, SameD.rfl' _, trivial⟩, SameD.int i_l, trivial⟩ ?_
  generalize nsA f_A = A at *
  generalize nsM 0 f_A = M at *
  generalize nsV 0 f_A = V at *
  generalize ivf f_nd = nd at *
  generalize ivf f_pr = pr at *
  generalize ivf f_l = l at *
  simp only [rowF_eq]
  simp only [in_eq, p45_6, nestF_eq, nestR_lit, nsM_lit, nsV_lit, Try.f45, go_sem, ↓reduceIte, Nat.reduceAdd, Nat.reduceSub, Nat.reduceMul, Nat.reduceEqDiff, Nat.reduceLT, Nat.reduceLeDiff, Int.reduceToNat, Int.reduceLE, Int.reduceLT, Int.reduceEq, Int.reduceNeg, reduceCtorEq]
  refine ⟨fun c1 => by simp only [Bool.not_eq_true'] at c1; simp [formB, c1], fun c1 => ?_⟩
  simp only [Bool.not_eq_false'] at c1
  have hnm := of_decide_eq_true c1
  refine loop_ofH { i : Nat // i ≤ m ∧ ∀ j, j < i → (fun i => in3 (l i 0) 0 (M i)) j = true } (fun i => [(5, .int .i64 (i.1 : Int)), (2, .ptr 0 0), (1, .row m 1 fun i j => .int .i64 (l i j))]) (fun h _ => h) (fun i => m - i.1) (fun _ => ⟨rfl, rfl⟩) ⟨0, by omega, by omega⟩ (by (apply sub_of <;> simp only [go_sem, ↓reduceIte, Nat.reduceAdd, Nat.reduceSub, Nat.reduceMul, Nat.reduceEqDiff, Nat.reduceLT, Nat.reduceLeDiff, Int.reduceToNat, Int.reduceLE, Int.reduceLT, Int.reduceEq, Int.reduceNeg, reduceCtorEq] <;> (try simp [catF]) <;> (try exact fun j _ => Bd_nth (by simp [BdL, Bd]) j) <;> (try exact bd_setL (by simp [bdAs, BdL, Bd])) <;> (try exact nestF_bd _ _ _ _ _ _ _ _ _))) ?_
  rintro ⟨i, hi, h3⟩
  simp only [in_eq, p45_6, nestF_eq, nestR_lit, nsM_lit, nsV_lit, Try.f45, go_sem, ↓reduceIte, Nat.reduceAdd, Nat.reduceSub, Nat.reduceMul, Nat.reduceEqDiff, Nat.reduceLT, Nat.reduceLeDiff, Int.reduceToNat, Int.reduceLE, Int.reduceLT, Int.reduceEq, Int.reduceNeg, reduceCtorEq]
  have hw3 : IntKind.i64.wrap ((i : Int) + 1) = ((i + 1 : Nat) : Int) := by rw [wrap_id (by omega) (by omega)]; omega
  refine ⟨fun e1 => ?_, fun e1 => ?_⟩
  · simp only [decide_eq_true_eq] at e1
    refine ⟨⟨by kernel_rfl, by kernel_rfl⟩, ⟨by omega, by omega⟩, ⟨by omega, by omega⟩, fun e2 => ?_, fun e2 => ⟨⟨i + 1, by omega, below h3 (by simpa using e2)⟩, by simp only []; omega, ?_⟩⟩
    · have := allU_false (p := fun i => in3 (l i 0) 0 (M i)) (n := m) (i := i) (by omega) (by simpa using e2)
      simp only [formB, this, Bool.and_false]
    · apply sub_of <;> simp only [hw3, go_sem, ↓reduceIte, Nat.reduceAdd, Nat.reduceSub, Nat.reduceMul, Nat.reduceEqDiff, Nat.reduceLT, Nat.reduceLeDiff, Int.reduceToNat, Int.reduceLE, Int.reduceLT, Int.reduceEq, Int.reduceNeg, reduceCtorEq] <;> (try simp) <;> (try exact fun j _ => Bd_nth (by simp [BdL, Bd]) j) <;> (try exact bd_setL (by simp [bdAs, BdL, Bd])) <;> (try exact nestF_bd _ _ _ _ _ _ _ _ _)
  · simp only [decide_eq_false_iff_not] at e1
    obtain rfl : i = m := by omega
    simp only [formB, allU_true h3, c1]; rfl
def sumBase : BaseF := fun args => match args with
  | [.agg [.int .i64 x, .int .i64 y, .int .i64 z]] => some (True, .int .i64 (IntKind.i64.wrap (IntKind.i64.wrap (x + y) + z)))
  | _ => none
theorem sum_eq (x : Int) (y : Int) (z : Int) : sumBase [.agg [.int .i64 x, .int .i64 y, .int .i64 z]] = some (True, .int .i64 (IntKind.i64.wrap (IntKind.i64.wrap (x + y) + z))) := rfl
theorem sum_base : Base Try.prog 20 sumBase := by
  intro args p v hq hp
  unfold sumBase at hq
  split at hq
  rotate_left
  · cases hq
  rename_i x y z
  cases hq
  refine base_of (C := cx [] [] [] [] none) (cx_ok trivial trivial) rfl (g := 20) (fn := Try.f20)
    (args' := [.agg [.int .i64 x, .int .i64 y, .int .i64 z]]) (fn_20) rfl 1000 (by simp only [BdL, Bd, and_self, and_true, true_and]) ⟨SameD.rfl' _, trivial⟩ ?_
  simp only [Try.f20, go_sem, ↓reduceIte, Nat.reduceAdd, Nat.reduceSub, Nat.reduceMul, Nat.reduceEqDiff, Nat.reduceLT, Nat.reduceLeDiff, Int.reduceToNat, Int.reduceLE, Int.reduceLT, Int.reduceEq, Int.reduceNeg, reduceCtorEq]
end Go.Eng
end

/- press: plans read, played, checked. -/
section
namespace Go.Eng
open Go Go.RowKit Go.Proofs
set_option maxRecDepth 100000
set_option maxHeartbeats 4000000
attribute [local irreducible] OwnT DefS
/-- The choices of a list. -/
def chT (k : Nat) (w : Nat → Nat → Int) : T3 := ⟨if 0 < k then w 0 0 else 0, if 1 < k then w 1 0 else 0, if 2 < k then w 2 0 else 0⟩
theorem chT_cp {k : Nat} (h : k ≤ 3) (w : Nat → Nat → Int) : cpB (fun i j => .int .i64 (w i j)) 0 k [.int .i64 0, .int .i64 0, .int .i64 0] = [.int .i64 (chT k w).a, .int .i64 (chT k w).b, .int .i64 (chT k w).c] := by
  rcases (by omega : k = 0 ∨ k = 1 ∨ k = 2 ∨ k = 3) with rfl | rfl | rfl | rfl <;> rfl
theorem chT_get {k i : Nat} (h : i < k) (h3 : i < 3) (w : Nat → Nat → Int) : (chT k w).get i = w i 0 := by
  rcases (by omega : i = 0 ∨ i = 1 ∨ i = 2) with rfl | rfl | rfl <;> simp [chT, T3.get, h]
def rdRow (n : Nat) (M : Nat → Nat) (k : Nat) (w : Nat → Nat → Int) : Bool := decide ((k : Int) = (n : Int)) && allU (fun a => in3 (w a 0) 0 (M a)) k
def rdB (n : Nat) (M : Nat → Nat) (m : Nat) (K : Nat → Nat) (W : Nat → Nat → Nat → Int) : Bool := allU (fun i => rdRow n M (K i) (W i)) m
def chF (n : Nat) (W : Nat → Nat → Nat → Int) : Nat → Nat → SV := fun i j => .int .i64 ((chT n (W i)).get j)
def chG (n : Nat) (W : Nat → Nat → Nat → Int) : Nat → Nat → SV := fun i j => nth [.int .i64 (chT n (W i)).a, .int .i64 (chT n (W i)).b, .int .i64 (chT n (W i)).c] j
theorem chG_bd (n : Nat) (W : Nat → Nat → Nat → Int) (L K i j : Nat) : Bd L K (chG n W i j) := Bd_nth (by simp [BdL, Bd]) j
theorem chG_F (n : Nat) (W : Nat → Nat → Nat → Int) (i : Nat) {j : Nat} (hj : j < 3) : chG n W i j = chF n W i j := by
  rcases (by omega : j = 0 ∨ j = 1 ∨ j = 2) with rfl | rfl | rfl <;> rfl
theorem prC7_bd (n : Nat) (A : Nat → Nat → Int) (M : Nat → Nat) (V : Nat → Nat → Nat → Int) (h : Nat) (nd : Nat → Nat → Int) (q : Nat) (pr : Nat → Nat → Int) (st ro pk fr : Int) (L K : Nat) :
    BdL L K [.row n 5 (nestF 0 2 A M V), .row h 1 fun i j => .int .i64 (nd i j), .row q 1 fun i j => .int .i64 (pr i j), .int .i64 st, .int .i64 ro, .int .i64 pk, .int .i64 fr] := by
  simp only [BdL, Bd, and_self, and_true, implies_true]
  exact nestF_bd _ _ _ _ _ _ _ _ _
def readBase : BaseF := fun args => match args with
  | [.rptr sz_1 c_1, .row m sz_B f_B] => (match c_1 0, c_1 1, c_1 2, c_1 3, c_1 4, c_1 5, c_1 6 with | .row n sz_A f_A, .row h sz_nd f_nd, .row q sz_pr f_pr, .int .i64 st, .int .i64 ro, .int .i64 pk, .int .i64 fr => some ((sz_1 = 7) ∧ (sz_A = 5 ∧ NestR n 5 0 2 f_A) ∧ (sz_nd = 1 ∧ IntR h 1 f_nd) ∧ (sz_pr = 1 ∧ IntR q 1 f_pr) ∧ (sz_B = 1 ∧ NestR m 1 0 1 f_B) ∧ (1 ≤ n ∧ n ≤ 3 ∧ m ≤ 1000000 ∧ ∀ i, i < m → (nsM 0 f_B) i ≤ 1000000), .tup [.row (if rdB n (nsM 0 f_A) m (nsM 0 f_B) (nsV 0 f_B) then m else 0) 3 (chF n (nsV 0 f_B)), .bool (rdB n (nsM 0 f_A) m (nsM 0 f_B) (nsV 0 f_B))]) | _, _, _, _, _, _, _ => none)
  | _ => none
theorem read_eq (sz_1 : Nat) (c_1 : Nat → SV) (m : Nat) (sz_B : Nat) (f_B : Nat → Nat → SV) : readBase [.rptr sz_1 c_1, .row m sz_B f_B] = (match c_1 0, c_1 1, c_1 2, c_1 3, c_1 4, c_1 5, c_1 6 with | .row n sz_A f_A, .row h sz_nd f_nd, .row q sz_pr f_pr, .int .i64 st, .int .i64 ro, .int .i64 pk, .int .i64 fr => some ((sz_1 = 7) ∧ (sz_A = 5 ∧ NestR n 5 0 2 f_A) ∧ (sz_nd = 1 ∧ IntR h 1 f_nd) ∧ (sz_pr = 1 ∧ IntR q 1 f_pr) ∧ (sz_B = 1 ∧ NestR m 1 0 1 f_B) ∧ (1 ≤ n ∧ n ≤ 3 ∧ m ≤ 1000000 ∧ ∀ i, i < m → (nsM 0 f_B) i ≤ 1000000), .tup [.row (if rdB n (nsM 0 f_A) m (nsM 0 f_B) (nsV 0 f_B) then m else 0) 3 (chF n (nsV 0 f_B)), .bool (rdB n (nsM 0 f_A) m (nsM 0 f_B) (nsV 0 f_B))]) | _, _, _, _, _, _, _ => none) := rfl
theorem read_base : BaseO Try.prog 43 63 readBase := by
  intro args p v hq hp
  unfold readBase at hq
  split at hq
  rotate_left
  · cases hq
  rename_i sz_1 c_1 m sz_B f_B
  split at hq
  rotate_left
  · cases hq
  rename_i n sz_A f_A h sz_nd f_nd q sz_pr f_pr st ro pk fr h_1_0 h_1_1 h_1_2 h_1_3 h_1_4 h_1_5 h_1_6
  cases hq
  obtain ⟨rfl, ⟨rfl, i_A⟩, ⟨rfl, i_nd⟩, ⟨rfl, i_pr⟩, ⟨rfl, i_B⟩, pre⟩ := hp
  refine baseO_of (C := cx [] [] [(51, withinBase)] [] none) (cx_ok trivial ⟨within_base, trivial⟩) rfl (g := 43) (fn := Try.f43)
    (args' := [.rptr 7 (fun j => nth [.row n 5 (nestF 0 2 (nsA f_A) (nsM 0 f_A) (nsV 0 f_A)), .row h 1 (rowF .i64 (ivf f_nd)), .row q 1 (rowF .i64 (ivf f_pr)), .int .i64 st, .int .i64 ro, .int .i64 pk, .int .i64 fr] j), .row m 1 (nestF 0 1 (nsA f_B) (nsM 0 f_B) (nsV 0 f_B))]) (fn_43) rfl 1000 (by
    simp only [BdL, Bd, and_self, and_true, true_and]
    exact ⟨(fun j hj => by
      have hj : j = 0 ∨ j = 1 ∨ j = 2 ∨ j = 3 ∨ j = 4 ∨ j = 5 ∨ j = 6 := by omega
      rcases hj with rfl | rfl | rfl | rfl | rfl | rfl | rfl
      · rw [h_1_0]; simp only [BdL, Bd, and_self, and_true, true_and]; exact (fun i j hi hj => nest_bd i_A i j hi hj)
      · rw [h_1_1]; simp only [BdL, Bd, and_self, and_true, true_and]; exact (fun i j hi hj => by rw [i_nd i j hi hj]; trivial)
      · rw [h_1_2]; simp only [BdL, Bd, and_self, and_true, true_and]; exact (fun i j hi hj => by rw [i_pr i j hi hj]; trivial)
      · rw [h_1_3]; simp only [BdL, Bd, and_self, and_true, true_and]
      · rw [h_1_4]; simp only [BdL, Bd, and_self, and_true, true_and]
      · rw [h_1_5]; simp only [BdL, Bd, and_self, and_true, true_and]
      · rw [h_1_6]; simp only [BdL, Bd, and_self, and_true, true_and]), (fun i j hi hj => nest_bd i_B i j hi hj)⟩) ⟨SameD.rptr (fun j hj => by
      have hj : j = 0 ∨ j = 1 ∨ j = 2 ∨ j = 3 ∨ j = 4 ∨ j = 5 ∨ j = 6 := by omega
      rcases hj with rfl | rfl | rfl | rfl | rfl | rfl | rfl
      · rw [h_1_0]; exact SameD.nest i_A
      · rw [h_1_1]; exact SameD.int i_nd
      · rw [h_1_2]; exact SameD.int i_pr
      · rw [h_1_3]; exact SameD.rfl' _
      · rw [h_1_4]; exact SameD.rfl' _
      · rw [h_1_5]; exact SameD.rfl' _
      · rw [h_1_6]; exact SameD.rfl' _), SameD.nest i_B, trivial⟩ ?_
  generalize nsA f_A = A at *
  generalize nsM 0 f_A = M at *
  generalize nsV 0 f_A = V at *
  generalize ivf f_nd = nd at *
  generalize ivf f_pr = pr at *
  generalize nsA f_B = B at *
  generalize nsM 0 f_B = K at *
  generalize nsV 0 f_B = W at *
  simp only [rowF_eq]
  simp only [within_eq, nestF_eq, nestR_lit, nsM_lit, nsV_lit, Try.f43, go_sem, ↓reduceIte, Nat.reduceAdd, Nat.reduceSub, Nat.reduceMul, Nat.reduceEqDiff, Nat.reduceLT, Nat.reduceLeDiff, Int.reduceToNat, Int.reduceLE, Int.reduceLT, Int.reduceEq, Int.reduceNeg, reduceCtorEq]
  obtain ⟨pn1, pn, pm, pK⟩ := pre
  refine loop_ofH { i : Nat // i ≤ m ∧ ∀ j, j < i → (fun i => rdRow n M (K i) (W i)) j = true } (fun i => [(14, .int .i64 (i.1 : Int)), (13, .int .i64 (m : Int)), (12, .row m 1 (nestF 0 1 B K W)), (6, .vec 1 i.1), (0, .rptr 7 fun j => nth [.row n 5 (nestF 0 2 A M V), .row h 1 fun i j => .int .i64 (nd i j), .row q 1 fun i j => .int .i64 (pr i j), .int .i64 st, .int .i64 ro, .int .i64 pk, .int .i64 fr] j)])
    (fun h i => ⟨[], [getV h.vecs 0, .live i.1 63 3 i.1 (chG n W)]⟩) (fun i => m - i.1) (fun _ => ⟨rfl, rfl⟩) ⟨0, by omega, by omega⟩ (by (apply sub_of <;> simp only [go_sem, ↓reduceIte, Nat.reduceAdd, Nat.reduceSub, Nat.reduceMul, Nat.reduceEqDiff, Nat.reduceLT, Nat.reduceLeDiff, Int.reduceToNat, Int.reduceLE, Int.reduceLT, Int.reduceEq, Int.reduceNeg, reduceCtorEq] <;> (try simp [catF]) <;> (try exact fun j _ => Bd_nth (by simp [BdL, Bd]) j) <;> (try exact bd_setL (by simp [bdAs, BdL, Bd])) <;> (try exact nestF_bd _ _ _ _ _ _ _ _ _)); exact ⟨fun i _ => nestF_bd1 _ _ _ _ _ _ _ i 0, fun j _ => Bd_nth (prC7_bd n A M V h nd q pr st ro pk fr 0 2) j⟩) ?_
  rintro ⟨i, hi, h3⟩
  simp only [within_eq, nestF_eq, nestR_lit, nsM_lit, nsV_lit, Try.f43, go_sem, ↓reduceIte, Nat.reduceAdd, Nat.reduceSub, Nat.reduceMul, Nat.reduceEqDiff, Nat.reduceLT, Nat.reduceLeDiff, Int.reduceToNat, Int.reduceLE, Int.reduceLT, Int.reduceEq, Int.reduceNeg, reduceCtorEq]
  have hw3 : IntKind.i64.wrap ((i : Int) + 1) = ((i + 1 : Nat) : Int) := by rw [wrap_id (by omega) (by omega)]; omega
  have no : ∀ {X : Prop}, (i < m) → rdRow n M (K i) (W i) = false → ((0 = if rdB n M m K W = true then m else 0) ∧ ∀ (i j : Nat), (i < if rdB n M m K W = true then m else 0) → j < 3 → SV.any = chF n W i j ∧ Sc (chF n W i j)) ∧ [SV.bool false] = [.bool (rdB n M m K W)] := fun h1 h2 => by
    have : rdB n M m K W = false := allU_false (p := fun i => rdRow n M (K i) (W i)) h1 h2
    rw [this]
    exact ⟨⟨rfl, fun _ _ hi => absurd hi (by simp)⟩, rfl⟩
  refine ⟨fun c1 => ⟨⟨by omega, by simpa using c1⟩, fun c2 => ?_, fun c2 => ?_⟩, fun c1 => ?_⟩
  all_goals simp only [decide_eq_true_eq, decide_eq_false_iff_not] at c1
  · simp only [Bool.not_eq_true', decide_eq_false_iff_not] at c2
    exact no (X := True) (by omega) (by simp [rdRow, c2])
  · simp only [Bool.not_eq_false', decide_eq_true_eq] at c2
    have hKn : K i = n := by omega
    refine loop_ofH { a : Nat // a ≤ K i ∧ ∀ j, j < a → (fun a => in3 (W i a 0) 0 (M a)) j = true } (fun a => [(28, .int .i64 (a.1 : Int)), (27, .int .i64 (K i : Int)), (26, .row (K i) 1 fun a b => .int .i64 (W i a b)), (8, .row (K i) 1 fun a b => .int .i64 (W i a b)), (14, .int .i64 (i : Int)), (13, .int .i64 (m : Int)), (12, .row m 1 (nestF 0 1 B K W)), (6, .vec 1 i), (0, .rptr 7 fun j => nth [.row n 5 (nestF 0 2 A M V), .row h 1 fun i j => .int .i64 (nd i j), .row q 1 fun i j => .int .i64 (pr i j), .int .i64 st, .int .i64 ro, .int .i64 pk, .int .i64 fr] j)])
      (fun h _ => h) (fun a => K i - a.1) (fun _ => ⟨rfl, rfl⟩) ⟨0, by omega, by omega⟩ (by (apply sub_of <;> simp only [go_sem, ↓reduceIte, Nat.reduceAdd, Nat.reduceSub, Nat.reduceMul, Nat.reduceEqDiff, Nat.reduceLT, Nat.reduceLeDiff, Int.reduceToNat, Int.reduceLE, Int.reduceLT, Int.reduceEq, Int.reduceNeg, reduceCtorEq] <;> (try simp [catF]) <;> (try exact fun j _ => Bd_nth (by simp [BdL, Bd]) j) <;> (try exact bd_setL (by simp [bdAs, BdL, Bd])) <;> (try exact nestF_bd _ _ _ _ _ _ _ _ _)); all_goals first | exact ⟨fun i _ => nestF_bd1 _ _ _ _ _ _ _ i 0, fun j _ => Bd_nth (prC7_bd n A M V h nd q pr st ro pk fr 0 2) j⟩ | exact fun _ _ _ _ => chG_bd _ _ _ _ _ _) ?_
    rintro ⟨a, ha, h4⟩
    have hcp := chT_cp (k := n) (by omega)
    have hmn : min n 3 = n := by omega
    have hw4 : IntKind.i64.wrap ((a : Int) + 1) = ((a + 1 : Nat) : Int) := by rw [wrap_id (by omega) (by omega)]; omega
    simp only [hKn, hmn, hcp, within_eq, nestF_eq, nestR_lit, nsM_lit, nsV_lit, Try.f43, go_sem, ↓reduceIte, Nat.reduceAdd, Nat.reduceSub, Nat.reduceMul, Nat.reduceEqDiff, Nat.reduceLT, Nat.reduceLeDiff, Int.reduceToNat, Int.reduceLE, Int.reduceLT, Int.reduceEq, Int.reduceNeg, reduceCtorEq]
    refine ⟨fun c3 => ⟨⟨by omega, by simpa using c3⟩, ⟨by omega, by simpa using c3⟩, fun c4 => ?_, fun c4 => ?_⟩, fun c3 => ?_⟩
    all_goals simp only [decide_eq_true_eq, decide_eq_false_iff_not] at c3
    · refine no (X := True) (by omega) ?_
      simp only [rdRow]
      rw [allU_false (p := fun a => in3 (W i a 0) 0 (M a)) (i := a) (by omega) (by simpa only [Bool.not_eq_true'] using c4)]
      simp
    · refine ⟨⟨a + 1, by omega, below h4 (by simpa only [Bool.not_eq_false'] using c4)⟩, by simp only []; omega, ?_⟩
      apply sub_of <;> simp only [hw4, go_sem, ↓reduceIte, Nat.reduceAdd, Nat.reduceSub, Nat.reduceMul, Nat.reduceEqDiff, Nat.reduceLT, Nat.reduceLeDiff, Int.reduceToNat, Int.reduceLE, Int.reduceLT, Int.reduceEq, Int.reduceNeg, reduceCtorEq] <;> (try simp) <;> (try exact fun j _ => Bd_nth (by simp [BdL, Bd]) j) <;> (try exact bd_setL (by simp [bdAs, BdL, Bd])) <;> (try exact nestF_bd _ _ _ _ _ _ _ _ _)
      all_goals first | exact ⟨fun i _ => nestF_bd1 _ _ _ _ _ _ _ i 0, fun j _ => Bd_nth (prC7_bd n A M V h nd q pr st ro pk fr 0 2) j⟩ | exact fun _ _ _ _ => chG_bd _ _ _ _ _ _
    · obtain rfl : a = K i := by omega
      have hrow : rdRow n M (K i) (W i) = true := by simp only [rdRow, allU_true h4, c2, decide_true, Bool.true_and]
      refine ⟨⟨by omega, by omega⟩, by omega, ⟨by omega, by omega⟩, ⟨i + 1, by omega, below h3 hrow⟩, by simp only []; omega, ?_⟩
      have hcat : ∀ x j, catF i (chG n W) (oneF [.int .i64 (chT n (W i)).a, .int .i64 (chT n (W i)).b, .int .i64 (chT n (W i)).c]) x j = if x < i + 1 then chG n W x j else nth [.int .i64 (chT n (W i)).a, .int .i64 (chT n (W i)).b, .int .i64 (chT n (W i)).c] j := fun x j => by
        rcases Nat.lt_trichotomy x i with h1 | rfl | h1
        · rw [if_pos (by omega)]; simp only [catF, if_pos h1]
        · rw [if_pos (by omega)]; simp only [catF, if_neg (Nat.lt_irrefl _), oneF, chG]
        · rw [if_neg (by omega)]; simp only [catF, if_neg (show ¬ x < i by omega), oneF]
      apply sub_of <;> simp only [hw3, go_sem, ↓reduceIte, Nat.reduceAdd, Nat.reduceSub, Nat.reduceMul, Nat.reduceEqDiff, Nat.reduceLT, Nat.reduceLeDiff, Int.reduceToNat, Int.reduceLE, Int.reduceLT, Int.reduceEq, Int.reduceNeg, reduceCtorEq] <;> (try simp)
      all_goals first | exact ⟨fun i _ => nestF_bd1 _ _ _ _ _ _ _ i 0, fun j _ => Bd_nth (prC7_bd n A M V h nd q pr st ro pk fr 0 2) j⟩ | exact fun _ _ _ _ => chG_bd _ _ _ _ _ _ | exact fun x j hx _ => by rw [hcat, if_pos hx]
  · obtain rfl : i = m := by omega
    have : rdB n M i K W = true := allU_true h3
    simp only [this, if_true]
    exact ⟨⟨trivial, fun a j ha hj => ⟨chG_F n W a hj, trivial⟩⟩, trivial⟩
end Go.Eng
end

/- press: plans played. -/
section
namespace Go.Eng
open Go Go.RowKit Go.Proofs
set_option maxRecDepth 100000
set_option maxHeartbeats 4000000
attribute [local irreducible] OwnT DefS
/-- Hours of a plan: the first error and its hour, or what is then and what was paid. -/
structure PL where
  (e : Int) (hr : Nat) (s : PS) (en st : Int)
def plStep (D : PD) (c : T3) (r : PL) : PL :=
  if r.e = 0 then (if (hourP D r.s r.hr c).e = 0 then ⟨0, r.hr + 1, (hourP D r.s r.hr c).s, r.en + (hourP D r.s r.hr c).en, r.st + (hourP D r.s r.hr c).sta⟩ else ⟨(hourP D r.s r.hr c).e, r.hr, ⟨⟨0, 0, 0⟩, 0, 0⟩, 0, 0⟩) else r
def plM (D : PD) (C : Nat → T3) : Nat → PL
  | 0 => ⟨0, 0, begP D, 0, 0⟩
  | k + 1 => plStep D (C k) (plM D C k)
theorem plM_hr {D : PD} {C : Nat → T3} : ∀ k, (plM D C k).e = 0 → (plM D C k).hr = k
  | 0, _ => rfl
  | k + 1, h => by
    simp only [plM, plStep] at h ⊢
    split at h
    · rename_i h0
      have ih := plM_hr k h0
      split at h
      · rename_i h1; rw [if_pos h0, if_pos h1, ih]
      · rename_i h1; exact absurd h h1
    · rename_i h0; exact absurd h h0
theorem plM_stop {D : PD} {C : Nat → T3} {k : Nat} (h : (plM D C k).e ≠ 0) : ∀ m, k ≤ m → plM D C m = plM D C k := by
  intro m hm
  induction m with
  | zero => obtain rfl : k = 0 := by omega
            rfl
  | succ m ih =>
    rcases Nat.lt_or_ge m k with h1 | h1
    · obtain rfl : k = m + 1 := by omega
      rfl
    · simp only [plM, plStep, ih h1, if_neg h]
theorem plM_ok {D : PD} (hD : D.Ok) {C : Nat → T3} : ∀ k, k ≤ D.h → (∀ i, i < k → chOk D (C i)) → (plM D C k).e = 0 → stOk D (plM D C k).s ∧ (0 ≤ (plM D C k).en ∧ (plM D C k).en ≤ k * 30000000) ∧ (0 ≤ (plM D C k).st ∧ (plM D C k).st ≤ k * 30000)
  | 0, _, _, _ => ⟨begP_ok hD, by simp [plM], by simp [plM]⟩
  | k + 1, hk, hc, h => by
    simp only [plM, plStep] at h ⊢
    split at h
    · rename_i h0
      have hh := plM_hr k h0
      obtain ⟨g1, g2, g3⟩ := plM_ok hD k (by omega) (fun i hi => hc i (by omega)) h0
      split at h
      · rename_i h1
        rw [if_pos h0, if_pos h1]
        rw [hh] at h1 ⊢
        obtain ⟨q1, q2, q3⟩ := hourP_ok hD g1 (hc k (by omega)) (by omega) h1
        exact ⟨q1, by simp only []; omega, by simp only []; omega⟩
      · rename_i h1; exact absurd h h1
    · rename_i h0; exact absurd h h0
/-- What is told of it. -/
def plO (D : PD) (r : PL) : SV := if r.e = 0 then .tup [psS r.s, .agg [.int .i64 r.en, .int .i64 r.st, .int .i64 (r.s.pk * D.pk)], .int .i64 (r.hr : Int), .int .i64 0] else .tup [psS ⟨⟨0, 0, 0⟩, 0, 0⟩, .agg [.int .i64 0, .int .i64 0, .int .i64 0], .int .i64 (r.hr : Int), .int .i64 r.e]
def playBase : BaseF := fun args => match args with
  | [.rptr sz_1 c_1, .row m sz_c f_c] => (match c_1 0, c_1 1, c_1 2, c_1 3, c_1 4, c_1 5, c_1 6 with | .row n sz_A f_A, .row h sz_nd f_nd, .row q sz_pr f_pr, .int .i64 st, .int .i64 ro, .int .i64 pk, .int .i64 fr => some ((sz_1 = 7) ∧ (sz_A = 5 ∧ NestR n 5 0 2 f_A) ∧ (sz_nd = 1 ∧ IntR h 1 f_nd) ∧ (sz_pr = 1 ∧ IntR q 1 f_pr) ∧ (sz_c = 3 ∧ IntR m 3 f_c) ∧ (q = h ∧ PD.Ok ⟨n, (nsA f_A), (nsM 0 f_A), (nsV 0 f_A), h, (ivf f_nd), (ivf f_pr), st, ro, pk, fr⟩ ∧ m ≤ h ∧ ∀ i, i < m → chOk ⟨n, (nsA f_A), (nsM 0 f_A), (nsV 0 f_A), h, (ivf f_nd), (ivf f_pr), st, ro, pk, fr⟩ ⟨(ivf f_c) i 0, (ivf f_c) i 1, (ivf f_c) i 2⟩), plO ⟨n, (nsA f_A), (nsM 0 f_A), (nsV 0 f_A), h, (ivf f_nd), (ivf f_pr), st, ro, pk, fr⟩ (plM ⟨n, (nsA f_A), (nsM 0 f_A), (nsV 0 f_A), h, (ivf f_nd), (ivf f_pr), st, ro, pk, fr⟩ (fun i => ⟨(ivf f_c) i 0, (ivf f_c) i 1, (ivf f_c) i 2⟩) m)) | _, _, _, _, _, _, _ => none)
  | _ => none
theorem play_eq (sz_1 : Nat) (c_1 : Nat → SV) (m : Nat) (sz_c : Nat) (f_c : Nat → Nat → SV) : playBase [.rptr sz_1 c_1, .row m sz_c f_c] = (match c_1 0, c_1 1, c_1 2, c_1 3, c_1 4, c_1 5, c_1 6 with | .row n sz_A f_A, .row h sz_nd f_nd, .row q sz_pr f_pr, .int .i64 st, .int .i64 ro, .int .i64 pk, .int .i64 fr => some ((sz_1 = 7) ∧ (sz_A = 5 ∧ NestR n 5 0 2 f_A) ∧ (sz_nd = 1 ∧ IntR h 1 f_nd) ∧ (sz_pr = 1 ∧ IntR q 1 f_pr) ∧ (sz_c = 3 ∧ IntR m 3 f_c) ∧ (q = h ∧ PD.Ok ⟨n, (nsA f_A), (nsM 0 f_A), (nsV 0 f_A), h, (ivf f_nd), (ivf f_pr), st, ro, pk, fr⟩ ∧ m ≤ h ∧ ∀ i, i < m → chOk ⟨n, (nsA f_A), (nsM 0 f_A), (nsV 0 f_A), h, (ivf f_nd), (ivf f_pr), st, ro, pk, fr⟩ ⟨(ivf f_c) i 0, (ivf f_c) i 1, (ivf f_c) i 2⟩), plO ⟨n, (nsA f_A), (nsM 0 f_A), (nsV 0 f_A), h, (ivf f_nd), (ivf f_pr), st, ro, pk, fr⟩ (plM ⟨n, (nsA f_A), (nsM 0 f_A), (nsV 0 f_A), h, (ivf f_nd), (ivf f_pr), st, ro, pk, fr⟩ (fun i => ⟨(ivf f_c) i 0, (ivf f_c) i 1, (ivf f_c) i 2⟩) m)) | _, _, _, _, _, _, _ => none) := rfl
theorem play_base : Base Try.prog 44 playBase := by
  intro args p v hq hp
  unfold playBase at hq
  split at hq
  rotate_left
  · cases hq
  rename_i sz_1 c_1 m sz_c f_c
  split at hq
  rotate_left
  · cases hq
  rename_i n sz_A f_A h sz_nd f_nd q sz_pr f_pr st ro pk fr h_1_0 h_1_1 h_1_2 h_1_3 h_1_4 h_1_5 h_1_6
  cases hq
  obtain ⟨rfl, ⟨rfl, i_A⟩, ⟨rfl, i_nd⟩, ⟨rfl, i_pr⟩, ⟨rfl, i_c⟩, pre⟩ := hp
  refine base_of (C := cx [] [] [(34, triedBase), (35, beginBase)] [(44, 12, p44_12), (44, 13, p44_13)] none) (cx_ok trivial ⟨tried_base, begin_base, trivial⟩) rfl (g := 44) (fn := Try.f44)
    (args' := [.rptr 7 (fun j => nth [.row n 5 (nestF 0 2 (nsA f_A) (nsM 0 f_A) (nsV 0 f_A)), .row h 1 (rowF .i64 (ivf f_nd)), .row q 1 (rowF .i64 (ivf f_pr)), .int .i64 st, .int .i64 ro, .int .i64 pk, .int .i64 fr] j), .row m 3 (rowF .i64 (ivf f_c))]) (fn_44) rfl 1000 (by
    simp only [BdL, Bd, and_self, and_true, true_and]
    exact ⟨(fun j hj => by
      have hj : j = 0 ∨ j = 1 ∨ j = 2 ∨ j = 3 ∨ j = 4 ∨ j = 5 ∨ j = 6 := by omega
      rcases hj with rfl | rfl | rfl | rfl | rfl | rfl | rfl
      · rw [h_1_0]; simp only [BdL, Bd, and_self, and_true, true_and]; exact (fun i j hi hj => nest_bd i_A i j hi hj)
      · rw [h_1_1]; simp only [BdL, Bd, and_self, and_true, true_and]; exact (fun i j hi hj => by rw [i_nd i j hi hj]; trivial)
      · rw [h_1_2]; simp only [BdL, Bd, and_self, and_true, true_and]; exact (fun i j hi hj => by rw [i_pr i j hi hj]; trivial)
      · rw [h_1_3]; simp only [BdL, Bd, and_self, and_true, true_and]
      · rw [h_1_4]; simp only [BdL, Bd, and_self, and_true, true_and]
      · rw [h_1_5]; simp only [BdL, Bd, and_self, and_true, true_and]
      · rw [h_1_6]; simp only [BdL, Bd, and_self, and_true, true_and]), (fun i j hi hj => by rw [i_c i j hi hj]; trivial)⟩) ⟨SameD.rptr (fun j hj => by
      have hj : j = 0 ∨ j = 1 ∨ j = 2 ∨ j = 3 ∨ j = 4 ∨ j = 5 ∨ j = 6 := by omega
      rcases hj with rfl | rfl | rfl | rfl | rfl | rfl | rfl
      · rw [h_1_0]; exact SameD.nest i_A
      · rw [h_1_1]; exact SameD.int i_nd
      · rw [h_1_2]; exact SameD.int i_pr
      · rw [h_1_3]; exact SameD.rfl' _
      · rw [h_1_4]; exact SameD.rfl' _
      · rw [h_1_5]; exact SameD.rfl' _
      · rw [h_1_6]; exact SameD.rfl' _), SameD.int i_c, trivial⟩ ?_
  generalize nsA f_A = A at *
  generalize nsM 0 f_A = M at *
  generalize nsV 0 f_A = V at *
  generalize ivf f_nd = nd at *
  generalize ivf f_pr = pr at *
  generalize ivf f_c = c at *
  simp only [rowF_eq]
  simp only [tried_eq, begin_eq, p44_12, p44_13, nestF_eq, nestR_lit, nsM_lit, nsV_lit, onI_ns, psB_ns, hourP_ns, Ok_ns, psS, hrS, Try.f44, go_sem, ↓reduceIte, Nat.reduceAdd, Nat.reduceSub, Nat.reduceMul, Nat.reduceEqDiff, Nat.reduceLT, Nat.reduceLeDiff, Int.reduceToNat, Int.reduceLE, Int.reduceLT, Int.reduceEq, Int.reduceNeg, reduceCtorEq]
  obtain ⟨rfl, hOk, hm, hc⟩ := pre
  generalize hD : (⟨n, A, M, V, q, nd, pr, st, ro, pk, fr⟩ : PD) = D at hOk hc
  have d0 : n = D.n := by rw [← hD]
  have d1 : A = D.A := by rw [← hD]
  have d2 : M = D.M := by rw [← hD]
  have d3 : V = D.V := by rw [← hD]
  have d4 : q = D.h := by rw [← hD]
  have d5 : nd = D.nd := by rw [← hD]
  have d6 : pr = D.pr := by rw [← hD]
  have d7 : st = D.st := by rw [← hD]
  have d8 : ro = D.ro := by rw [← hD]
  have d9 : pk = D.pk := by rw [← hD]
  have d10 : fr = D.fr := by rw [← hD]
  clear hD
  subst d0 d1 d2 d3 d4 d5 d6 d7 d8 d9 d10
  have hn := hOk.n
  have hh := hOk.h
  have hpk := hOk.pk
  generalize hC : (fun i => (⟨c i 0, c i 1, c i 2⟩ : T3)) = C
  have hCi : ∀ i, (⟨c i 0, c i 1, c i 2⟩ : T3) = C i := fun i => by rw [← hC]
  simp only [hCi] at hc
  refine ⟨by omega, ?_⟩
  refine loop_ofH { i : Nat // i ≤ m ∧ (plM D C i).e = 0 } (fun i => [(18, .int .i64 (i.1 : Int)), (17, .int .i64 (m : Int)), (16, .row m 3 fun i j => .int .i64 (c i j)), (5, .ptr 1 0), (4, .ptr 0 0), (1, .row m 3 fun i j => .int .i64 (c i j)), (0, .rptr 7 fun j => nth (prC D) j)])
    (fun h i => ⟨[.live 65 [.int .i64 (plM D C i.1).s.on.a, .int .i64 (plM D C i.1).s.on.b, .int .i64 (plM D C i.1).s.on.c, .int .i64 (plM D C i.1).s.sto, .int .i64 (plM D C i.1).s.pk], .live 38 [.int .i64 (plM D C i.1).en, .int .i64 (plM D C i.1).st, .int .i64 0]], h.vecs⟩) (fun i => m - i.1) (fun _ => ⟨rfl, rfl⟩) ⟨0, Nat.zero_le _, rfl⟩ (by simp only [prC, plM, begP]; (apply sub_of <;> simp only [go_sem, ↓reduceIte, Nat.reduceAdd, Nat.reduceSub, Nat.reduceMul, Nat.reduceEqDiff, Nat.reduceLT, Nat.reduceLeDiff, Int.reduceToNat, Int.reduceLE, Int.reduceLT, Int.reduceEq, Int.reduceNeg, reduceCtorEq] <;> (try simp [catF])); all_goals first | exact nestF_bd _ _ _ _ _ _ _ _ _ | exact prC_bds D _ _ | exact fun j _ => Bd_nth (prC_bd D _ _) j) ?_
  rintro ⟨i, hi, h3⟩
  have hhr := plM_hr i h3
  obtain ⟨p1, p2, p3⟩ := plM_ok hOk i (by omega) (fun a ha => hc a (by omega)) h3
  have hw3 : IntKind.i64.wrap ((i : Int) + 1) = ((i + 1 : Nat) : Int) := by rw [wrap_id (by omega) (by omega)]; omega
  simp only [prC, tried_eq, begin_eq, p44_12, p44_13, nestF_eq, nestR_lit, nsM_lit, nsV_lit, onI_ns, psB_ns, hourP_ns, Ok_ns, psS, hrS, Try.f44, go_sem, ↓reduceIte, Nat.reduceAdd, Nat.reduceSub, Nat.reduceMul, Nat.reduceEqDiff, Nat.reduceLT, Nat.reduceLeDiff, Int.reduceToNat, Int.reduceLE, Int.reduceLT, Int.reduceEq, Int.reduceNeg, reduceCtorEq]
  rw [hCi i]
  generalize hR : hourP _ _ _ _ = R
  have hR : hourP D (plM D C i).s i (C i) = R := hR
  refine ⟨fun e1 => ?_, fun e1 => ?_⟩
  all_goals simp only [decide_eq_true_eq, decide_eq_false_iff_not] at e1
  · have hci := hc i (by omega)
    refine ⟨⟨by omega, by omega⟩, ⟨hOk, p1, hci, by omega, by omega⟩, fun e2 => ?_, fun e2 => ?_⟩
    all_goals simp only [Bool.not_eq_true', Bool.not_eq_false', decide_eq_true_eq, decide_eq_false_iff_not] at e2
    · have hs : plM D C (i + 1) = ⟨R.e, i, ⟨⟨0, 0, 0⟩, 0, 0⟩, 0, 0⟩ := by
        simp only [plM, plStep, if_pos h3, hhr, hR, if_neg e2]
      rw [plM_stop (k := i + 1) (by rw [hs]; exact e2) m (by omega), hs]
      simp only [plO, if_neg e2, psS]
    · have hk := hourP_ok hOk p1 hci (hr := i) (by omega) (by rw [hR]; exact e2)
      rw [hR] at hk
      obtain ⟨k1, k2, k3⟩ := hk
      have hs : plM D C (i + 1) = ⟨0, i + 1, R.s, (plM D C i).en + R.en, (plM D C i).st + R.sta⟩ := by
        simp only [plM, plStep, if_pos h3, hhr, hR, if_pos e2]
      have w1 : IntKind.i64.wrap ((plM D C i).en + R.en) = (plM D C i).en + R.en := wrap_id (by omega) (by omega)
      have w2 : IntKind.i64.wrap ((plM D C i).st + R.sta) = (plM D C i).st + R.sta := wrap_id (by omega) (by omega)
      refine ⟨⟨i + 1, by omega, by rw [hs]⟩, by simp only []; omega, ?_⟩
      apply sub_of <;> simp only [hw3, w1, w2, hs, go_sem, ↓reduceIte, Nat.reduceAdd, Nat.reduceSub, Nat.reduceMul, Nat.reduceEqDiff, Nat.reduceLT, Nat.reduceLeDiff, Int.reduceToNat, Int.reduceLE, Int.reduceLT, Int.reduceEq, Int.reduceNeg, reduceCtorEq] <;> (try simp)
      all_goals first | exact nestF_bd _ _ _ _ _ _ _ _ _ | exact prC_bds D _ _ | exact fun j _ => Bd_nth (prC_bd D _ _) j
  · obtain rfl : i = m := by omega
    have q1 := mulB (x := (plM D C i).s.pk) (y := D.pk) (m := 3000) (k := 10000) p1.2.2 hpk
    have w1 : IntKind.i64.wrap ((plM D C i).s.pk * D.pk) = (plM D C i).s.pk * D.pk := wrap_id (by omega) (by omega)
    rw [w1]
    simp only [plO, if_pos h3, hhr, psS]
    exact ⟨⟨by kernel_rfl, by kernel_rfl⟩, ⟨by kernel_rfl, by kernel_rfl⟩, trivial⟩
end Go.Eng
end

/- press: the first cells of compressors do not count. -/
section
namespace Go.Eng
open Go Go.RowKit Go.Proofs
set_option maxRecDepth 100000
set_option maxHeartbeats 4000000
attribute [local irreducible] OwnT DefS
section
variable {n : Nat} {A : Nat → Nat → Int} {M : Nat → Nat} {V : Nat → Nat → Nat → Int} {h : Nat} {nd pr : Nat → Nat → Int} {st ro pk fr : Int}
theorem begP_ns : begP ⟨n, nsA (nestF 0 2 A M V), M, V, h, nd, pr, st, ro, pk, fr⟩ = begP ⟨n, A, M, V, h, nd, pr, st, ro, pk, fr⟩ := by
  simp only [begP, onI_ns]
theorem plM_ns (C : Nat → T3) : ∀ k, plM ⟨n, nsA (nestF 0 2 A M V), M, V, h, nd, pr, st, ro, pk, fr⟩ C k = plM ⟨n, A, M, V, h, nd, pr, st, ro, pk, fr⟩ C k
  | 0 => by simp only [plM, begP_ns]
  | k + 1 => by simp only [plM, plStep, plM_ns C k, hourP_ns]
theorem plO_ns (r : PL) : plO ⟨n, nsA (nestF 0 2 A M V), M, V, h, nd, pr, st, ro, pk, fr⟩ r = plO ⟨n, A, M, V, h, nd, pr, st, ro, pk, fr⟩ r := rfl
theorem pickM_ns (f : T3 → Option Int) : ∀ k, pickM ⟨n, nsA (nestF 0 2 A M V), M, V, h, nd, pr, st, ro, pk, fr⟩ f k = pickM ⟨n, A, M, V, h, nd, pr, st, ro, pk, fr⟩ f k
  | 0 => rfl
  | k + 1 => by
    have e : dig ⟨n, nsA (nestF 0 2 A M V), M, V, h, nd, pr, st, ro, pk, fr⟩ k = dig ⟨n, A, M, V, h, nd, pr, st, ro, pk, fr⟩ k := rfl
    simp only [pickM, pickM_ns f k, e]
theorem bestM_ns : ∀ (k : Nat) (s : PS), bestM ⟨n, nsA (nestF 0 2 A M V), M, V, h, nd, pr, st, ro, pk, fr⟩ k s = bestM ⟨n, A, M, V, h, nd, pr, st, ro, pk, fr⟩ k s
  | 0, s => rfl
  | k + 1, s => by
    have ih : bestM ⟨n, nsA (nestF 0 2 A M V), M, V, h, nd, pr, st, ro, pk, fr⟩ k = bestM ⟨n, A, M, V, h, nd, pr, st, ro, pk, fr⟩ k := funext fun s => bestM_ns k s
    have e : tot ⟨n, nsA (nestF 0 2 A M V), M, V, h, nd, pr, st, ro, pk, fr⟩ = tot ⟨n, A, M, V, h, nd, pr, st, ro, pk, fr⟩ := rfl
    have hc : ∀ (rest : PS → Option (Int × T3)) (i : Nat), candM ⟨n, nsA (nestF 0 2 A M V), M, V, h, nd, pr, st, ro, pk, fr⟩ rest s i = candM ⟨n, A, M, V, h, nd, pr, st, ro, pk, fr⟩ rest s i := fun rest i => by
      funext c
      simp only [candM, hourP_ns]
    simp only [bestM, ih, e, pickM_ns, hc]
theorem sAt_ns : ∀ i, sAt ⟨n, nsA (nestF 0 2 A M V), M, V, h, nd, pr, st, ro, pk, fr⟩ i = sAt ⟨n, A, M, V, h, nd, pr, st, ro, pk, fr⟩ i
  | 0 => begP_ns
  | i + 1 => by simp only [sAt, sAt_ns i, hourP_ns, bestM_ns]
theorem cAt_ns : cAt ⟨n, nsA (nestF 0 2 A M V), M, V, h, nd, pr, st, ro, pk, fr⟩ = cAt ⟨n, A, M, V, h, nd, pr, st, ro, pk, fr⟩ := by
  funext i
  simp only [cAt, sAt_ns, bestM_ns]
theorem chE_ns (b : Bool) : chE b ⟨n, nsA (nestF 0 2 A M V), M, V, h, nd, pr, st, ro, pk, fr⟩ = chE b ⟨n, A, M, V, h, nd, pr, st, ro, pk, fr⟩ := by
  simp only [chE, bestM_ns, begP_ns]
theorem chC_ns (b : Bool) : chC b ⟨n, nsA (nestF 0 2 A M V), M, V, h, nd, pr, st, ro, pk, fr⟩ = chC b ⟨n, A, M, V, h, nd, pr, st, ro, pk, fr⟩ := by
  simp only [chC, chE_ns, bestM_ns, begP_ns]
theorem chN_ns (b : Bool) : chN b ⟨n, nsA (nestF 0 2 A M V), M, V, h, nd, pr, st, ro, pk, fr⟩ = chN b ⟨n, A, M, V, h, nd, pr, st, ro, pk, fr⟩ := by
  simp only [chN, chE_ns]
end
def plBad (e : Int) : PL := ⟨e, 0, ⟨⟨0, 0, 0⟩, 0, 0⟩, 0, 0⟩
def ckR (D : PD) (b : Bool) (m : Nat) (K : Nat → Nat) (W : Nat → Nat → Nat → Int) : PL :=
  if b then (if (rdB D.n D.M m K W && decide ((m : Int) = (D.h : Int))) = true then plM D (fun i => chT D.n (W i)) m else plBad 2) else plBad 1
theorem plM_bad {D : PD} {C : Nat → T3} : ∀ k, (plM D C k).e ≠ 0 → (plM D C k).s = ⟨⟨0, 0, 0⟩, 0, 0⟩ ∧ (plM D C k).en = 0 ∧ (plM D C k).st = 0
  | 0, h => absurd rfl h
  | k + 1, h => by
    simp only [plM, plStep] at h ⊢
    split at h
    · rename_i h0
      rw [if_pos h0]
      split at h
      · exact absurd rfl h
      · rename_i h1
        rw [if_neg h1]
        exact ⟨rfl, rfl, rfl⟩
    · rename_i h0
      rw [if_neg h0]
      exact plM_bad k h0
section
variable {n : Nat} {A : Nat → Nat → Int} {M : Nat → Nat} {V : Nat → Nat → Nat → Int} {h : Nat} {nd pr : Nat → Nat → Int} {st ro pk fr : Int}
theorem ckR_ns (b : Bool) (m : Nat) (K : Nat → Nat) (W : Nat → Nat → Nat → Int) : ckR ⟨n, nsA (nestF 0 2 A M V), M, V, h, nd, pr, st, ro, pk, fr⟩ b m K W = ckR ⟨n, A, M, V, h, nd, pr, st, ro, pk, fr⟩ b m K W := by
  simp only [ckR, plM_ns]
end
end Go.Eng
end

/- press: plans checked. -/
section
namespace Go.Eng
open Go Go.RowKit Go.Proofs
set_option maxRecDepth 100000
set_option maxHeartbeats 4000000
attribute [local irreducible] OwnT DefS
theorem rdB_ok {n : Nat} {M : Nat → Nat} {m : Nat} {K : Nat → Nat} {W : Nat → Nat → Nat → Int} (h : rdB n M m K W = true) {i : Nat} (hi : i < m) : K i = n ∧ ∀ a, a < n → 0 ≤ W i a 0 ∧ W i a 0 ≤ M a := by
  have := allU_iff.1 h i hi
  simp only [rdRow, Bool.and_eq_true, decide_eq_true_eq, allU_iff, in3_iff] at this
  obtain ⟨h1, h2⟩ := this
  exact ⟨by omega, fun a ha => h2 a (by omega)⟩
theorem chT_ok {D : PD} (hD : D.Ok) {m : Nat} {K : Nat → Nat} {W : Nat → Nat → Nat → Int} (h : rdB D.n D.M m K W = true) {i : Nat} (hi : i < m) : chOk D (chT D.n (W i)) := by
  obtain ⟨h1, h2⟩ := rdB_ok h hi
  intro a ha
  have hn := hD.n
  rw [chT_get ha (by omega)]
  exact h2 a ha
theorem chT_eta (n : Nat) (w : Nat → Nat → Int) : (⟨(chT n w).get 0, (chT n w).get 1, (chT n w).get 2⟩ : T3) = chT n w := rfl
theorem ifAgg (p : Prop) [Decidable p] (a b : List SV) : (if p then SV.agg a else .agg b) = .agg (if p then a else b) := by split <;> rfl
def checkBase : BaseF := fun args => match args with
  | [.agg [.row n sz_A f_A, .row h sz_nd f_nd, .row q sz_pr f_pr, .int .i64 st, .int .i64 ro, .int .i64 pk, .int .i64 fr], .row m sz_B f_B] => some ((sz_A = 5 ∧ NestR n 5 0 2 f_A) ∧ (sz_nd = 1 ∧ IntR h 1 f_nd) ∧ (sz_pr = 1 ∧ IntR q 1 f_pr) ∧ (sz_B = 1 ∧ NestR m 1 0 1 f_B) ∧ (((n ≤ 1000000 ∧ ∀ i, i < n → (nsM 0 f_A) i ≤ 1000000) ∧ h ≤ 1000000 ∧ q ≤ 1000000) ∧ m ≤ 1000000 ∧ ∀ i, i < m → (nsM 0 f_B) i ≤ 1000000), .tup [.agg [.int .i64 (ckR ⟨n, (nsA f_A), (nsM 0 f_A), (nsV 0 f_A), h, (ivf f_nd), (ivf f_pr), st, ro, pk, fr⟩ (psB n (nsA f_A) (nsM 0 f_A) (nsV 0 f_A) h (ivf f_nd) q (ivf f_pr) st ro pk fr) m (nsM 0 f_B) (nsV 0 f_B)).en, .int .i64 (ckR ⟨n, (nsA f_A), (nsM 0 f_A), (nsV 0 f_A), h, (ivf f_nd), (ivf f_pr), st, ro, pk, fr⟩ (psB n (nsA f_A) (nsM 0 f_A) (nsV 0 f_A) h (ivf f_nd) q (ivf f_pr) st ro pk fr) m (nsM 0 f_B) (nsV 0 f_B)).st, .int .i64 ((ckR ⟨n, (nsA f_A), (nsM 0 f_A), (nsV 0 f_A), h, (ivf f_nd), (ivf f_pr), st, ro, pk, fr⟩ (psB n (nsA f_A) (nsM 0 f_A) (nsV 0 f_A) h (ivf f_nd) q (ivf f_pr) st ro pk fr) m (nsM 0 f_B) (nsV 0 f_B)).s.pk * pk)], .int .i64 ((ckR ⟨n, (nsA f_A), (nsM 0 f_A), (nsV 0 f_A), h, (ivf f_nd), (ivf f_pr), st, ro, pk, fr⟩ (psB n (nsA f_A) (nsM 0 f_A) (nsV 0 f_A) h (ivf f_nd) q (ivf f_pr) st ro pk fr) m (nsM 0 f_B) (nsV 0 f_B)).hr : Int), .int .i64 (ckR ⟨n, (nsA f_A), (nsM 0 f_A), (nsV 0 f_A), h, (ivf f_nd), (ivf f_pr), st, ro, pk, fr⟩ (psB n (nsA f_A) (nsM 0 f_A) (nsV 0 f_A) h (ivf f_nd) q (ivf f_pr) st ro pk fr) m (nsM 0 f_B) (nsV 0 f_B)).e])
  | _ => none
theorem check_eq (n : Nat) (sz_A : Nat) (f_A : Nat → Nat → SV) (h : Nat) (sz_nd : Nat) (f_nd : Nat → Nat → SV) (q : Nat) (sz_pr : Nat) (f_pr : Nat → Nat → SV) (st : Int) (ro : Int) (pk : Int) (fr : Int) (m : Nat) (sz_B : Nat) (f_B : Nat → Nat → SV) : checkBase [.agg [.row n sz_A f_A, .row h sz_nd f_nd, .row q sz_pr f_pr, .int .i64 st, .int .i64 ro, .int .i64 pk, .int .i64 fr], .row m sz_B f_B] = some ((sz_A = 5 ∧ NestR n 5 0 2 f_A) ∧ (sz_nd = 1 ∧ IntR h 1 f_nd) ∧ (sz_pr = 1 ∧ IntR q 1 f_pr) ∧ (sz_B = 1 ∧ NestR m 1 0 1 f_B) ∧ (((n ≤ 1000000 ∧ ∀ i, i < n → (nsM 0 f_A) i ≤ 1000000) ∧ h ≤ 1000000 ∧ q ≤ 1000000) ∧ m ≤ 1000000 ∧ ∀ i, i < m → (nsM 0 f_B) i ≤ 1000000), .tup [.agg [.int .i64 (ckR ⟨n, (nsA f_A), (nsM 0 f_A), (nsV 0 f_A), h, (ivf f_nd), (ivf f_pr), st, ro, pk, fr⟩ (psB n (nsA f_A) (nsM 0 f_A) (nsV 0 f_A) h (ivf f_nd) q (ivf f_pr) st ro pk fr) m (nsM 0 f_B) (nsV 0 f_B)).en, .int .i64 (ckR ⟨n, (nsA f_A), (nsM 0 f_A), (nsV 0 f_A), h, (ivf f_nd), (ivf f_pr), st, ro, pk, fr⟩ (psB n (nsA f_A) (nsM 0 f_A) (nsV 0 f_A) h (ivf f_nd) q (ivf f_pr) st ro pk fr) m (nsM 0 f_B) (nsV 0 f_B)).st, .int .i64 ((ckR ⟨n, (nsA f_A), (nsM 0 f_A), (nsV 0 f_A), h, (ivf f_nd), (ivf f_pr), st, ro, pk, fr⟩ (psB n (nsA f_A) (nsM 0 f_A) (nsV 0 f_A) h (ivf f_nd) q (ivf f_pr) st ro pk fr) m (nsM 0 f_B) (nsV 0 f_B)).s.pk * pk)], .int .i64 ((ckR ⟨n, (nsA f_A), (nsM 0 f_A), (nsV 0 f_A), h, (ivf f_nd), (ivf f_pr), st, ro, pk, fr⟩ (psB n (nsA f_A) (nsM 0 f_A) (nsV 0 f_A) h (ivf f_nd) q (ivf f_pr) st ro pk fr) m (nsM 0 f_B) (nsV 0 f_B)).hr : Int), .int .i64 (ckR ⟨n, (nsA f_A), (nsM 0 f_A), (nsV 0 f_A), h, (ivf f_nd), (ivf f_pr), st, ro, pk, fr⟩ (psB n (nsA f_A) (nsM 0 f_A) (nsV 0 f_A) h (ivf f_nd) q (ivf f_pr) st ro pk fr) m (nsM 0 f_B) (nsV 0 f_B)).e]) := rfl
theorem check_base : Base Try.prog 19 checkBase := by
  intro args p v hq hp
  unfold checkBase at hq
  split at hq
  rotate_left
  · cases hq
  rename_i n sz_A f_A h sz_nd f_nd q sz_pr f_pr st ro pk fr m sz_B f_B
  cases hq
  obtain ⟨⟨rfl, i_A⟩, ⟨rfl, i_nd⟩, ⟨rfl, i_pr⟩, ⟨rfl, i_B⟩, pre⟩ := hp
  refine base_of (C := cx [] [(43, 63, readBase)] [(31, arePsBase), (44, playBase)] [] none) (cx_ok ⟨read_base, trivial⟩ ⟨arePs_base, play_base, trivial⟩) rfl (g := 19) (fn := Try.f19)
    (args' := [.agg [.row n 5 (nestF 0 2 (nsA f_A) (nsM 0 f_A) (nsV 0 f_A)), .row h 1 (rowF .i64 (ivf f_nd)), .row q 1 (rowF .i64 (ivf f_pr)), .int .i64 st, .int .i64 ro, .int .i64 pk, .int .i64 fr], .row m 1 (nestF 0 1 (nsA f_B) (nsM 0 f_B) (nsV 0 f_B))]) (fn_19) rfl 1000 (by
    simp only [BdL, Bd, and_self, and_true, true_and]
    exact ⟨⟨(fun i j hi hj => nest_bd i_A i j hi hj), (fun i j hi hj => by rw [i_nd i j hi hj]; trivial), (fun i j hi hj => by rw [i_pr i j hi hj]; trivial)⟩, (fun i j hi hj => nest_bd i_B i j hi hj)⟩) ⟨SameD.agg ⟨SameD.nest i_A, SameD.int i_nd, SameD.int i_pr, SameD.rfl' _, SameD.rfl' _, SameD.rfl' _, SameD.rfl' _, trivial⟩, SameD.nest i_B, trivial⟩ ?_
  generalize nsA f_A = A at *
  generalize nsM 0 f_A = M at *
  generalize nsV 0 f_A = V at *
  generalize ivf f_nd = nd at *
  generalize ivf f_pr = pr at *
  generalize nsA f_B = B at *
  generalize nsM 0 f_B = K at *
  generalize nsV 0 f_B = W at *
  simp only [rowF_eq]
  simp only [arePs_eq, play_eq, read_eq, nestF_eq, nestR_lit, nsM_lit, nsV_lit, psS, onI_ns, psB_ns, chF, chT_eta, plM_ns, plO_ns, Ok_ns, Try.f19, go_sem, ↓reduceIte, Nat.reduceAdd, Nat.reduceSub, Nat.reduceMul, Nat.reduceEqDiff, Nat.reduceLT, Nat.reduceLeDiff, Int.reduceToNat, Int.reduceLE, Int.reduceLT, Int.reduceEq, Int.reduceNeg, reduceCtorEq]
  obtain ⟨pre, pm, pK⟩ := pre
  generalize hb : psB n A M V h nd q pr st ro pk fr = b
  refine ⟨pre, fun c1 => ?_, fun c1 => ?_⟩
  · obtain rfl : b = false := by simpa using c1
    simp only [ckR, Bool.false_eq_true, if_false, plBad, Int.zero_mul]
    rfl
  obtain rfl : b = true := by simpa using c1
  obtain ⟨rfl, hOk⟩ := psB_iff.1 hb
  have hn := hOk.n
  simp only [] at hn
  have bad : (rdB n M m K W && decide ((m : Int) = (q : Int))) = false → SV.tup [.agg [.int .i64 0, .int .i64 0, .int .i64 0], .int .i64 0, .int .i64 2] = .tup [.agg [.int .i64 (ckR ⟨n, A, M, V, q, nd, pr, st, ro, pk, fr⟩ true m K W).en, .int .i64 (ckR ⟨n, A, M, V, q, nd, pr, st, ro, pk, fr⟩ true m K W).st, .int .i64 ((ckR ⟨n, A, M, V, q, nd, pr, st, ro, pk, fr⟩ true m K W).s.pk * pk)], .int .i64 ((ckR ⟨n, A, M, V, q, nd, pr, st, ro, pk, fr⟩ true m K W).hr : Int), .int .i64 (ckR ⟨n, A, M, V, q, nd, pr, st, ro, pk, fr⟩ true m K W).e] := fun h => by
    have : ckR ⟨n, A, M, V, q, nd, pr, st, ro, pk, fr⟩ true m K W = plBad 2 := by simp only [ckR, h, if_true, Bool.false_eq_true, if_false]
    rw [this]
    simp only [plBad, Int.zero_mul]
    rfl
  refine ⟨⟨hn.1, hn.2, pm, pK⟩, fun c2 => bad (by simp only [Bool.not_eq_true'] at c2; simp [c2]), fun c2 => ⟨fun c3 => bad (by simp only [Bool.not_eq_true'] at c3; simp [c3]), fun c3 => ?_⟩⟩
  simp only [Bool.not_eq_false'] at c2 c3
  have hmq := of_decide_eq_true c3
  obtain rfl : m = q := by omega
  simp only [c2, if_true]
  refine ⟨⟨trivial, hOk, Nat.le_refl _, fun i hi => chT_ok hOk c2 hi⟩, ?_⟩
  have hck : ckR ⟨n, A, M, V, m, nd, pr, st, ro, pk, fr⟩ true m K W = plM ⟨n, A, M, V, m, nd, pr, st, ro, pk, fr⟩ (fun i => chT n (W i)) m := by simp only [ckR, c2, decide_true, Bool.and_true, if_true]
  rw [hck]
  have hbad := plM_bad (D := ⟨n, A, M, V, m, nd, pr, st, ro, pk, fr⟩) (C := fun i => chT n (W i)) m
  generalize plM ⟨n, A, M, V, m, nd, pr, st, ro, pk, fr⟩ (fun i => chT n (W i)) m = r at hbad
  by_cases he : r.e = 0
  · simp only [plO, he, if_true, arePs_eq, play_eq, read_eq, nestF_eq, nestR_lit, nsM_lit, nsV_lit, psS, onI_ns, psB_ns, chF, chT_eta, plM_ns, plO_ns, Ok_ns, Try.f19, go_sem, ↓reduceIte, Nat.reduceAdd, Nat.reduceSub, Nat.reduceMul, Nat.reduceEqDiff, Nat.reduceLT, Nat.reduceLeDiff, Int.reduceToNat, Int.reduceLE, Int.reduceLT, Int.reduceEq, Int.reduceNeg, reduceCtorEq]
  · obtain ⟨h1, h2, h3⟩ := hbad he
    simp only [plO, he, if_false, h1, h2, h3, Int.zero_mul, arePs_eq, play_eq, read_eq, nestF_eq, nestR_lit, nsM_lit, nsV_lit, psS, onI_ns, psB_ns, chF, chT_eta, plM_ns, plO_ns, Ok_ns, Try.f19, go_sem, ↓reduceIte, Nat.reduceAdd, Nat.reduceSub, Nat.reduceMul, Nat.reduceEqDiff, Nat.reduceLT, Nat.reduceLeDiff, Int.reduceToNat, Int.reduceLE, Int.reduceLT, Int.reduceEq, Int.reduceNeg, reduceCtorEq]
end Go.Eng
end

/- press: the document's example. -/
section
namespace Go.Eng
open Go Go.RowKit Go.Proofs
set_option maxRecDepth 100000
set_option maxHeartbeats 4000000
attribute [local irreducible] OwnT DefS
def smA : Nat → Nat → Int
  | 0, 1 => 50
  | 0, 2 => 2
  | 0, 3 => 3
  | 1, 1 => 20
  | 1, 2 => 1
  | 1, 3 => 12
  | 1, 4 => 1
  | _, _ => 0
def smM : Nat → Nat
  | 0 => 2
  | _ => 1
def smV : Nat → Nat → Nat → Int
  | 0, 0, 0 => 10
  | 0, 0, 1 => 4
  | 0, 1, 0 => 18
  | 0, 1, 1 => 6
  | 1, 0, 0 => 15
  | 1, 0, 1 => 5
  | _, _, _ => 0
def smN : Nat → Nat → Int
  | 0, _ => 4
  | 1, _ => 6
  | 2, _ => 3
  | _, _ => 5
def smP : Nat → Nat → Int
  | 0, _ => 10
  | 1, _ => 20
  | 2, _ => 20
  | _, _ => 10
def smD : PD := ⟨2, smA, smM, smV, 4, smN, smP, 3, 6, 5, 12⟩
def sampleBase : BaseF := fun args => match args with
  | [] => some (True, .agg [.row 2 5 (nestF 0 2 smA smM smV), .row 4 1 (fun i j => .int .i64 (smN i j)), .row 4 1 (fun i j => .int .i64 (smP i j)), .int .i64 3, .int .i64 6, .int .i64 5, .int .i64 12])
  | _ => none
theorem sample_eq  : sampleBase [] = some (True, .agg [.row 2 5 (nestF 0 2 smA smM smV), .row 4 1 (fun i j => .int .i64 (smN i j)), .row 4 1 (fun i j => .int .i64 (smP i j)), .int .i64 3, .int .i64 6, .int .i64 5, .int .i64 12]) := rfl
theorem sample_base : NB Try.prog 27 sampleBase := by
  intro args p v hq hp
  unfold sampleBase at hq
  split at hq
  rotate_left
  · cases hq
  cases hq
  refine nb_of (C := cx [] [] [] [] none) (cx_ok trivial trivial) rfl (g := 27) (fn := Try.f27)
    (args' := []) (fn_27) rfl 1000 (by simp only [BdL, Bd, and_self, and_true, true_and]) trivial (by simp only [Bd, BdL, and_true, implies_true]; exact nestF_bd _ _ _ _ _ _ _ _ _) ?_
  simp only [Try.f27, go_sem, ↓reduceIte, Nat.reduceAdd, Nat.reduceSub, Nat.reduceMul, Nat.reduceEqDiff, Nat.reduceLT, Nat.reduceLeDiff, Int.reduceToNat, Int.reduceLE, Int.reduceLT, Int.reduceEq, Int.reduceNeg, reduceCtorEq]
  refine ⟨⟨fun i j hi hj => ?_, fun i j hi hj => ?_, fun i j hi hj => ?_⟩, ?_⟩
  · rcases (by omega : i = 0 ∨ i = 1) with rfl | rfl <;> rcases (by omega : j = 0 ∨ j = 1 ∨ j = 2 ∨ j = 3 ∨ j = 4) with rfl | rfl | rfl | rfl | rfl <;> first | exact trivial | skip
    · exact fun a b ha hb => by rcases (by omega : a = 0 ∨ a = 1) with rfl | rfl <;> rcases (by omega : b = 0 ∨ b = 1) with rfl | rfl <;> exact trivial
    · exact fun a b ha hb => by rcases (by omega : a = 0) with rfl; rcases (by omega : b = 0 ∨ b = 1) with rfl | rfl <;> exact trivial
  · obtain rfl : j = 0 := by omega
    rcases (by omega : i = 0 ∨ i = 1 ∨ i = 2 ∨ i = 3) with rfl | rfl | rfl | rfl <;> exact trivial
  · obtain rfl : j = 0 := by omega
    rcases (by omega : i = 0 ∨ i = 1 ∨ i = 2 ∨ i = 3) with rfl | rfl | rfl | rfl <;> exact trivial
  apply SameD.agg
  refine ⟨SameD.rowD fun i j hi hj => ?_, SameD.rowD fun i j hi hj => ?_, SameD.rowD fun i j hi hj => ?_, SameD.rfl' _, SameD.rfl' _, SameD.rfl' _, SameD.rfl' _, trivial⟩
  · rcases (by omega : i = 0 ∨ i = 1) with rfl | rfl <;> rcases (by omega : j = 0 ∨ j = 1 ∨ j = 2 ∨ j = 3 ∨ j = 4) with rfl | rfl | rfl | rfl | rfl <;> first | exact SameD.rfl' _ | skip
    · exact SameD.rowD fun a b ha hb => by rcases (by omega : a = 0 ∨ a = 1) with rfl | rfl <;> rcases (by omega : b = 0 ∨ b = 1) with rfl | rfl <;> exact SameD.rfl' _
    · exact SameD.rowD fun a b ha hb => by rcases (by omega : a = 0) with rfl; rcases (by omega : b = 0 ∨ b = 1) with rfl | rfl <;> exact SameD.rfl' _
  · obtain rfl : j = 0 := by omega
    rcases (by omega : i = 0 ∨ i = 1 ∨ i = 2 ∨ i = 3) with rfl | rfl | rfl | rfl <;> exact SameD.rfl' _
  · obtain rfl : j = 0 := by omega
    rcases (by omega : i = 0 ∨ i = 1 ∨ i = 2 ∨ i = 3) with rfl | rfl | rfl | rfl <;> exact SameD.rfl' _
theorem al_ps : psB 2 smA smM smV 4 smN 4 smP 3 6 5 12 = true := by decide +kernel
theorem al_best : bestM ⟨2, smA, smM, smV, 4, smN, smP, 3, 6, 5, 12⟩ 4 (begP ⟨2, smA, smM, smV, 4, smN, smP, 3, 6, 5, 12⟩) = some (630, ⟨2, 0, 0⟩) := by decide +kernel
theorem al_E : chE true ⟨2, smA, smM, smV, 4, smN, smP, 3, 6, 5, 12⟩ = 0 := by simp only [chE, al_best]; rfl
theorem al_C : chC true ⟨2, smA, smM, smV, 4, smN, smP, 3, 6, 5, 12⟩ = 630 := by simp only [chC, al_E, if_true, al_best]; rfl
theorem al_N : chN true ⟨2, smA, smM, smV, 4, smN, smP, 3, 6, 5, 12⟩ = 4 := by simp only [chN, al_E, if_true]
theorem al_c0 : cAt ⟨2, smA, smM, smV, 4, smN, smP, 3, 6, 5, 12⟩ 0 = ⟨2, 0, 0⟩ := by decide +kernel
theorem al_c1 : cAt ⟨2, smA, smM, smV, 4, smN, smP, 3, 6, 5, 12⟩ 1 = ⟨1, 0, 0⟩ := by decide +kernel
theorem al_c2 : cAt ⟨2, smA, smM, smV, 4, smN, smP, 3, 6, 5, 12⟩ 2 = ⟨0, 0, 0⟩ := by decide +kernel
theorem al_c3 : cAt ⟨2, smA, smM, smV, 4, smN, smP, 3, 6, 5, 12⟩ 3 = ⟨0, 1, 0⟩ := by decide +kernel
def aliveBase : BaseF := fun args => match args with
  | [] => some (True, .bool true)
  | _ => none
theorem alive_eq  : aliveBase [] = some (True, .bool true) := rfl
theorem alive_base : Base Try.prog 13 aliveBase := by
  intro args p v hq hp
  unfold aliveBase at hq
  split at hq
  rotate_left
  · cases hq
  cases hq
  refine base_of (C := cxn [] [(27, sampleBase), (14, cheapestBase)] [] [(19, checkBase), (16, plansBase)] [] none) (cxn_ok ⟨sample_base, cheapest_base, trivial⟩ trivial ⟨check_base, plans_base, trivial⟩) rfl (g := 13) (fn := Try.f13)
    (args' := []) (fn_13) rfl 1000 (by simp only [BdL, Bd, and_self, and_true, true_and]) trivial ?_
  simp only [check_eq, plans_eq, sample_eq, cheapest_eq, nestF_eq, nestR_lit, nsM_lit, nsV_lit, psB_ns, chE_ns, chC_ns, chN_ns, cAt_ns, ckR_ns, planF, al_ps, al_E, al_C, al_N, Try.f13, go_sem, ↓reduceIte, Nat.reduceAdd, Nat.reduceSub, Nat.reduceMul, Nat.reduceEqDiff, Nat.reduceLT, Nat.reduceLeDiff, Int.reduceToNat, Int.reduceLE, Int.reduceLT, Int.reduceEq, Int.reduceNeg, reduceCtorEq]
  refine ⟨fun i _ => by simp only [smM]; split <;> omega, ⟨nestRb_ok (by kernel_rfl), fun i _ => by simp only [smM]; split <;> omega, fun i hi => ?_⟩, ⟨nestRb_ok (by kernel_rfl), ?_⟩, ?_⟩
  · rcases (by omega : i = 0 ∨ i = 1 ∨ i = 2 ∨ i = 3) with rfl | rfl | rfl | rfl <;> decide +kernel
  · exact fun _ _ => trivial
  · refine spl_t (by kernel_rfl) (spl_t (by kernel_rfl) ?_)
    congr 1
end Go.Eng
end

/- press: what a statement looks at. -/
section
namespace Go.Eng
open Go Go.RowKit Go.Proofs
set_option maxRecDepth 100000
set_option maxHeartbeats 4000000
attribute [local irreducible] OwnT DefS
def gr0 (n : Nat) (M : Nat → Nat) (h q : Nat) : Bool := decide (6 < (n : Int)) || (decide (20 < (h : Int)) || (decide (20 < (q : Int)) || !allU (fun i => decide ((M i : Int) ≤ 6)) n))
def gr1 (m : Nat) (K : Nat → Nat) : Bool := decide (20 < (m : Int)) || !allU (fun i => decide ((K i : Int) ≤ 8)) m
def great0Base : BaseF := fun args => match args with
  | [.agg [.row n sz_A f_A, .row h sz_nd f_nd, .row q sz_pr f_pr, .int .i64 st, .int .i64 ro, .int .i64 pk, .int .i64 fr], .row 0 sz_pl f_pl] => some ((sz_A = 5 ∧ NestR n 5 0 2 f_A) ∧ (sz_nd = 1 ∧ IntR h 1 f_nd) ∧ (sz_pr = 1 ∧ IntR q 1 f_pr), .bool (gr0 n (nsM 0 f_A) h q))
  | _ => none
theorem great0_eq (n : Nat) (sz_A : Nat) (f_A : Nat → Nat → SV) (h : Nat) (sz_nd : Nat) (f_nd : Nat → Nat → SV) (q : Nat) (sz_pr : Nat) (f_pr : Nat → Nat → SV) (st : Int) (ro : Int) (pk : Int) (fr : Int) (sz_pl : Nat) (f_pl : Nat → Nat → SV) : great0Base [.agg [.row n sz_A f_A, .row h sz_nd f_nd, .row q sz_pr f_pr, .int .i64 st, .int .i64 ro, .int .i64 pk, .int .i64 fr], .row 0 sz_pl f_pl] = some ((sz_A = 5 ∧ NestR n 5 0 2 f_A) ∧ (sz_nd = 1 ∧ IntR h 1 f_nd) ∧ (sz_pr = 1 ∧ IntR q 1 f_pr), .bool (gr0 n (nsM 0 f_A) h q)) := rfl
theorem great0_base : Base Try.prog 11 great0Base := by
  intro args p v hq hp
  unfold great0Base at hq
  split at hq
  rotate_left
  · cases hq
  rename_i n sz_A f_A h sz_nd f_nd q sz_pr f_pr st ro pk fr sz_pl f_pl
  cases hq
  obtain ⟨⟨rfl, i_A⟩, ⟨rfl, i_nd⟩, ⟨rfl, i_pr⟩⟩ := hp
  refine base_of (C := cx [] [] [] [] none) (cx_ok trivial trivial) rfl (g := 11) (fn := Try.f11)
    (args' := [.agg [.row n 5 (nestF 0 2 (nsA f_A) (nsM 0 f_A) (nsV 0 f_A)), .row h 1 (rowF .i64 (ivf f_nd)), .row q 1 (rowF .i64 (ivf f_pr)), .int .i64 st, .int .i64 ro, .int .i64 pk, .int .i64 fr], .row 0 1 (fun _ _ => .any)]) (fn_11) rfl 1000 (by
    simp only [BdL, Bd, and_self, and_true, true_and]
    exact ⟨⟨(fun i j hi hj => nest_bd i_A i j hi hj), (fun i j hi hj => by rw [i_nd i j hi hj]; trivial), (fun i j hi hj => by rw [i_pr i j hi hj]; trivial)⟩, (fun i j hi hj => absurd hi (by omega))⟩) ⟨SameD.agg ⟨SameD.nest i_A, SameD.int i_nd, SameD.int i_pr, SameD.rfl' _, SameD.rfl' _, SameD.rfl' _, SameD.rfl' _, trivial⟩, SameD.row0, trivial⟩ ?_
  generalize nsA f_A = A
  generalize nsM 0 f_A = M
  generalize nsV 0 f_A = V
  generalize ivf f_nd = nd
  generalize ivf f_pr = pr
  simp only [rowF_eq]
  simp only [nestF_eq, nestR_lit, nsM_lit, nsV_lit, Try.f11, go_sem, ↓reduceIte, Nat.reduceAdd, Nat.reduceSub, Nat.reduceMul, Nat.reduceEqDiff, Nat.reduceLT, Nat.reduceLeDiff, Int.reduceToNat, Int.reduceLE, Int.reduceLT, Int.reduceEq, Int.reduceNeg, reduceCtorEq]
  have w0 : gr0 n M h q = true → SV.bool true = .bool (gr0 n M h q) := fun e => by simp [e]
  refine ⟨fun c1 => w0 (by simp [gr0, c1]), fun c1 => ⟨fun c2 => w0 (by simp [gr0, c2]), fun c2 => ⟨fun c3 => w0 (by simp [gr0, c3]), fun c3 => ?_⟩⟩⟩
  simp only [decide_eq_false_iff_not] at c1 c2 c3
  refine loop_ofH { i : Nat // i ≤ n ∧ ∀ j, j < i → (fun i => decide ((M i : Int) ≤ 6)) j = true } (fun i => [(30, .int .i64 (i.1 : Int)), (29, .int .i64 (n : Int)), (28, .row n 5 (nestF 0 2 A M V)), (1, .row 0 1 fun _ _ => .any)])
    (fun h _ => h) (fun i => n - i.1) (fun _ => ⟨rfl, rfl⟩) ⟨0, by omega, by omega⟩ (by (apply sub_of <;> simp only [go_sem, ↓reduceIte, Nat.reduceAdd, Nat.reduceSub, Nat.reduceMul, Nat.reduceEqDiff, Nat.reduceLT, Nat.reduceLeDiff, Int.reduceToNat, Int.reduceLE, Int.reduceLT, Int.reduceEq, Int.reduceNeg, reduceCtorEq] <;> (try simp [catF])); all_goals first | exact nestF_bd _ _ _ _ _ _ _ _ _ | exact ⟨nestF_bd _ _ _ _ _ _ _ _ _, nestF_bd _ _ _ _ _ _ _ _ _⟩) ?_
  rintro ⟨i, hi, h3⟩
  simp only [nestF_eq, nestR_lit, nsM_lit, nsV_lit, Try.f11, go_sem, ↓reduceIte, Nat.reduceAdd, Nat.reduceSub, Nat.reduceMul, Nat.reduceEqDiff, Nat.reduceLT, Nat.reduceLeDiff, Int.reduceToNat, Int.reduceLE, Int.reduceLT, Int.reduceEq, Int.reduceNeg, reduceCtorEq]
  have hw3 : IntKind.i64.wrap ((i : Int) + 1) = ((i + 1 : Nat) : Int) := by rw [wrap_id (by omega) (by omega)]; omega
  refine ⟨fun e1 => ?_, fun e1 => ?_⟩
  · simp only [decide_eq_true_eq] at e1
    refine ⟨⟨by omega, by omega⟩, fun e2 => w0 ?_, fun e2 => ⟨⟨i + 1, by omega, below h3 ?_⟩, by simp only []; omega, ?_⟩⟩
    all_goals simp only [decide_eq_true_eq, decide_eq_false_iff_not] at e2
    · have := allU_false (p := fun i => decide ((M i : Int) ≤ 6)) (n := n) (i := i) (by omega) (decide_eq_false (by omega))
      simp only [gr0, this, Bool.not_false, Bool.or_true]
    · exact decide_eq_true (by omega)
    · apply sub_of <;> simp only [hw3, go_sem, ↓reduceIte, Nat.reduceAdd, Nat.reduceSub, Nat.reduceMul, Nat.reduceEqDiff, Nat.reduceLT, Nat.reduceLeDiff, Int.reduceToNat, Int.reduceLE, Int.reduceLT, Int.reduceEq, Int.reduceNeg, reduceCtorEq] <;> (try simp)
      all_goals first | exact nestF_bd _ _ _ _ _ _ _ _ _ | exact ⟨nestF_bd _ _ _ _ _ _ _ _ _, nestF_bd _ _ _ _ _ _ _ _ _⟩
  simp only [decide_eq_false_iff_not] at e1
  obtain rfl : i = n := by omega
  have hg : gr0 i M h q = false := by simp only [gr0, allU_true h3, decide_eq_false c1, decide_eq_false c2, decide_eq_false c3]; rfl
  clear w0
  rw [hg]
  refine loop_ofH Unit (fun _ => [(41, .int .i64 0), (40, .int .i64 0), (39, .row 0 1 fun _ _ => .any)]) (fun h _ => h) (fun _ => 0) (fun _ => ⟨rfl, rfl⟩) () (by (apply sub_of <;> simp only [go_sem, ↓reduceIte, Nat.reduceAdd, Nat.reduceSub, Nat.reduceMul, Nat.reduceEqDiff, Nat.reduceLT, Nat.reduceLeDiff, Int.reduceToNat, Int.reduceLE, Int.reduceLT, Int.reduceEq, Int.reduceNeg, reduceCtorEq] <;> (try simp [catF])); all_goals first | exact nestF_bd _ _ _ _ _ _ _ _ _ | rfl) ?_
  rintro ⟨⟩
  simp only [nestF_eq, nestR_lit, nsM_lit, nsV_lit, Try.f11, go_sem, ↓reduceIte, Nat.reduceAdd, Nat.reduceSub, Nat.reduceMul, Nat.reduceEqDiff, Nat.reduceLT, Nat.reduceLeDiff, Int.reduceToNat, Int.reduceLE, Int.reduceLT, Int.reduceEq, Int.reduceNeg, reduceCtorEq]
def great1Base : BaseF := fun args => match args with
  | [.agg [.row n sz_A f_A, .row h sz_nd f_nd, .row q sz_pr f_pr, .int .i64 st, .int .i64 ro, .int .i64 pk, .int .i64 fr], .row 1 sz_B f_B] => some ((sz_A = 5 ∧ NestR n 5 0 2 f_A) ∧ (sz_nd = 1 ∧ IntR h 1 f_nd) ∧ (sz_pr = 1 ∧ IntR q 1 f_pr) ∧ (sz_B = 1 ∧ OneN f_B), .bool (gr0 n (nsM 0 f_A) h q || gr1 (oneM f_B) (nsM 0 (oneC f_B))))
  | _ => none
theorem great1_eq (n : Nat) (sz_A : Nat) (f_A : Nat → Nat → SV) (h : Nat) (sz_nd : Nat) (f_nd : Nat → Nat → SV) (q : Nat) (sz_pr : Nat) (f_pr : Nat → Nat → SV) (st : Int) (ro : Int) (pk : Int) (fr : Int) (sz_B : Nat) (f_B : Nat → Nat → SV) : great1Base [.agg [.row n sz_A f_A, .row h sz_nd f_nd, .row q sz_pr f_pr, .int .i64 st, .int .i64 ro, .int .i64 pk, .int .i64 fr], .row 1 sz_B f_B] = some ((sz_A = 5 ∧ NestR n 5 0 2 f_A) ∧ (sz_nd = 1 ∧ IntR h 1 f_nd) ∧ (sz_pr = 1 ∧ IntR q 1 f_pr) ∧ (sz_B = 1 ∧ OneN f_B), .bool (gr0 n (nsM 0 f_A) h q || gr1 (oneM f_B) (nsM 0 (oneC f_B)))) := rfl
theorem great1_base : Base Try.prog 11 great1Base := by
  intro args p v hq hp
  unfold great1Base at hq
  split at hq
  rotate_left
  · cases hq
  rename_i n sz_A f_A h sz_nd f_nd q sz_pr f_pr st ro pk fr sz_B f_B
  cases hq
  obtain ⟨⟨rfl, i_A⟩, ⟨rfl, i_nd⟩, ⟨rfl, i_pr⟩, ⟨rfl, i_B⟩⟩ := hp
  refine base_of (C := cx [] [] [] [] none) (cx_ok trivial trivial) rfl (g := 11) (fn := Try.f11)
    (args' := [.agg [.row n 5 (nestF 0 2 (nsA f_A) (nsM 0 f_A) (nsV 0 f_A)), .row h 1 (rowF .i64 (ivf f_nd)), .row q 1 (rowF .i64 (ivf f_pr)), .int .i64 st, .int .i64 ro, .int .i64 pk, .int .i64 fr], .row 1 1 (oneF [.row (oneM f_B) 1 (nestF 0 1 (nsA (oneC f_B)) (nsM 0 (oneC f_B)) (nsV 0 (oneC f_B)))])]) (fn_11) rfl 1000 (by
    simp only [BdL, Bd, and_self, and_true, true_and]
    exact ⟨⟨(fun i j hi hj => nest_bd i_A i j hi hj), (fun i j hi hj => by rw [i_nd i j hi hj]; trivial), (fun i j hi hj => by rw [i_pr i j hi hj]; trivial)⟩, (fun i j hi hj => one_bd i_B i j hi hj)⟩) ⟨SameD.agg ⟨SameD.nest i_A, SameD.int i_nd, SameD.int i_pr, SameD.rfl' _, SameD.rfl' _, SameD.rfl' _, SameD.rfl' _, trivial⟩, SameD.one i_B, trivial⟩ ?_
  generalize nsA f_A = A
  generalize nsM 0 f_A = M
  generalize nsV 0 f_A = V
  generalize ivf f_nd = nd
  generalize ivf f_pr = pr
  generalize nsA (oneC f_B) = B
  generalize nsM 0 (oneC f_B) = K
  generalize nsV 0 (oneC f_B) = W
  generalize oneM f_B = m
  simp only [rowF_eq]
  simp only [nestF_eq, nestR_lit, nsM_lit, nsV_lit, Try.f11, go_sem, ↓reduceIte, Nat.reduceAdd, Nat.reduceSub, Nat.reduceMul, Nat.reduceEqDiff, Nat.reduceLT, Nat.reduceLeDiff, Int.reduceToNat, Int.reduceLE, Int.reduceLT, Int.reduceEq, Int.reduceNeg, reduceCtorEq]
  have w0 : gr0 n M h q = true → SV.bool true = .bool (gr0 n M h q || gr1 m K) := fun e => by simp [e]
  refine ⟨fun c1 => w0 (by simp [gr0, c1]), fun c1 => ⟨fun c2 => w0 (by simp [gr0, c2]), fun c2 => ⟨fun c3 => w0 (by simp [gr0, c3]), fun c3 => ?_⟩⟩⟩
  simp only [decide_eq_false_iff_not] at c1 c2 c3
  refine loop_ofH { i : Nat // i ≤ n ∧ ∀ j, j < i → (fun i => decide ((M i : Int) ≤ 6)) j = true } (fun i => [(30, .int .i64 (i.1 : Int)), (29, .int .i64 (n : Int)), (28, .row n 5 (nestF 0 2 A M V)), (1, .row 1 1 (oneF [.row m 1 (nestF 0 1 B K W)]))])
    (fun h _ => h) (fun i => n - i.1) (fun _ => ⟨rfl, rfl⟩) ⟨0, by omega, by omega⟩ (by (apply sub_of <;> simp only [go_sem, ↓reduceIte, Nat.reduceAdd, Nat.reduceSub, Nat.reduceMul, Nat.reduceEqDiff, Nat.reduceLT, Nat.reduceLeDiff, Int.reduceToNat, Int.reduceLE, Int.reduceLT, Int.reduceEq, Int.reduceNeg, reduceCtorEq] <;> (try simp [catF])); all_goals first | exact nestF_bd _ _ _ _ _ _ _ _ _ | exact ⟨nestF_bd _ _ _ _ _ _ _ _ _, nestF_bd _ _ _ _ _ _ _ _ _⟩) ?_
  rintro ⟨i, hi, h3⟩
  simp only [nestF_eq, nestR_lit, nsM_lit, nsV_lit, Try.f11, go_sem, ↓reduceIte, Nat.reduceAdd, Nat.reduceSub, Nat.reduceMul, Nat.reduceEqDiff, Nat.reduceLT, Nat.reduceLeDiff, Int.reduceToNat, Int.reduceLE, Int.reduceLT, Int.reduceEq, Int.reduceNeg, reduceCtorEq]
  have hw3 : IntKind.i64.wrap ((i : Int) + 1) = ((i + 1 : Nat) : Int) := by rw [wrap_id (by omega) (by omega)]; omega
  refine ⟨fun e1 => ?_, fun e1 => ?_⟩
  · simp only [decide_eq_true_eq] at e1
    refine ⟨⟨by omega, by omega⟩, fun e2 => w0 ?_, fun e2 => ⟨⟨i + 1, by omega, below h3 ?_⟩, by simp only []; omega, ?_⟩⟩
    all_goals simp only [decide_eq_true_eq, decide_eq_false_iff_not] at e2
    · have := allU_false (p := fun i => decide ((M i : Int) ≤ 6)) (n := n) (i := i) (by omega) (decide_eq_false (by omega))
      simp only [gr0, this, Bool.not_false, Bool.or_true]
    · exact decide_eq_true (by omega)
    · apply sub_of <;> simp only [hw3, go_sem, ↓reduceIte, Nat.reduceAdd, Nat.reduceSub, Nat.reduceMul, Nat.reduceEqDiff, Nat.reduceLT, Nat.reduceLeDiff, Int.reduceToNat, Int.reduceLE, Int.reduceLT, Int.reduceEq, Int.reduceNeg, reduceCtorEq] <;> (try simp)
      all_goals first | exact nestF_bd _ _ _ _ _ _ _ _ _ | exact ⟨nestF_bd _ _ _ _ _ _ _ _ _, nestF_bd _ _ _ _ _ _ _ _ _⟩
  simp only [decide_eq_false_iff_not] at e1
  obtain rfl : i = n := by omega
  have hg : gr0 i M h q = false := by simp only [gr0, allU_true h3, decide_eq_false c1, decide_eq_false c2, decide_eq_false c3]; rfl
  clear w0
  rw [hg]
  rw [Bool.false_or]
  have hrow : ∀ (a b : Nat), a < m → b < 1 → Bd 1 0 (nestF 0 1 B K W a b) := nestF_bd _ _ _ _ _ _ _ _ _
  refine loop_ofH { k : Nat // k = 0 ∨ (k = 1 ∧ gr1 m K = false) } (fun k => [(41, .int .i64 (k.1 : Int)), (40, .int .i64 ((1 : Nat) : Int)), (39, .row 1 1 (oneF [.row m 1 (nestF 0 1 B K W)]))]) (fun h _ => h) (fun k => 1 - k.1) (fun _ => ⟨rfl, rfl⟩) ⟨0, .inl rfl⟩ (by (apply sub_of <;> simp only [go_sem, ↓reduceIte, Nat.reduceAdd, Nat.reduceSub, Nat.reduceMul, Nat.reduceEqDiff, Nat.reduceLT, Nat.reduceLeDiff, Int.reduceToNat, Int.reduceLE, Int.reduceLT, Int.reduceEq, Int.reduceNeg, reduceCtorEq] <;> (try simp [catF])); all_goals (repeat' first | assumption | exact nestF_bd _ _ _ _ _ _ _ _ _ | exact nestF_bd1 _ _ _ _ _ _ _ _ _ | exact fun _ _ => nestF_bd1 _ _ _ _ _ _ _ _ _ | exact fun _ _ _ _ => nestF_bd1 _ _ _ _ _ _ _ _ _ | exact fun x hx => catF_one _ hx | refine And.intro ?_ ?_)) ?_
  rintro ⟨k, rfl | ⟨rfl, hk⟩⟩
  · simp only [nestF_eq, nestR_lit, nsM_lit, nsV_lit, Try.f11, go_sem, ↓reduceIte, Nat.reduceAdd, Nat.reduceSub, Nat.reduceMul, Nat.reduceEqDiff, Nat.reduceLT, Nat.reduceLeDiff, Int.reduceToNat, Int.reduceLE, Int.reduceLT, Int.reduceEq, Int.reduceNeg, reduceCtorEq]
    refine ⟨fun _ => ⟨⟨by omega, by omega⟩, fun c4 => ?_, fun c4 => ?_⟩, fun e => absurd e (by simp)⟩
    · rw [show gr1 m K = true by simp only [gr1, c4, Bool.true_or]]
    refine loop_ofH { a : Nat // a ≤ m ∧ ∀ j, j < a → (fun i => decide ((K i : Int) ≤ 8)) j = true } (fun a => [(50, .int .i64 (a.1 : Int)), (49, .int .i64 (m : Int)), (48, .row m 1 (nestF 0 1 B K W)), (41, .int .i64 ((0 : Nat) : Int)), (40, .int .i64 ((1 : Nat) : Int)), (39, .row 1 1 (oneF [.row m 1 (nestF 0 1 B K W)]))]) (fun h _ => h) (fun a => m - a.1) (fun _ => ⟨rfl, rfl⟩) ⟨0, by omega, by omega⟩ (by (apply sub_of <;> simp only [go_sem, ↓reduceIte, Nat.reduceAdd, Nat.reduceSub, Nat.reduceMul, Nat.reduceEqDiff, Nat.reduceLT, Nat.reduceLeDiff, Int.reduceToNat, Int.reduceLE, Int.reduceLT, Int.reduceEq, Int.reduceNeg, reduceCtorEq] <;> (try simp [catF])); all_goals (repeat' first | assumption | exact nestF_bd _ _ _ _ _ _ _ _ _ | exact nestF_bd1 _ _ _ _ _ _ _ _ _ | exact fun _ _ => nestF_bd1 _ _ _ _ _ _ _ _ _ | exact fun _ _ _ _ => nestF_bd1 _ _ _ _ _ _ _ _ _ | exact fun x hx => catF_one _ hx | refine And.intro ?_ ?_)) ?_
    rintro ⟨a, ha, h4⟩
    simp only [nestF_eq, nestR_lit, nsM_lit, nsV_lit, Try.f11, go_sem, ↓reduceIte, Nat.reduceAdd, Nat.reduceSub, Nat.reduceMul, Nat.reduceEqDiff, Nat.reduceLT, Nat.reduceLeDiff, Int.reduceToNat, Int.reduceLE, Int.reduceLT, Int.reduceEq, Int.reduceNeg, reduceCtorEq]
    have hw4 : IntKind.i64.wrap ((a : Int) + 1) = ((a + 1 : Nat) : Int) := by simp only [decide_eq_false_iff_not] at c4; rw [wrap_id (by omega) (by omega)]; omega
    refine ⟨fun e2 => ?_, fun e2 => ?_⟩
    all_goals simp only [decide_eq_true_eq, decide_eq_false_iff_not] at e2
    · refine ⟨⟨by omega, by omega⟩, fun e3 => ?_, fun e3 => ⟨⟨a + 1, by omega, below h4 ?_⟩, by simp only []; omega, ?_⟩⟩
      all_goals simp only [decide_eq_true_eq, decide_eq_false_iff_not] at e3
      · have := allU_false (p := fun i => decide ((K i : Int) ≤ 8)) (n := m) (i := a) (by omega) (decide_eq_false (by omega))
        simp only [gr1, this, Bool.not_false, Bool.or_true]
      · exact decide_eq_true (by omega)
      · apply sub_of <;> simp only [hw4, go_sem, ↓reduceIte, Nat.reduceAdd, Nat.reduceSub, Nat.reduceMul, Nat.reduceEqDiff, Nat.reduceLT, Nat.reduceLeDiff, Int.reduceToNat, Int.reduceLE, Int.reduceLT, Int.reduceEq, Int.reduceNeg, reduceCtorEq] <;> (try simp)
        all_goals (repeat' first | assumption | exact nestF_bd _ _ _ _ _ _ _ _ _ | exact nestF_bd1 _ _ _ _ _ _ _ _ _ | exact fun _ _ => nestF_bd1 _ _ _ _ _ _ _ _ _ | exact fun _ _ _ _ => nestF_bd1 _ _ _ _ _ _ _ _ _ | exact fun x hx => catF_one _ hx | refine And.intro ?_ ?_)
    · obtain rfl : a = m := by omega
      have hk : gr1 a K = false := by simp only [gr1, allU_true h4, c4]; rfl
      refine ⟨⟨1, .inr ⟨rfl, hk⟩⟩, by simp, ?_⟩
      apply sub_of <;> simp only [go_sem, ↓reduceIte, Nat.reduceAdd, Nat.reduceSub, Nat.reduceMul, Nat.reduceEqDiff, Nat.reduceLT, Nat.reduceLeDiff, Int.reduceToNat, Int.reduceLE, Int.reduceLT, Int.reduceEq, Int.reduceNeg, reduceCtorEq] <;> (try simp)
      · exact wrap_id (by omega) (by omega)
      all_goals (repeat' first | assumption | exact nestF_bd _ _ _ _ _ _ _ _ _ | exact nestF_bd1 _ _ _ _ _ _ _ _ _ | exact fun _ _ => nestF_bd1 _ _ _ _ _ _ _ _ _ | exact fun _ _ _ _ => nestF_bd1 _ _ _ _ _ _ _ _ _ | exact fun x hx => catF_one _ hx | refine And.intro ?_ ?_)
  · simp only [nestF_eq, nestR_lit, nsM_lit, nsV_lit, Try.f11, go_sem, ↓reduceIte, Nat.reduceAdd, Nat.reduceSub, Nat.reduceMul, Nat.reduceEqDiff, Nat.reduceLT, Nat.reduceLeDiff, Int.reduceToNat, Int.reduceLE, Int.reduceLT, Int.reduceEq, Int.reduceNeg, reduceCtorEq]
    exact ⟨fun e => absurd e (by simp), fun _ => by rw [hk]⟩
def greatBase : BaseF := orB great1Base great0Base
theorem great_base : Base Try.prog 11 greatBase := orB_base great1_base great0_base
end Go.Eng
end

/- press: how many plans there are. -/
section
namespace Go.Eng
open Go Go.RowKit Go.Proofs
set_option maxRecDepth 100000
set_option maxHeartbeats 4000000
attribute [local irreducible] OwnT DefS
def eaI (M : Nat → Nat) : Nat → Int
  | 0 => 1
  | i + 1 => eaI M i * (1 + M i)
def slN (each most : Int) : Nat → Int
  | 0 => 1
  | k + 1 => min (slN each most k * each) (most + 1)
theorem eaI_bd {M : Nat → Nat} : ∀ i, i ≤ 6 → (∀ j, j < i → M j ≤ 6) → 1 ≤ eaI M i ∧ eaI M i ≤ 7 ^ i
  | 0, _, _ => by simp [eaI]
  | i + 1, h, hM => by
    obtain ⟨h1, h2⟩ := eaI_bd i (by omega) (fun j hj => hM j (by omega))
    have hm := hM i (by omega)
    have hM2 : (1 : Int) + M i ≤ 7 := by omega
    simp only [eaI, Int.pow_succ]
    refine ⟨?_, Int.mul_le_mul h2 hM2 (by omega) (by omega)⟩
    have := Int.mul_le_mul h1 (show (1 : Int) ≤ 1 + M i by omega) (by omega) (by omega)
    omega
theorem slN_bd {each most : Int} (h1 : 1 ≤ each) (h2 : 0 ≤ most) : ∀ k, 0 ≤ slN each most k ∧ slN each most k ≤ most + 1
  | 0 => by simp [slN]; omega
  | k + 1 => by
    obtain ⟨h3, h4⟩ := slN_bd h1 h2 k
    have := Int.mul_nonneg h3 (show 0 ≤ each by omega)
    simp only [slN]
    omega
def slowB (n : Nat) (M : Nat → Nat) (h : Nat) (most : Int) : Bool := decide (most < slN (eaI M n) most h)
def slowBase : BaseF := fun args => match args with
  | [.agg [.row n sz_A f_A, .row h sz_nd f_nd, .row q sz_pr f_pr, .int .i64 st, .int .i64 ro, .int .i64 pk, .int .i64 fr], .int .i64 most] => some ((sz_A = 5 ∧ NestR n 5 0 2 f_A) ∧ (sz_nd = 1 ∧ IntR h 1 f_nd) ∧ (sz_pr = 1 ∧ IntR q 1 f_pr) ∧ (n ≤ 6 ∧ (∀ i, i < n → (nsM 0 f_A) i ≤ 6) ∧ h ≤ 1000000 ∧ 0 ≤ most ∧ most ≤ 1000000), .bool (slowB n (nsM 0 f_A) h most))
  | _ => none
theorem slow_eq (n : Nat) (sz_A : Nat) (f_A : Nat → Nat → SV) (h : Nat) (sz_nd : Nat) (f_nd : Nat → Nat → SV) (q : Nat) (sz_pr : Nat) (f_pr : Nat → Nat → SV) (st : Int) (ro : Int) (pk : Int) (fr : Int) (most : Int) : slowBase [.agg [.row n sz_A f_A, .row h sz_nd f_nd, .row q sz_pr f_pr, .int .i64 st, .int .i64 ro, .int .i64 pk, .int .i64 fr], .int .i64 most] = some ((sz_A = 5 ∧ NestR n 5 0 2 f_A) ∧ (sz_nd = 1 ∧ IntR h 1 f_nd) ∧ (sz_pr = 1 ∧ IntR q 1 f_pr) ∧ (n ≤ 6 ∧ (∀ i, i < n → (nsM 0 f_A) i ≤ 6) ∧ h ≤ 1000000 ∧ 0 ≤ most ∧ most ≤ 1000000), .bool (slowB n (nsM 0 f_A) h most)) := rfl
theorem slow_base : Base Try.prog 12 slowBase := by
  intro args p v hq hp
  unfold slowBase at hq
  split at hq
  rotate_left
  · cases hq
  rename_i n sz_A f_A h sz_nd f_nd q sz_pr f_pr st ro pk fr most
  cases hq
  obtain ⟨⟨rfl, i_A⟩, ⟨rfl, i_nd⟩, ⟨rfl, i_pr⟩, pre⟩ := hp
  refine base_of (C := cx [] [] [] [] none) (cx_ok trivial trivial) rfl (g := 12) (fn := Try.f12)
    (args' := [.agg [.row n 5 (nestF 0 2 (nsA f_A) (nsM 0 f_A) (nsV 0 f_A)), .row h 1 (rowF .i64 (ivf f_nd)), .row q 1 (rowF .i64 (ivf f_pr)), .int .i64 st, .int .i64 ro, .int .i64 pk, .int .i64 fr], .int .i64 most]) (fn_12) rfl 1000 (by
    simp only [BdL, Bd, and_self, and_true, true_and]
    exact ⟨(fun i j hi hj => nest_bd i_A i j hi hj), (fun i j hi hj => by rw [i_nd i j hi hj]; trivial), (fun i j hi hj => by rw [i_pr i j hi hj]; trivial)⟩) ⟨SameD.agg ⟨SameD.nest i_A, SameD.int i_nd, SameD.int i_pr, SameD.rfl' _, SameD.rfl' _, SameD.rfl' _, SameD.rfl' _, trivial⟩, SameD.rfl' _, trivial⟩ ?_
  generalize nsA f_A = A at *
  generalize nsM 0 f_A = M at *
  generalize nsV 0 f_A = V at *
  generalize ivf f_nd = nd at *
  generalize ivf f_pr = pr at *
  simp only [rowF_eq]
  simp only [nestF_eq, nestR_lit, nsM_lit, nsV_lit, Try.f12, go_sem, ↓reduceIte, Nat.reduceAdd, Nat.reduceSub, Nat.reduceMul, Nat.reduceEqDiff, Nat.reduceLT, Nat.reduceLeDiff, Int.reduceToNat, Int.reduceLE, Int.reduceLT, Int.reduceEq, Int.reduceNeg, reduceCtorEq]
  obtain ⟨hn, hM, hh, hm0, hm⟩ := pre
  have e6 : ∀ i, i ≤ n → 1 ≤ eaI M i ∧ eaI M i ≤ 117649 := fun i hi => by
    obtain ⟨h1, h2⟩ := eaI_bd (M := M) i (by omega) (fun j hj => hM j (by omega))
    refine ⟨h1, Int.le_trans h2 ?_⟩
    rcases (by omega : i = 0 ∨ i = 1 ∨ i = 2 ∨ i = 3 ∨ i = 4 ∨ i = 5 ∨ i = 6) with rfl | rfl | rfl | rfl | rfl | rfl | rfl <;> decide
  refine loop_ofH { i : Nat // i ≤ n } (fun i => [(12, .int .i64 (i.1 : Int)), (11, .int .i64 (n : Int)), (10, .row n 5 (nestF 0 2 A M V)), (5, .int .i64 (eaI M i.1)), (2, .ptr 0 0), (1, .int .i64 most)])
    (fun h _ => h) (fun i => n - i.1) (fun _ => ⟨rfl, rfl⟩) ⟨0, by omega⟩ (by (apply sub_of <;> simp only [go_sem, ↓reduceIte, Nat.reduceAdd, Nat.reduceSub, Nat.reduceMul, Nat.reduceEqDiff, Nat.reduceLT, Nat.reduceLeDiff, Int.reduceToNat, Int.reduceLE, Int.reduceLT, Int.reduceEq, Int.reduceNeg, reduceCtorEq] <;> (try simp [catF])); all_goals first | rfl | exact nestF_bd _ _ _ _ _ _ _ _ _ | exact ⟨nestF_bd _ _ _ _ _ _ _ _ _, nestF_bd _ _ _ _ _ _ _ _ _⟩) ?_
  rintro ⟨i, hi⟩
  simp only [nestF_eq, nestR_lit, nsM_lit, nsV_lit, Try.f12, go_sem, ↓reduceIte, Nat.reduceAdd, Nat.reduceSub, Nat.reduceMul, Nat.reduceEqDiff, Nat.reduceLT, Nat.reduceLeDiff, Int.reduceToNat, Int.reduceLE, Int.reduceLT, Int.reduceEq, Int.reduceNeg, reduceCtorEq]
  have hw3 : IntKind.i64.wrap ((i : Int) + 1) = ((i + 1 : Nat) : Int) := by rw [wrap_id (by omega) (by omega)]; omega
  refine ⟨fun e1 => ?_, fun e1 => ?_⟩
  all_goals simp only [decide_eq_true_eq, decide_eq_false_iff_not] at e1
  · have hMi := hM i (by omega)
    have h1 := e6 i (by omega)
    have h2 := e6 (i + 1) (by omega)
    simp only [eaI] at h2
    have w1 : IntKind.i64.wrap (1 + (M i : Int)) = 1 + (M i : Int) := wrap_id (by omega) (by omega)
    have w2 : IntKind.i64.wrap (eaI M i * (1 + (M i : Int))) = eaI M (i + 1) := by rw [wrap_id (by omega) (by omega)]; rfl
    refine ⟨⟨by omega, by omega⟩, ⟨i + 1, by omega⟩, by simp only []; omega, ?_⟩
    apply sub_of <;> simp only [hw3, w1, w2, go_sem, ↓reduceIte, Nat.reduceAdd, Nat.reduceSub, Nat.reduceMul, Nat.reduceEqDiff, Nat.reduceLT, Nat.reduceLeDiff, Int.reduceToNat, Int.reduceLE, Int.reduceLT, Int.reduceEq, Int.reduceNeg, reduceCtorEq] <;> (try simp)
    all_goals (repeat' first | assumption | exact nestF_bd _ _ _ _ _ _ _ _ _ | exact nestF_bd1 _ _ _ _ _ _ _ _ _ | exact fun _ _ => nestF_bd1 _ _ _ _ _ _ _ _ _ | exact fun _ _ _ _ => nestF_bd1 _ _ _ _ _ _ _ _ _ | exact fun x hx => catF_one _ hx | refine And.intro ?_ ?_)
  obtain rfl : i = n := by omega
  have hea := e6 i (Nat.le_refl _)
  refine loop_ofH { k : Nat // k ≤ h } (fun k => [(26, .int .i64 (k.1 : Int)), (25, .int .i64 (h : Int)), (8, .int .i64 (slN (eaI M i) most k.1)), (5, .int .i64 (eaI M i)), (1, .int .i64 most)])
    (fun h _ => h) (fun k => h - k.1) (fun _ => ⟨rfl, rfl⟩) ⟨0, by omega⟩ (by (apply sub_of <;> simp only [go_sem, ↓reduceIte, Nat.reduceAdd, Nat.reduceSub, Nat.reduceMul, Nat.reduceEqDiff, Nat.reduceLT, Nat.reduceLeDiff, Int.reduceToNat, Int.reduceLE, Int.reduceLT, Int.reduceEq, Int.reduceNeg, reduceCtorEq] <;> (try simp [catF])); all_goals first | rfl | exact nestF_bd _ _ _ _ _ _ _ _ _) ?_
  rintro ⟨k, hk⟩
  simp only [nestF_eq, nestR_lit, nsM_lit, nsV_lit, Try.f12, go_sem, ↓reduceIte, Nat.reduceAdd, Nat.reduceSub, Nat.reduceMul, Nat.reduceEqDiff, Nat.reduceLT, Nat.reduceLeDiff, Int.reduceToNat, Int.reduceLE, Int.reduceLT, Int.reduceEq, Int.reduceNeg, reduceCtorEq]
  have hw4 : IntKind.i64.wrap ((k : Int) + 1) = ((k + 1 : Nat) : Int) := by rw [wrap_id (by omega) (by omega)]; omega
  refine ⟨fun e2 => ?_, fun e2 => ?_⟩
  all_goals simp only [decide_eq_true_eq, decide_eq_false_iff_not] at e2
  · have hs := slN_bd hea.1 hm0 k
    have q1 := mulB (x := slN (eaI M i) most k) (y := eaI M i) (m := 1000001) (k := 117649) (by omega) (by omega)
    have w1 : IntKind.i64.wrap (slN (eaI M i) most k * eaI M i) = slN (eaI M i) most k * eaI M i := wrap_id (by omega) (by omega)
    have w2 : IntKind.i64.wrap (most + 1) = most + 1 := wrap_id (by omega) (by omega)
    refine ⟨⟨k + 1, by omega⟩, by simp only []; omega, ?_⟩
    apply sub_of <;> simp only [hw4, w1, w2, slN, go_sem, ↓reduceIte, Nat.reduceAdd, Nat.reduceSub, Nat.reduceMul, Nat.reduceEqDiff, Nat.reduceLT, Nat.reduceLeDiff, Int.reduceToNat, Int.reduceLE, Int.reduceLT, Int.reduceEq, Int.reduceNeg, reduceCtorEq] <;> (try simp)
    all_goals (repeat' first | assumption | exact nestF_bd _ _ _ _ _ _ _ _ _ | exact nestF_bd1 _ _ _ _ _ _ _ _ _ | exact fun _ _ => nestF_bd1 _ _ _ _ _ _ _ _ _ | exact fun _ _ _ _ => nestF_bd1 _ _ _ _ _ _ _ _ _ | exact fun x hx => catF_one _ hx | refine And.intro ?_ ?_)
  · obtain rfl : k = h := by omega
    rfl
end Go.Eng
end
