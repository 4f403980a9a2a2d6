/-
  A part of the symbolic machine, of its soundness, and of what functions compute. No condition.
-/
import Derived.Test.YtdecicbgjkeefaaX4
set_option linter.unusedSimpArgs false
set_option linter.unusedVariables false
/- press: all choices, and the best way on. No program in sight. -/
section
namespace Go.Eng
open Go Go.RowKit Go.Proofs
set_option maxRecDepth 100000
set_option maxHeartbeats 4000000
attribute [local irreducible] OwnT DefS
def rad (D : PD) (i : Nat) : Nat := if i < D.n then D.M i + 1 else 1
def tot (D : PD) : Nat := rad D 0 * (rad D 1 * rad D 2)
/-- The q-th choices. -/
def dig (D : PD) (q : Nat) : T3 := ⟨(q / (rad D 1 * rad D 2) : Nat), (q / rad D 2 % rad D 1 : Nat), (q % rad D 2 : Nat)⟩
/-- From m on they are off. -/
def zr (m : Nat) (c : T3) : T3 := ⟨if m ≤ 0 then 0 else c.a, if m ≤ 1 then 0 else c.b, if m ≤ 2 then 0 else c.c⟩
theorem zr_set (c : T3) {m : Nat} (h : m < 3) : (zr (m + 1) c).set m 0 = zr m c := by
  rcases (by omega : m = 0 ∨ m = 1 ∨ m = 2) with rfl | rfl | rfl <;> simp [zr, T3.set]
theorem zr_get (c : T3) {m i : Nat} (h : i < m) (h3 : i < 3) : (zr m c).get i = c.get i := by
  rcases (by omega : i = 0 ∨ i = 1 ∨ i = 2) with rfl | rfl | rfl <;> simp [zr, T3.get] <;> omega
theorem M_cases {D : PD} (hD : D.Ok) : (D.n = 1 ∧ (D.M 0 = 1 ∨ D.M 0 = 2)) ∨ (D.n = 2 ∧ (D.M 0 = 1 ∨ D.M 0 = 2) ∧ (D.M 1 = 1 ∨ D.M 1 = 2)) ∨ (D.n = 3 ∧ (D.M 0 = 1 ∨ D.M 0 = 2) ∧ (D.M 1 = 1 ∨ D.M 1 = 2) ∧ (D.M 2 = 1 ∨ D.M 2 = 2)) := by
  have hn := hD.n
  have h0 := hD.M 0 (by omega)
  by_cases h1 : 1 < D.n
  · have g1 := hD.M 1 h1
    by_cases h2 : 2 < D.n
    · have g2 := hD.M 2 h2
      exact .inr (.inr ⟨by omega, by omega, by omega, by omega⟩)
    · exact .inr (.inl ⟨by omega, by omega, by omega⟩)
  · exact .inl ⟨by omega, by omega⟩
theorem dig_ok {D : PD} (hD : D.Ok) {q : Nat} (hq : q < tot D) : chOk D (dig D q) := by
  intro i hi
  unfold tot at hq
  rcases M_cases hD with ⟨e, m0 | m0⟩ | ⟨e, m0 | m0, m1 | m1⟩ | ⟨e, m0 | m0, m1 | m1, m2 | m2⟩
  all_goals
    simp only [rad, e, m0, dig] at hq ⊢
    simp at hq ⊢
    rw [e] at hi
    rcases (by omega : i = 0 ∨ i = 1 ∨ i = 2) with rfl | rfl | rfl
    all_goals first | omega | (simp only [T3.get]; simp [*] at hq ⊢; omega)
theorem dig_zr {D : PD} (hD : D.Ok) (q : Nat) : zr D.n (dig D q) = dig D q := by
  rcases M_cases hD with ⟨e, m0⟩ | ⟨e, m0, m1⟩ | ⟨e, m0, m1, m2⟩
  all_goals simp [zr, dig, e, rad, Nat.mod_one]
theorem dig_next {D : PD} (hD : D.Ok) {q m : Nat} (hq : q < tot D) (hm : m < D.n) (hx : ∀ t, m < t → t < D.n → (dig D q).get t = D.M t) (hne : (dig D q).get m ≠ D.M m) :
    q + 1 < tot D ∧ (zr (m + 1) (dig D q)).set m ((dig D q).get m + 1) = dig D (q + 1) := by
  unfold tot at hq ⊢
  have x1 := hx 1
  have x2 := hx 2
  rcases (by have := hD.n; omega : m = 0 ∨ m = 1 ∨ m = 2) with rfl | rfl | rfl
  all_goals
    rcases M_cases hD with ⟨e, m0 | m0⟩ | ⟨e, m0 | m0, m1 | m1⟩ | ⟨e, m0 | m0, m1 | m1, m2 | m2⟩
  all_goals
    simp [rad, *, T3.get, dig, zr, T3.set] at hq x1 x2 hne hm ⊢
  all_goals
    try omega
theorem dig_last {D : PD} (hD : D.Ok) {q : Nat} (hq : q < tot D) (hx : ∀ t, t < D.n → (dig D q).get t = D.M t) : q + 1 = tot D := by
  unfold tot at hq ⊢
  have x0 := hx 0
  have x1 := hx 1
  have x2 := hx 2
  rcases M_cases hD with ⟨e, m0 | m0⟩ | ⟨e, m0 | m0, m1 | m1⟩ | ⟨e, m0 | m0, m1 | m1, m2 | m2⟩
  all_goals
    simp [rad, *, T3.get, dig] at hq x0 x1 x2 ⊢
  all_goals
    try omega
theorem tot_pos (D : PD) : 0 < tot D := by
  unfold tot rad
  refine Nat.mul_pos ?_ (Nat.mul_pos ?_ ?_) <;> split <;> omega
theorem dig_0 (D : PD) : dig D 0 = ⟨0, 0, 0⟩ := by simp [dig]
def candM (D : PD) (rest : PS → Option (Int × T3)) (s : PS) (hr : Nat) (c : T3) : Option Int :=
  if (hourP D s hr c).e = 0 then (match rest (hourP D s hr c).s with
    | some x => some ((hourP D s hr c).en + (hourP D s hr c).sta + x.1)
    | none => none) else none
def pickM (D : PD) (f : T3 → Option Int) : Nat → Option (Int × T3)
  | 0 => none
  | q + 1 => match f (dig D q) with
    | none => pickM D f q
    | some x => match pickM D f q with
      | none => some (x, dig D q)
      | some y => if x < y.1 then some (x, dig D q) else some y
/-- The least that is left to be paid with k hours left, and the choices with which; none: no plan can be. -/
def bestM (D : PD) : Nat → PS → Option (Int × T3)
  | 0, s => some (s.pk * D.pk, ⟨0, 0, 0⟩)
  | k + 1, s => pickM D (candM D (bestM D k) s (D.h - (k + 1))) (tot D)
theorem pickM_all {D : PD} {f : T3 → Option Int} {P : Int × T3 → Prop} : ∀ (k : Nat), (∀ q x, q < k → f (dig D q) = some x → P (x, dig D q)) → ∀ y, pickM D f k = some y → P y
  | 0, _, y, h => by cases h
  | k + 1, h, y, hy => by
    simp only [pickM] at hy
    split at hy
    · exact pickM_all k (fun q x hq => h q x (by omega)) y hy
    · rename_i x hx
      split at hy
      · cases hy; exact h k x (by omega) hx
      · rename_i z hz
        split at hy
        · cases hy; exact h k x (by omega) hx
        · cases hy; exact pickM_all k (fun q x hq => h q x (by omega)) _ hz
theorem bestM_ok {D : PD} (hD : D.Ok) : ∀ (k : Nat) (s : PS), k ≤ D.h → stOk D s → ∀ y, bestM D k s = some y → (0 ≤ y.1 ∧ y.1 ≤ 30000000 + k * 30030000) ∧ chOk D y.2
  | 0, s, _, hs, y, h => by
    cases h
    have hpk := hD.pk
    have q1 := mulB (x := s.pk) (y := D.pk) (m := 3000) (k := 10000) hs.2.2 hpk
    refine ⟨by simp only []; omega, fun i hi => ?_⟩
    have := (hD.M i hi).1
    rcases (by have := hD.n; omega : i = 0 ∨ i = 1 ∨ i = 2) with rfl | rfl | rfl <;> simp [T3.get]
  | k + 1, s, hk, hs, y, h => by
    simp only [bestM] at h
    refine pickM_all (P := fun y => (0 ≤ y.1 ∧ y.1 ≤ 30000000 + ((k + 1 : Nat) : Int) * 30030000) ∧ chOk D y.2) _ (fun q x hq hx => ?_) y h
    have hc := dig_ok hD hq
    unfold candM at hx
    split at hx
    · rename_i he
      split at hx
      · rename_i z hz
        cases hx
        obtain ⟨h1, h2, h3⟩ := hourP_ok hD hs hc (by omega) he
        obtain ⟨g1, g2⟩ := bestM_ok hD k _ (by omega) h1 z hz
        refine ⟨?_, hc⟩
        simp only []
        omega
      · cases hx
    · cases hx
end Go.Eng
end

/- press: the best way on, with what is known of before. -/
section
namespace Go.Eng
open Go Go.RowKit Go.Proofs
set_option maxRecDepth 100000
set_option maxHeartbeats 4000000
attribute [local irreducible] OwnT DefS
def keyL (hr : Int) (s : PS) : List Int := [hr, s.on.a, s.on.b, s.on.c, s.sto, s.pk]
def wx : Option (Int × T3) → Int
  | none => 0
  | some x => x.1
def wc : Option (Int × T3) → T3
  | none => ⟨0, 0, 0⟩
  | some x => x.2
def wayL (x : Option (Int × T3)) : List Int := [b2i x.isNone, wx x, (wc x).a, (wc x).b, (wc x).c]
def wayC (x : Option (Int × T3)) : List SV := [.bool x.isNone, .int .i64 (wx x), .int .i64 (wc x).a, .int .i64 (wc x).b, .int .i64 (wc x).c]
theorem stepP_ns {n : Nat} {A : Nat → Nat → Int} {M : Nat → Nat} {V : Nat → Nat → Nat → Int} {h : Nat} {nd pr : Nat → Nat → Int} {st ro pk fr : Int} (on c : T3) (i : Nat) (a : PA) :
    stepP ⟨n, nsA (nestF 0 2 A M V), M, V, h, nd, pr, st, ro, pk, fr⟩ on c i a = stepP ⟨n, A, M, V, h, nd, pr, st, ro, pk, fr⟩ on c i a := by
  simp only [stepP, nsA_lit i (show 1 ≠ 0 by omega), nsA_lit i (show 2 ≠ 0 by omega), nsA_lit i (show 3 ≠ 0 by omega)]
theorem stepsP_ns {n : Nat} {A : Nat → Nat → Int} {M : Nat → Nat} {V : Nat → Nat → Nat → Int} {h : Nat} {nd pr : Nat → Nat → Int} {st ro pk fr : Int} (on c : T3) (s : Int) : ∀ i,
    stepsP ⟨n, nsA (nestF 0 2 A M V), M, V, h, nd, pr, st, ro, pk, fr⟩ on c s i = stepsP ⟨n, A, M, V, h, nd, pr, st, ro, pk, fr⟩ on c s i
  | 0 => rfl
  | i + 1 => by simp only [stepsP, stepsP_ns on c s i, stepP_ns]
theorem hourP_ns {n : Nat} {A : Nat → Nat → Int} {M : Nat → Nat} {V : Nat → Nat → Nat → Int} {h : Nat} {nd pr : Nat → Nat → Int} {st ro pk fr : Int} (s : PS) (hr : Nat) (c : T3) :
    hourP ⟨n, nsA (nestF 0 2 A M V), M, V, h, nd, pr, st, ro, pk, fr⟩ s hr c = hourP ⟨n, A, M, V, h, nd, pr, st, ro, pk, fr⟩ s hr c := by
  simp only [hourP, stepsP_ns]
theorem Ok_ns {n : Nat} {A : Nat → Nat → Int} {M : Nat → Nat} {V : Nat → Nat → Nat → Int} {h : Nat} {nd pr : Nat → Nat → Int} {st ro pk fr : Int} :
    PD.Ok ⟨n, nsA (nestF 0 2 A M V), M, V, h, nd, pr, st, ro, pk, fr⟩ = PD.Ok ⟨n, A, M, V, h, nd, pr, st, ro, pk, fr⟩ := by
  have e1 : ∀ i, nsA (nestF 0 2 A M V) i 1 = A i 1 := fun i => nsA_lit i (by omega)
  have e2 : ∀ i, nsA (nestF 0 2 A M V) i 2 = A i 2 := fun i => nsA_lit i (by omega)
  have e3 : ∀ i, nsA (nestF 0 2 A M V) i 3 = A i 3 := fun i => nsA_lit i (by omega)
  have e4 : ∀ i, nsA (nestF 0 2 A M V) i 4 = A i 4 := fun i => nsA_lit i (by omega)
  apply propext
  constructor
  · intro H
    have h5 := H.oil; have h6 := H.least; have h7 := H.on; have h8 := H.start
    simp only [e1, e2, e3, e4] at h5 h6 h7 h8
    exact ⟨H.n, H.h, H.nd, H.pr, h5, h6, h7, h8, H.M, H.pow, H.cold, H.ro, H.st, H.pk, H.fr⟩
  · intro H
    have h5 := H.oil; have h6 := H.least; have h7 := H.on; have h8 := H.start
    refine ⟨H.n, H.h, H.nd, H.pr, ?_, ?_, ?_, ?_, H.M, H.pow, H.cold, H.ro, H.st, H.pk, H.fr⟩ <;> simp only [e1, e2, e3, e4] <;> assumption
def Known (D : PD) (es : List (List Int × List Int)) : Prop :=
  ∀ (i : Nat) (s : PS) (v : List Int), i ≤ D.h → findM es (keyL i s) = some v → v = wayL (bestM D (D.h - i) s)
theorem findM_put : ∀ (es : List (List Int × List Int)) (k v k' : List Int), findM (putM es k v) k' = if k = k' then some v else findM es k'
  | [], k, v, k' => by simp [putM, findM]
  | (k0, v0) :: es, k, v, k' => by
    simp only [putM]
    split
    · rename_i h; subst h
      simp only [findM]
      split <;> rfl
    · rename_i h
      simp only [findM, findM_put es k v k']
      by_cases h1 : k0 = k'
      · subst h1
        rw [if_pos rfl, if_neg (fun e => h e.symm), if_pos rfl]
      · rw [if_neg h1, if_neg h1]
theorem known_put {D : PD} {es : List (List Int × List Int)} (h : Known D es) {i : Nat} {s : PS} {v : List Int} (hv : v = wayL (bestM D (D.h - i) s)) : Known D (putM es (keyL i s) v) := by
  intro i' s' v' hi hf
  rw [findM_put] at hf
  split at hf
  · rename_i e
    obtain ⟨⟨sa, sb, sc⟩, st, sp⟩ := s
    obtain ⟨⟨ta, tb, tc⟩, tt, tp⟩ := s'
    simp only [keyL, List.cons.injEq, and_true] at e
    obtain ⟨e1, rfl, rfl, rfl, rfl, rfl⟩ := e
    obtain rfl : i = i' := by omega
    cases hf
    exact hv
  · exact h i' s' v' hi hf
def mpS (es : List (List Int × List Int)) : MapS := ⟨67, 69, true, [.i, .i, .i, .i, .i, .i], true, [.b, .i, .i, .i, .i], es, none⟩
def bestH (D : PD) (es : List (List Int × List Int)) : List Blk :=
  [.live 25 (prC D), .mp (mpS es), .live 60 [.mapp 1], .live 61 [.func 32 [.ptr 0 0, .ptr 2 0, .ptr 3 0]]]
def catB : List Blk → List Blk → List Blk
  | [], k => k
  | x :: l, k => x :: catB l k
theorem lenB_cat : ∀ (k l : List Blk), lenB (catB k l) = lenB k + lenB l
  | [], l => by simp [catB, lenB]
  | x :: k, l => by simp only [catB, lenB, lenB_cat k l]; omega
def spS (hr : Int) (s : PS) : SV := .agg [.int .i64 hr, .int .i64 s.on.a, .int .i64 s.on.b, .int .i64 s.on.c, .int .i64 s.sto, .int .i64 s.pk]
theorem prC_ren (D : PD) (b v : Nat → Nat) : renL b v (prC D) = prC D := by
  have h : (fun i j => renS b v (nestF 0 2 D.A D.M D.V i j)) = nestF 0 2 D.A D.M D.V := by
    funext i j
    simp only [nestF]
    split <;> simp only [renS]
  simp only [prC, renL, renS, h]
theorem prC_sub (D : PD) : subL (prC D) (prC D) := by simp [prC, subL, subX]
theorem best_trim {D : PD} {args : List SV} {es : List (List Int × List Int)} {w : Option (Int × T3)}
    (h : CallsS Try.prog 32 args ⟨bestH D es, []⟩ (fun o h' => ∃ es' ext V, Known D es' ∧ o = .ret (.agg (wayC w)) ∧ h' = ⟨catB (bestH D es') ext, V⟩)) :
    CallsS Try.prog 32 args ⟨bestH D es, []⟩ (fun o h' => ∃ es', Known D es' ∧ o = .ret (.agg (wayC w)) ∧ h' = ⟨bestH D es', []⟩) := by
  refine calls_trim h ?_
  rintro o h' ⟨es', ext, V, h1, rfl, rfl⟩
  refine ⟨.agg (wayC w), .agg (wayC w), ⟨bestH D es', []⟩, ⟨rfl, es', h1, rfl, rfl⟩, ⟨?_, ?_, ?_, ?_, ?_, ?_⟩, ⟨?_, ?_⟩, ⟨?_, ?_⟩⟩ <;> simp only [wayC, bestH, catB, go_sem, ↓reduceIte, Nat.reduceAdd, Nat.reduceSub, Nat.reduceMul, Nat.reduceEqDiff, Nat.reduceLT, Nat.reduceLeDiff, Int.reduceToNat, Int.reduceLE, Int.reduceLT, Int.reduceEq, Int.reduceNeg, reduceCtorEq] <;> (try simp)
  all_goals first | exact prC_bd D _ _ | exact prC_sub D | exact ⟨prC_sub D, rfl⟩ | exact ⟨prC_bd D _ _, trivial⟩ | exact ⟨prC_bd D _ _, rfl⟩
theorem best_frame {D : PD} {hr : Int} {s : PS} {es : List (List Int × List Int)} {w : Option (Int × T3)} (rest : List Blk) (V : List Vc)
    (h : CallsS Try.prog 32 [spS hr s, .ptr 0 0, .ptr 2 0, .ptr 3 0] ⟨bestH D es, []⟩ (fun o h' => ∃ es', Known D es' ∧ o = .ret (.agg (wayC w)) ∧ h' = ⟨bestH D es', []⟩)) :
    CallsS Try.prog 32 [spS hr s, .ptr 0 0, .ptr 2 0, .ptr 3 0] ⟨catB (bestH D es) rest, V⟩ (fun o h' => ∃ es', Known D es' ∧ o = .ret (.agg (wayC w)) ∧ h' = ⟨catB (bestH D es') rest, V⟩) := by
  have := calls_ren (h := ⟨catB (bestH D es) rest, V⟩) [0, 1, 2, 3] [] h (by decide) (by decide) (by simp [spS, BdL, Bd]) (by simp [bestH, bdB, BdL, Bd]; exact ⟨prC_bd D _ _, rfl⟩) (by simp only [go_sem, ↓reduceIte, Nat.reduceAdd, Nat.reduceSub, Nat.reduceMul, Nat.reduceEqDiff, Nat.reduceLT, Nat.reduceLeDiff, Int.reduceToNat, Int.reduceLE, Int.reduceLT, Int.reduceEq, Int.reduceNeg, reduceCtorEq])
    (by simp only [bestH, catB, prC_ren, go_sem, ↓reduceIte, Nat.reduceAdd, Nat.reduceSub, Nat.reduceMul, Nat.reduceEqDiff, Nat.reduceLT, Nat.reduceLeDiff, Int.reduceToNat, Int.reduceLE, Int.reduceLT, Int.reduceEq, Int.reduceNeg, reduceCtorEq]) (by simp only [go_sem, ↓reduceIte, Nat.reduceAdd, Nat.reduceSub, Nat.reduceMul, Nat.reduceEqDiff, Nat.reduceLT, Nat.reduceLeDiff, Int.reduceToNat, Int.reduceLE, Int.reduceLT, Int.reduceEq, Int.reduceNeg, reduceCtorEq]) (by intro k hk; simp only [lenB_cat, bestH, go_sem, ↓reduceIte, Nat.reduceAdd, Nat.reduceSub, Nat.reduceMul, Nat.reduceEqDiff, Nat.reduceLT, Nat.reduceLeDiff, Int.reduceToNat, Int.reduceLE, Int.reduceLT, Int.reduceEq, Int.reduceNeg, reduceCtorEq]; simp at hk; omega) (by simp)
    (by rintro o h' ⟨es', h1, rfl, rfl⟩; simp [wayC, bestH, bdO, bdB, bdV, BdL, Bd, lenB, lenV]; exact ⟨prC_bd D _ _, rfl⟩)
  refine calls_mono ?_ this
  rintro o h' ⟨o0, h0', ⟨es', h1, rfl, rfl⟩, rfl, rfl⟩
  refine ⟨es', h1, ?_, ?_⟩
  · simp only [wayC, go_sem, ↓reduceIte, Nat.reduceAdd, Nat.reduceSub, Nat.reduceMul, Nat.reduceEqDiff, Nat.reduceLT, Nat.reduceLeDiff, Int.reduceToNat, Int.reduceLE, Int.reduceLT, Int.reduceEq, Int.reduceNeg, reduceCtorEq]
  · simp only [bestH, catB, prC_ren, go_sem, ↓reduceIte, Nat.reduceAdd, Nat.reduceSub, Nat.reduceMul, Nat.reduceEqDiff, Nat.reduceLT, Nat.reduceLeDiff, Int.reduceToNat, Int.reduceLE, Int.reduceLT, Int.reduceEq, Int.reduceNeg, reduceCtorEq]
end Go.Eng
end

/- press: the best way on, evaluated. -/
section
namespace Go.Eng
open Go Go.RowKit Go.Proofs
set_option maxRecDepth 100000
set_option maxHeartbeats 4000000
attribute [local irreducible] OwnT DefS
theorem T3.over3 (x : T3) (v : Int) {i : Nat} (h : i < 3) : over [.int .i64 x.a, .int .i64 x.b, .int .i64 x.c] (i * 1) [.int .i64 v] = [.int .i64 (x.set i v).a, .int .i64 (x.set i v).b, .int .i64 (x.set i v).c] := by
  rcases (by omega : i = 0 ∨ i = 1 ∨ i = 2) with rfl | rfl | rfl <;> rfl
theorem wx_some (x : Int × T3) : wx (some x) = x.1 := rfl
theorem wc_some (x : Int × T3) : wc (some x) = x.2 := rfl
theorem best_calls {D : PD} (hD : D.Ok) : ∀ (k i : Nat) (s : PS) (es : List (List Int × List Int)), i + k = D.h → stOk D s → Known D es →
    CallsS Try.prog 32 [spS i s, .ptr 0 0, .ptr 2 0, .ptr 3 0] ⟨bestH D es, []⟩ (fun o h' => ∃ es', Known D es' ∧ o = .ret (.agg (wayC (bestM D k s))) ∧ h' = ⟨bestH D es', []⟩) := by
  have hh := hD.h
  have hpk := hD.pk
  intro k
  induction k with
  | zero =>
    intro i s es hi hs hes
    obtain rfl : i = D.h := by omega
    have q1 := mulB (x := s.pk) (y := D.pk) (m := 3000) (k := 10000) hs.2.2 hpk
    have w1 : IntKind.i64.wrap (s.pk * D.pk) = s.pk * D.pk := wrap_id (by omega) (by omega)
    refine best_trim (calls_of_run (C := cx [32] [] [(34, triedBase)] [] none) (cx_ok trivial ⟨tried_base, trivial⟩) rfl fn_32 rfl 1000 ?_)
    simp only [Try.f32, spS, bestH, mpS, prC, w1, go_sem, ↓reduceIte, Nat.reduceAdd, Nat.reduceSub, Nat.reduceMul, Nat.reduceEqDiff, Nat.reduceLT, Nat.reduceLeDiff, Int.reduceToNat, Int.reduceLE, Int.reduceLT, Int.reduceEq, Int.reduceNeg, reduceCtorEq]
    refine ⟨es, [.live 67 [.int .i64 D.h, .int .i64 s.on.a, .int .i64 s.on.b, .int .i64 s.on.c, .int .i64 s.sto, .int .i64 s.pk], .live 69 [.bool false, .int .i64 (s.pk * D.pk), .int .i64 0, .int .i64 0, .int .i64 0]], [], hes, rfl, rfl⟩
  | succ k ih =>
    intro i s es hi hs hes
    refine best_trim (calls_of_run (C := cx [32] [] [(34, triedBase)] [(58, 3, p58_3)] none) (cx_ok trivial ⟨tried_base, trivial⟩) rfl fn_32 rfl 1000 ?_)
    simp only [Try.f32, Try.f33, Try.f58, spS, bestH, mpS, prC, tried_eq, p58_3, go_sem, ↓reduceIte, Nat.reduceAdd, Nat.reduceSub, Nat.reduceMul, Nat.reduceEqDiff, Nat.reduceLT, Nat.reduceLeDiff, Int.reduceToNat, Int.reduceLE, Int.reduceLT, Int.reduceEq, Int.reduceNeg, reduceCtorEq]
    have ei : ((i : Int) = (D.h : Int)) = False := eq_false (by omega)
    simp only [ei, go_sem, ↓reduceIte, Nat.reduceAdd, Nat.reduceSub, Nat.reduceMul, Nat.reduceEqDiff, Nat.reduceLT, Nat.reduceLeDiff, Int.reduceToNat, Int.reduceLE, Int.reduceLT, Int.reduceEq, Int.reduceNeg, reduceCtorEq]
    have hlk : hasM es [(i : Int), s.on.a, s.on.b, s.on.c, s.sto, s.pk] = true → lookM es [(i : Int), s.on.a, s.on.b, s.on.c, s.sto, s.pk] = wayL (bestM D (k + 1) s) := fun h => by
      unfold hasM at h
      unfold lookM
      cases hf : findM es [(i : Int), s.on.a, s.on.b, s.on.c, s.sto, s.pk] with
      | none => rw [hf] at h; cases h
      | some v =>
        have := hes i s v (by omega) hf
        rw [show D.h - i = k + 1 by omega] at this
        simpa using this
    refine ⟨fun c2 => ?_, fun c2 => ?_⟩
    · rw [hlk c2]
      refine ⟨es, [.live 67 [.int .i64 (i : Int), .int .i64 s.on.a, .int .i64 s.on.b, .int .i64 s.on.c, .int .i64 s.sto, .int .i64 s.pk], .live 69 (wayC (bestM D (k + 1) s)), .live 69 (wayC (bestM D (k + 1) s))], [], hes, ?_, ?_⟩
      · simp only [wayL, wayC, gt]
        cases (bestM D (k + 1) s).isNone <;> simp [b2i]
      · simp only [wayL, wayC, gt, catB]
        cases (bestM D (k + 1) s).isNone <;> simp [b2i]
    have hbest : bestM D (k + 1) s = pickM D (candM D (bestM D k) s i) (tot D) := by
      simp only [bestM, show D.h - (k + 1) = i by omega]
    generalize hF : candM D (bestM D k) s i = F at hbest
    refine loop_ofH { x : Nat × List (List Int × List Int) // x.1 < tot D ∧ Known D x.2 } (fun x => [(3, .ptr 10 0), (1, .ptr 8 0), (0, .yield 9)])
      (fun h x => ⟨[.live 25 (prC D), .mp (mpS x.1.2), .live 60 [.mapp 1], .live 61 [.func 32 [.ptr 0 0, .ptr 2 0, .ptr 3 0]], getB h.blks 4, .live 69 [.bool false, .int .i64 0, .int .i64 0, .int .i64 0, .int .i64 0], getB h.blks 6, .live 69 (wayC (pickM D F x.1.1)), .live 74 [.ptr 0 0], getB h.blks 9, .live 63 [.int .i64 (dig D x.1.1).a, .int .i64 (dig D x.1.1).b, .int .i64 (dig D x.1.1).c]], []⟩)
      (fun x => tot D - x.1.1) (fun _ => ⟨rfl, rfl⟩) ⟨(0, es), tot_pos D, hes⟩ (by simp only [prC, mpS, wayC, pickM, dig_0]; (apply sub_of <;> simp only [go_sem, ↓reduceIte, Nat.reduceAdd, Nat.reduceSub, Nat.reduceMul, Nat.reduceEqDiff, Nat.reduceLT, Nat.reduceLeDiff, Int.reduceToNat, Int.reduceLE, Int.reduceLT, Int.reduceEq, Int.reduceNeg, reduceCtorEq] <;> (try simp [catF]) <;> (try exact fun j _ => Bd_nth (by simp [BdL, Bd]) j) <;> (try exact bd_setL (by simp [bdAs, BdL, Bd])) <;> (try exact nestF_bd _ _ _ _ _ _ _ _ _)); all_goals first | exact ⟨rfl, rfl, rfl, rfl⟩ | exact ⟨nestF_bd _ _ _ _ _ _ _ _ _, bd_setL (by simp [bdAs, BdL, Bd])⟩) ?_
    rintro ⟨⟨q, es⟩, hq, hes⟩
    simp only at hq hes
    simp only [Try.f32, Try.f33, Try.f58, prC, mpS, wayC, hrS, psS, tried_eq, nestR_lit, nsM_lit, nsV_lit, hourP_ns, Ok_ns, p58_3, go_sem, ↓reduceIte, Nat.reduceAdd, Nat.reduceSub, Nat.reduceMul, Nat.reduceEqDiff, Nat.reduceLT, Nat.reduceLeDiff, Int.reduceToNat, Int.reduceLE, Int.reduceLT, Int.reduceEq, Int.reduceNeg, reduceCtorEq]
    have hcd := dig_ok hD hq
    generalize hR : hourP _ _ _ _ = R
    have hR : hourP D s i (dig D q) = R := hR
    refine ⟨⟨hD, hs, hcd, by omega, by omega⟩, fun e1 => ?brnA, fun e1 => ?brnB⟩
    all_goals simp only [Bool.not_eq_true', Bool.not_eq_false', decide_eq_true_eq, decide_eq_false_iff_not] at e1
    case' brnA =>
      have hK := hes
      have hp : pickM D F (q + 1) = pickM D F q := by
        have : F (dig D q) = none := by rw [← hF, candM, hR, if_neg e1]
        simp only [pickM, this]
    case' brnB =>
      have hok := hourP_ok hD hs hcd (hr := i) (by omega) (by rw [hR]; exact e1)
      rw [hR] at hok
      obtain ⟨o1, o2, o3⟩ := hok
      have hcall := ih (i + 1) R.s es (by omega) o1 hes
      have hb := bestM_ok hD k R.s (by omega) o1
      have w1 : IntKind.i64.wrap ((i : Int) + 1) = ((i + 1 : Nat) : Int) := by rw [wrap_id (by omega) (by omega)]; omega
      rw [w1]
      have hFq : F (dig D q) = match bestM D k R.s with | some x => some (R.en + R.sta + x.1) | none => none := by
        rw [← hF, candM, hR, if_pos e1]
        all_goals (cases bestM D k R.s <;> rfl)
      generalize bestM D k R.s = A at hcall hb hFq
      unfold callS
      refine calls_mono ?_ (best_frame _ _ hcall)
      rintro o h' ⟨es', hK, rfl, rfl⟩
      simp only [Try.f32, Try.f33, Try.f58, bestH, catB, prC, mpS, wayC, hrS, psS, tried_eq, nestR_lit, nsM_lit, nsV_lit, hourP_ns, Ok_ns, p58_3, go_sem, ↓reduceIte, Nat.reduceAdd, Nat.reduceSub, Nat.reduceMul, Nat.reduceEqDiff, Nat.reduceLT, Nat.reduceLeDiff, Int.reduceToNat, Int.reduceLE, Int.reduceLT, Int.reduceEq, Int.reduceNeg, reduceCtorEq]
      refine ⟨fun c1 => ⟨fun c2 => ?brn1, fun c2 => ⟨fun c3 => ?brn2, fun c3 => ?brn3⟩⟩, fun c1 => ?brn4⟩
    case' brn4 =>
      have hp : pickM D F (q + 1) = pickM D F q := by
        obtain rfl : A = none := by simpa using c1
        simp only [pickM, hFq]
    case' brn1 =>
      obtain ⟨a, rfl⟩ : ∃ a, A = some a := by cases A with | none => cases c1 | some a => exact ⟨a, rfl⟩
      have hb1 := (hb a rfl).1
      have hp : pickM D F (q + 1) = some (IntKind.i64.wrap (IntKind.i64.wrap (R.en + R.sta) + wx (some a)), dig D q) := by
        rw [wx_some, wrap_id (x := R.en + R.sta) (by omega) (by omega), wrap_id (by omega) (by omega)]
        have : pickM D F q = none := by simpa using c2
        simp only [pickM, hFq, this]
    case' brn2 =>
      obtain ⟨a, rfl⟩ : ∃ a, A = some a := by cases A with | none => cases c1 | some a => exact ⟨a, rfl⟩
      have hb1 := (hb a rfl).1
      have hp : pickM D F (q + 1) = some (IntKind.i64.wrap (IntKind.i64.wrap (R.en + R.sta) + wx (some a)), dig D q) := by
        rw [wx_some, wrap_id (x := R.en + R.sta) (by omega) (by omega), wrap_id (by omega) (by omega)] at c3 ⊢
        obtain ⟨y, hy⟩ : ∃ y, pickM D F q = some y := by cases hpq : pickM D F q with | none => rw [hpq] at c2; cases c2 | some y => exact ⟨y, rfl⟩
        rw [hy, wx_some] at c3
        simp only [pickM, hFq, hy, if_pos (of_decide_eq_true c3)]
    case' brn3 =>
      obtain ⟨a, rfl⟩ : ∃ a, A = some a := by cases A with | none => cases c1 | some a => exact ⟨a, rfl⟩
      have hb1 := (hb a rfl).1
      have hp : pickM D F (q + 1) = pickM D F q := by
        rw [wx_some, wrap_id (x := R.en + R.sta) (by omega) (by omega), wrap_id (by omega) (by omega)] at c3
        obtain ⟨y, hy⟩ : ∃ y, pickM D F q = some y := by cases hpq : pickM D F q with | none => rw [hpq] at c2; cases c2 | some y => exact ⟨y, rfl⟩
        rw [hy, wx_some] at c3
        simp only [pickM, hFq, hy, if_neg (of_decide_eq_false c3)]
    all_goals
      have wn : IntKind.i64.wrap ((D.n : Int) - 1) = (D.n : Int) - 1 := by have := hD.n; exact wrap_id (by omega) (by omega)
      refine loop_ofH { m : Nat // m ≤ D.n ∧ ∀ t, m ≤ t → t < D.n → (dig D q).get t = D.M t } (fun m => [(4, .int .i64 ((m.1 : Int) - 1)), (3, .ptr 10 0), (1, .ptr 8 0), (0, .yield 9)])
        (fun h m => ⟨setB h.blks 10 (.live 63 [.int .i64 (zr m.1 (dig D q)).a, .int .i64 (zr m.1 (dig D q)).b, .int .i64 (zr m.1 (dig D q)).c]), h.vecs⟩) (fun m => m.1) (fun _ => ⟨by simp only [lenB_set], rfl⟩) ⟨D.n, Nat.le_refl _, fun t h1 h2 => absurd h1 (by omega)⟩ (by simp only [dig_zr hD, wn]; (apply sub_of <;> simp only [go_sem, ↓reduceIte, Nat.reduceAdd, Nat.reduceSub, Nat.reduceMul, Nat.reduceEqDiff, Nat.reduceLT, Nat.reduceLeDiff, Int.reduceToNat, Int.reduceLE, Int.reduceLT, Int.reduceEq, Int.reduceNeg, reduceCtorEq] <;> (try simp [catF]) <;> (try exact fun j _ => Bd_nth (by simp [BdL, Bd]) j) <;> (try exact bd_setL (by simp [bdAs, BdL, Bd])) <;> (try exact nestF_bd _ _ _ _ _ _ _ _ _)); exact ⟨nestF_bd _ _ _ _ _ _ _ _ _, bd_setL (by simp [bdAs, BdL, Bd])⟩) ?_
      rintro ⟨m, hm, hmx⟩
      cases m with
      | zero =>
        have hl := dig_last hD hq (fun t => hmx t (Nat.zero_le _))
        have z1 : (0 ≤ ((0 : Nat) : Int) - 1) = False := eq_false (by omega)
        have z2 : (((0 : Nat) : Int) - 1 < 0) = True := eq_true (by omega)
        simp only [Try.f32, Try.f33, Try.f58, z1, z2, prC, mpS, wayC, hrS, psS, tried_eq, nestR_lit, nsM_lit, nsV_lit, hourP_ns, Ok_ns, p58_3, go_sem, ↓reduceIte, Nat.reduceAdd, Nat.reduceSub, Nat.reduceMul, Nat.reduceEqDiff, Nat.reduceLT, Nat.reduceLeDiff, Int.reduceToNat, Int.reduceLE, Int.reduceLT, Int.reduceEq, Int.reduceNeg, reduceCtorEq]
        refine ⟨⟨by kernel_rfl, by kernel_rfl⟩, ?_⟩
        rw [hbest, ← hl, hp]
        refine ⟨putM _ (keyL i s) (wayL _), _, _, known_put hK (by rw [show D.h - i = k + 1 by omega, hbest, ← hl, hp]), rfl, rfl⟩
      | succ m =>
        have h3 : m < 3 := by have := hD.n; omega
        have n3 := fun x => T3.nth3 x h3
        have v3 := fun x v => T3.over3 x v h3
        have hm1 : ((m + 1 : Nat) : Int) - 1 = (m : Int) := by omega
        have z2 : (((m : Nat) : Int) < 0) = False := eq_false (by omega)
        have z1 : (0 ≤ ((m : Nat) : Int)) = True := eq_true (by omega)
        simp only [Try.f32, Try.f33, Try.f58, n3, v3, hm1, z1, z2, zr_get _ (Nat.lt_succ_self m) h3, zr_set _ h3, nestF_eq, prC, mpS, wayC, hrS, psS, tried_eq, nestR_lit, nsM_lit, nsV_lit, hourP_ns, Ok_ns, p58_3, go_sem, ↓reduceIte, Nat.reduceAdd, Nat.reduceSub, Nat.reduceMul, Nat.reduceEqDiff, Nat.reduceLT, Nat.reduceLeDiff, Int.reduceToNat, Int.reduceLE, Int.reduceLT, Int.reduceEq, Int.reduceNeg, reduceCtorEq]
        have hg := dig_ok hD hq m (by omega)
        have hMm := hD.M m (by omega)
        have w4 : IntKind.i64.wrap ((dig D q).get m + 1) = (dig D q).get m + 1 := wrap_id (by omega) (by omega)
        have w5 : IntKind.i64.wrap ((m : Int) - 1) = (m : Int) - 1 := wrap_id (by omega) (by omega)
        refine ⟨⟨by kernel_rfl, by kernel_rfl⟩, by omega, by omega, by omega, fun e5 => ?_, fun e5 => ?_⟩
        all_goals simp only [decide_eq_true_eq, decide_eq_false_iff_not] at e5
        · refine ⟨by omega, by omega, ⟨m, by omega, fun t h1 h2 => ?_⟩, by simp only []; omega, ?_⟩
          · rcases Nat.lt_or_ge m t with h | h
            · exact hmx t h h2
            · obtain rfl : t = m := by omega
              exact e5
          · apply sub_of <;> simp only [w5, go_sem, ↓reduceIte, Nat.reduceAdd, Nat.reduceSub, Nat.reduceMul, Nat.reduceEqDiff, Nat.reduceLT, Nat.reduceLeDiff, Int.reduceToNat, Int.reduceLE, Int.reduceLT, Int.reduceEq, Int.reduceNeg, reduceCtorEq] <;> (try simp) <;> exact ⟨nestF_bd _ _ _ _ _ _ _ _ _, bd_setL (by simp [bdAs, BdL, Bd])⟩
        · obtain ⟨g1, g2⟩ := dig_next hD hq (by omega) (fun t h1 h2 => hmx t (by omega) h2) e5
          refine ⟨by omega, by omega, by omega, by omega, ⟨(q + 1, _), g1, hK⟩, by simp only []; omega, ?_⟩
          apply sub_of <;> simp only [w4, g2, hp, wx_some, wc_some, Option.isNone_some, mpS, go_sem, ↓reduceIte, Nat.reduceAdd, Nat.reduceSub, Nat.reduceMul, Nat.reduceEqDiff, Nat.reduceLT, Nat.reduceLeDiff, Int.reduceToNat, Int.reduceLE, Int.reduceLT, Int.reduceEq, Int.reduceNeg, reduceCtorEq] <;> (try simp) <;> exact ⟨nestF_bd _ _ _ _ _ _ _ _ _, bd_setL (by simp [bdAs, BdL, Bd])⟩
end Go.Eng
end

/- press: the cheapest plan. -/
section
namespace Go.Eng
open Go Go.RowKit Go.Proofs
set_option maxRecDepth 100000
set_option maxHeartbeats 4000000
attribute [local irreducible] OwnT DefS
theorem pickM_some {D : PD} {f : T3 → Option Int} : ∀ (k : Nat) {y : Int × T3}, pickM D f k = some y → ∃ q, q < k ∧ y.2 = dig D q ∧ f y.2 = some y.1
  | 0, y, h => by cases h
  | k + 1, y, h => by
    simp only [pickM] at h
    split at h
    · obtain ⟨q, h1, h2⟩ := pickM_some k h
      exact ⟨q, by omega, h2⟩
    · rename_i x hx
      split at h
      · cases h; exact ⟨k, by omega, rfl, hx⟩
      · rename_i z hz
        split at h
        · cases h; exact ⟨k, by omega, rfl, hx⟩
        · cases h
          obtain ⟨q, h1, h2⟩ := pickM_some k hz
          exact ⟨q, by omega, h2⟩
theorem candM_some {D : PD} {rest : PS → Option (Int × T3)} {s : PS} {hr : Nat} {c : T3} {x : Int} (h : candM D rest s hr c = some x) :
    (hourP D s hr c).e = 0 ∧ ∃ z, rest (hourP D s hr c).s = some z ∧ x = (hourP D s hr c).en + (hourP D s hr c).sta + z.1 := by
  unfold candM at h
  split at h
  · rename_i he
    split at h
    · rename_i z hz
      cases h
      exact ⟨he, z, hz, rfl⟩
    · cases h
  · cases h
theorem bestM_some {D : PD} (hD : D.Ok) {k : Nat} {s : PS} {y : Int × T3} (h : bestM D (k + 1) s = some y) :
    chOk D y.2 ∧ (hourP D s (D.h - (k + 1)) y.2).e = 0 ∧ ∃ z, bestM D k (hourP D s (D.h - (k + 1)) y.2).s = some z ∧ y.1 = (hourP D s (D.h - (k + 1)) y.2).en + (hourP D s (D.h - (k + 1)) y.2).sta + z.1 := by
  obtain ⟨q, h1, h2, h3⟩ := pickM_some _ h
  obtain ⟨h4, h5⟩ := candM_some h3
  exact ⟨by rw [h2]; exact dig_ok hD h1, h4, h5⟩
/-- The state ahead of an hour of the cheapest plan, and its choices. -/
def sAt (D : PD) : Nat → PS
  | 0 => begP D
  | i + 1 => (hourP D (sAt D i) i (wc (bestM D (D.h - i) (sAt D i)))).s
def cAt (D : PD) (i : Nat) : T3 := wc (bestM D (D.h - i) (sAt D i))
theorem sAt_succ (D : PD) (i : Nat) : sAt D (i + 1) = (hourP D (sAt D i) i (cAt D i)).s := rfl
theorem sAt_ok {D : PD} (hD : D.Ok) (hb : (bestM D D.h (begP D)).isNone = false) : ∀ i, i ≤ D.h → stOk D (sAt D i) ∧ (bestM D (D.h - i) (sAt D i)).isNone = false ∧ (i < D.h → chOk D (cAt D i) ∧ (hourP D (sAt D i) i (cAt D i)).e = 0) := by
  intro i
  induction i with
  | zero =>
    intro _
    refine ⟨begP_ok hD, hb, fun h0 => ?_⟩
    obtain ⟨k, hk⟩ : ∃ k, D.h = k + 1 := ⟨D.h - 1, by omega⟩
    obtain ⟨y, hy⟩ : ∃ y, bestM D D.h (begP D) = some y := by cases hq : bestM D D.h (begP D) with | none => rw [hq] at hb; cases hb | some y => exact ⟨y, rfl⟩
    have e : cAt D 0 = y.2 := by simp only [cAt, Nat.sub_zero, sAt, hy, wc_some]
    rw [e]
    rw [hk] at hy
    obtain ⟨g1, g2, _⟩ := bestM_some hD hy
    rw [show D.h - (k + 1) = 0 by omega] at g2
    exact ⟨g1, g2⟩
  | succ i ih =>
    intro hi
    obtain ⟨h1, h2, h3⟩ := ih (by omega)
    obtain ⟨h4, h5⟩ := h3 (by omega)
    have h6 := (hourP_ok hD h1 h4 (hr := i) (by omega) h5).1
    have h7 : (bestM D (D.h - (i + 1)) (sAt D (i + 1))).isNone = false := by
      obtain ⟨y, hy⟩ : ∃ y, bestM D (D.h - i) (sAt D i) = some y := by cases hq : bestM D (D.h - i) (sAt D i) with | none => rw [hq] at h2; cases h2 | some y => exact ⟨y, rfl⟩
      have e : cAt D i = y.2 := by simp only [cAt, hy, wc_some]
      rw [show D.h - i = (D.h - (i + 1)) + 1 by omega] at hy
      obtain ⟨_, _, z, g3, _⟩ := bestM_some hD hy
      rw [show D.h - (D.h - (i + 1) + 1) = i by omega] at g3
      rw [sAt_succ, e, g3]
      rfl
    refine ⟨h6, h7, fun hlt => ?_⟩
    obtain ⟨y, hy⟩ : ∃ y, bestM D (D.h - (i + 1)) (sAt D (i + 1)) = some y := by cases hq : bestM D (D.h - (i + 1)) (sAt D (i + 1)) with | none => rw [hq] at h7; cases h7 | some y => exact ⟨y, rfl⟩
    have e : cAt D (i + 1) = y.2 := by simp only [cAt, hy, wc_some]
    rw [show D.h - (i + 1) = (D.h - (i + 2)) + 1 by omega] at hy
    obtain ⟨g1, g2, _⟩ := bestM_some hD hy
    rw [show D.h - (D.h - (i + 2) + 1) = i + 1 by omega] at g2
    rw [e]
    exact ⟨g1, g2⟩
def chE (b : Bool) (D : PD) : Int := if b then (if (bestM D D.h (begP D)).isNone then 4 else 0) else 1
def chC (b : Bool) (D : PD) : Int := if chE b D = 0 then wx (bestM D D.h (begP D)) else 0
def chN (b : Bool) (D : PD) : Nat := if chE b D = 0 then D.h else 0
/-- A plan, as rows. -/
def z0 : Nat → Nat → Int := fun _ _ => 0
def plV (c : Nat → T3) : Nat → Nat → Nat → Int := fun i a _ => (c i).get a
def planF (n : Nat) (c : Nat → T3) : Nat → Nat → SV := nestF 0 1 z0 (fun _ => n) (plV c)
theorem known_nil (D : PD) : Known D [] := fun i s v _ h => by simp [findM] at h
def planG (n : Nat) (c : Nat → T3) : Nat → Nat → SV := fun i _ => .row n 1 (fun a _ => nth [.int .i64 (c i).a, .int .i64 (c i).b, .int .i64 (c i).c] a)
theorem frzF_nth (k : Nat) (h : HS) : ∀ (l : List SV) (j : Nat), frzF (k + 1) h (nth l j) = nth (mapF (frzF (k + 1) h) l) j
  | [], j => by cases j <;> rfl
  | x :: l, 0 => rfl
  | x :: l, j + 1 => frzF_nth k h l j
theorem planG_frz (k : Nat) (h : HS) (n : Nat) (c : Nat → T3) (i j : Nat) : frzF (k + 1) h (planG n c i j) = planG n c i j := rfl
theorem planG_bd (n : Nat) (c : Nat → T3) (L K i j : Nat) : Bd L K (planG n c i j) := by
  simp only [planG, Bd]
  exact fun a _ _ _ => Bd_nth (by simp [BdL, Bd]) a
theorem planG_same {n : Nat} (hn : n ≤ 3) (c : Nat → T3) (i j : Nat) (hj : j < 1) : SameD (planG n c i j) (planF n c i j) := by
  obtain rfl : j = 0 := by omega
  refine SameD.rowD fun a b ha hb => ?_
  rcases (by omega : a = 0 ∨ a = 1 ∨ a = 2) with rfl | rfl | rfl <;> exact SameD.rfl' _
theorem planF_bd (n : Nat) (c : Nat → T3) (L K i j : Nat) : Bd L K (planF n c i j) := nestF_bd1 _ _ _ _ _ _ _ i j
theorem onI_ns (A : Nat → Nat → Int) (M : Nat → Nat) (V : Nat → Nat → Nat → Int) (n : Nat) : onI (nsA (nestF 0 2 A M V)) n = onI A n := by
  simp only [onI, nsA_lit _ (show 4 ≠ 0 by omega)]
theorem psB_ns (n : Nat) (A : Nat → Nat → Int) (M : Nat → Nat) (V : Nat → Nat → Nat → Int) (h : Nat) (nd : Nat → Nat → Int) (q : Nat) (pr : Nat → Nat → Int) (st ro pk fr : Int) :
    psB n (nsA (nestF 0 2 A M V)) M V h nd q pr st ro pk fr = psB n A M V h nd q pr st ro pk fr := by
  simp only [psB, prB_ns]
def cheapestBase : BaseF := fun args => match args with
  | [.agg [.row n sz_A f_A, .row h sz_nd f_nd, .row q sz_pr f_pr, .int .i64 st, .int .i64 ro, .int .i64 pk, .int .i64 fr]] => some ((sz_A = 5 ∧ NestR n 5 0 2 f_A) ∧ (sz_nd = 1 ∧ IntR h 1 f_nd) ∧ (sz_pr = 1 ∧ IntR q 1 f_pr) ∧ ((n ≤ 1000000 ∧ ∀ i, i < n → (nsM 0 f_A) i ≤ 1000000) ∧ h ≤ 1000000 ∧ q ≤ 1000000), .tup [.row (chN (psB n (nsA f_A) (nsM 0 f_A) (nsV 0 f_A) h (ivf f_nd) q (ivf f_pr) st ro pk fr) ⟨n, (nsA f_A), (nsM 0 f_A), (nsV 0 f_A), h, (ivf f_nd), (ivf f_pr), st, ro, pk, fr⟩) 1 (planF n (cAt ⟨n, (nsA f_A), (nsM 0 f_A), (nsV 0 f_A), h, (ivf f_nd), (ivf f_pr), st, ro, pk, fr⟩)), .int .i64 (chC (psB n (nsA f_A) (nsM 0 f_A) (nsV 0 f_A) h (ivf f_nd) q (ivf f_pr) st ro pk fr) ⟨n, (nsA f_A), (nsM 0 f_A), (nsV 0 f_A), h, (ivf f_nd), (ivf f_pr), st, ro, pk, fr⟩), .int .i64 (chE (psB n (nsA f_A) (nsM 0 f_A) (nsV 0 f_A) h (ivf f_nd) q (ivf f_pr) st ro pk fr) ⟨n, (nsA f_A), (nsM 0 f_A), (nsV 0 f_A), h, (ivf f_nd), (ivf f_pr), st, ro, pk, fr⟩)])
  | _ => none
theorem cheapest_eq (n : Nat) (sz_A : Nat) (f_A : Nat → Nat → SV) (h : Nat) (sz_nd : Nat) (f_nd : Nat → Nat → SV) (q : Nat) (sz_pr : Nat) (f_pr : Nat → Nat → SV) (st : Int) (ro : Int) (pk : Int) (fr : Int) : cheapestBase [.agg [.row n sz_A f_A, .row h sz_nd f_nd, .row q sz_pr f_pr, .int .i64 st, .int .i64 ro, .int .i64 pk, .int .i64 fr]] = some ((sz_A = 5 ∧ NestR n 5 0 2 f_A) ∧ (sz_nd = 1 ∧ IntR h 1 f_nd) ∧ (sz_pr = 1 ∧ IntR q 1 f_pr) ∧ ((n ≤ 1000000 ∧ ∀ i, i < n → (nsM 0 f_A) i ≤ 1000000) ∧ h ≤ 1000000 ∧ q ≤ 1000000), .tup [.row (chN (psB n (nsA f_A) (nsM 0 f_A) (nsV 0 f_A) h (ivf f_nd) q (ivf f_pr) st ro pk fr) ⟨n, (nsA f_A), (nsM 0 f_A), (nsV 0 f_A), h, (ivf f_nd), (ivf f_pr), st, ro, pk, fr⟩) 1 (planF n (cAt ⟨n, (nsA f_A), (nsM 0 f_A), (nsV 0 f_A), h, (ivf f_nd), (ivf f_pr), st, ro, pk, fr⟩)), .int .i64 (chC (psB n (nsA f_A) (nsM 0 f_A) (nsV 0 f_A) h (ivf f_nd) q (ivf f_pr) st ro pk fr) ⟨n, (nsA f_A), (nsM 0 f_A), (nsV 0 f_A), h, (ivf f_nd), (ivf f_pr), st, ro, pk, fr⟩), .int .i64 (chE (psB n (nsA f_A) (nsM 0 f_A) (nsV 0 f_A) h (ivf f_nd) q (ivf f_pr) st ro pk fr) ⟨n, (nsA f_A), (nsM 0 f_A), (nsV 0 f_A), h, (ivf f_nd), (ivf f_pr), st, ro, pk, fr⟩)]) := rfl
theorem cheapest_base : NB Try.prog 14 cheapestBase := by
  intro args p v hq hp
  unfold cheapestBase at hq
  split at hq
  rotate_left
  · cases hq
  rename_i n sz_A f_A h sz_nd f_nd q sz_pr f_pr st ro pk fr
  cases hq
  obtain ⟨⟨rfl, i_A⟩, ⟨rfl, i_nd⟩, ⟨rfl, i_pr⟩, pre⟩ := hp
  refine nb_of (C := cx [32, 37] [] [(31, arePsBase), (35, beginBase)] [(14, 17, p14_17)] none) (cx_ok trivial ⟨arePs_base, begin_base, trivial⟩) rfl (g := 14) (fn := Try.f14)
    (args' := [.agg [.row n 5 (nestF 0 2 (nsA f_A) (nsM 0 f_A) (nsV 0 f_A)), .row h 1 (rowF .i64 (ivf f_nd)), .row q 1 (rowF .i64 (ivf f_pr)), .int .i64 st, .int .i64 ro, .int .i64 pk, .int .i64 fr]]) (fn_14) rfl 1000 (by
    simp only [BdL, Bd, and_self, and_true, true_and]
    exact ⟨(fun i j hi hj => nest_bd i_A i j hi hj), (fun i j hi hj => by rw [i_nd i j hi hj]; trivial), (fun i j hi hj => by rw [i_pr i j hi hj]; trivial)⟩) ⟨SameD.agg ⟨SameD.nest i_A, SameD.int i_nd, SameD.int i_pr, SameD.rfl' _, SameD.rfl' _, SameD.rfl' _, SameD.rfl' _, trivial⟩, trivial⟩ (by simp only [Bd, BdL, and_true]; exact fun i j _ _ => planF_bd _ _ _ _ _ _) ?_
  generalize nsA f_A = A at *
  generalize nsM 0 f_A = M at *
  generalize nsV 0 f_A = V at *
  generalize ivf f_nd = nd at *
  generalize ivf f_pr = pr at *
  simp only [rowF_eq]
  simp only [arePs_eq, begin_eq, p14_17, Try.f36, nestF_eq, nestR_lit, nsM_lit, nsV_lit, psS, onI_ns, psB_ns, Try.f14, go_sem, ↓reduceIte, Nat.reduceAdd, Nat.reduceSub, Nat.reduceMul, Nat.reduceEqDiff, Nat.reduceLT, Nat.reduceLeDiff, Int.reduceToNat, Int.reduceLE, Int.reduceLT, Int.reduceEq, Int.reduceNeg, reduceCtorEq]
  generalize hb : psB n A M V h nd q pr st ro pk fr = b
  generalize hD : (⟨n, A, M, V, h, nd, pr, st, ro, pk, fr⟩ : PD) = D
  refine ⟨pre, fun c1 => ?_, fun c1 => ?_⟩
  · obtain rfl : b = false := by simpa using c1
    have e1 : chE false D = 1 := rfl
    have e2 : chN false D = 0 := rfl
    have e3 : chC false D = 0 := rfl
    rw [e1, e2, e3]
    refine ⟨fun _ _ hi => absurd hi (by omega), ?_⟩
    apply SameD.tup
    exact ⟨SameD.row0, SameD.rfl' _, SameD.rfl' _, trivial⟩
  · obtain rfl : b = true := by simpa using c1
    obtain ⟨rfl, hOk⟩ := psB_iff.1 hb
    rw [hD] at hOk
    clear pre i_A i_nd i_pr hb c1
    have d0 : n = D.n := by rw [← hD]
    have d1 : A = D.A := by rw [← hD]
    have d2 : M = D.M := by rw [← hD]
    have d3 : V = D.V := by rw [← hD]
    have d4 : q = D.h := by rw [← hD]
    have d5 : nd = D.nd := by rw [← hD]
    have d6 : pr = D.pr := by rw [← hD]
    have d7 : st = D.st := by rw [← hD]
    have d8 : ro = D.ro := by rw [← hD]
    have d9 : pk = D.pk := by rw [← hD]
    have d10 : fr = D.fr := by rw [← hD]
    clear hD
    subst d0 d1 d2 d3 d4 d5 d6 d7 d8 d9 d10
    have hn := hOk.n
    have hh := hOk.h
    have hs0 := begP_ok hOk
    refine ⟨by omega, ?_⟩
    unfold callS
    refine calls_mono ?_ (best_frame (D := D) (hr := (0 : Nat)) (s := begP D) (es := []) (w := bestM D D.h (begP D)) [.live 65 [.int .i64 (onI D.A D.n).a, .int .i64 (onI D.A D.n).b, .int .i64 (onI D.A D.n).c, .int .i64 D.st, .int .i64 0]] [.live 0 23 1 0 fun _ _ => .any] (best_calls hOk D.h 0 (begP D) [] (by omega) hs0 (known_nil D)))
    rintro o h' ⟨es, hes, rfl, rfl⟩
    simp only [arePs_eq, begin_eq, p14_17, Try.f36, nestF_eq, nestR_lit, nsM_lit, nsV_lit, psS, onI_ns, psB_ns, Try.f14, bestH, catB, prC, mpS, wayC, go_sem, ↓reduceIte, Nat.reduceAdd, Nat.reduceSub, Nat.reduceMul, Nat.reduceEqDiff, Nat.reduceLT, Nat.reduceLeDiff, Int.reduceToNat, Int.reduceLE, Int.reduceLT, Int.reduceEq, Int.reduceNeg, reduceCtorEq]
    refine ⟨fun c2 => ?_, fun c2 => ?_⟩
    · have e1 : chE true D = 4 := by simp only [chE, c2, if_true]
      have e2 : chN true D = 0 := by simp only [chN, e1]; rfl
      have e3 : chC true D = 0 := by simp only [chC, e1]; rfl
      rw [e1, e2, e3]
      refine ⟨fun _ _ hi => absurd hi (by omega), ?_⟩
      apply SameD.tup
      exact ⟨SameD.row0, SameD.rfl' _, SameD.rfl' _, trivial⟩
    have e1 : chE true D = 0 := by simp only [chE, c2, if_true, Bool.false_eq_true, if_false]
    have e2 : chN true D = D.h := by simp only [chN, e1, if_true]
    have e3 : chC true D = wx (bestM D D.h (begP D)) := by simp only [chC, e1, if_true]
    rw [e1, e2, e3]
    have hst := sAt_ok hOk c2
    generalize bestM D D.h (begP D) = W at c2
    refine loop_ofH { x : Nat × List (List Int × List Int) // x.1 ≤ D.h ∧ Known D x.2 } (fun x => [(26, .int .i64 (x.1.1 : Int)), (25, .int .i64 (D.h : Int)), (8, .ptr 5 0), (7, .ptr 4 0), (6, .ptr 3 0), (2, .vec 0 x.1.1), (1, .ptr 0 0)])
      (fun h x => ⟨[.live 25 (prC D), .mp (mpS x.1.2), .live 60 [.mapp 1], .live 61 [.func 32 [.ptr 0 0, .ptr 2 0, .ptr 3 0]], .live 65 [.int .i64 (sAt D x.1.1).on.a, .int .i64 (sAt D x.1.1).on.b, .int .i64 (sAt D x.1.1).on.c, .int .i64 (sAt D x.1.1).sto, .int .i64 (sAt D x.1.1).pk], getB h.blks 5], [.live x.1.1 23 1 x.1.1 (planG D.n (cAt D))]⟩)
      (fun x => D.h - x.1.1) (fun _ => ⟨rfl, rfl⟩) ⟨(0, es), Nat.zero_le _, hes⟩ (by simp only [prC, mpS, sAt, begP]; (apply sub_of <;> simp only [go_sem, ↓reduceIte, Nat.reduceAdd, Nat.reduceSub, Nat.reduceMul, Nat.reduceEqDiff, Nat.reduceLT, Nat.reduceLeDiff, Int.reduceToNat, Int.reduceLE, Int.reduceLT, Int.reduceEq, Int.reduceNeg, reduceCtorEq] <;> (try simp [catF]) <;> (try exact fun j _ => Bd_nth (by simp [BdL, Bd]) j) <;> (try exact bd_setL (by simp [bdAs, BdL, Bd])) <;> (try exact nestF_bd _ _ _ _ _ _ _ _ _))) ?_
    rintro ⟨⟨i, es⟩, hi, hes⟩
    simp only at hi hes
    obtain ⟨hs1, hs2, hs3⟩ := hst i hi
    have hw3 : IntKind.i64.wrap ((i : Int) + 1) = ((i + 1 : Nat) : Int) := by rw [wrap_id (by omega) (by omega)]; omega
    simp only [arePs_eq, begin_eq, p14_17, Try.f36, nestF_eq, nestR_lit, nsM_lit, nsV_lit, psS, onI_ns, psB_ns, Try.f14, prC, mpS, go_sem, ↓reduceIte, Nat.reduceAdd, Nat.reduceSub, Nat.reduceMul, Nat.reduceEqDiff, Nat.reduceLT, Nat.reduceLeDiff, Int.reduceToNat, Int.reduceLE, Int.reduceLT, Int.reduceEq, Int.reduceNeg, reduceCtorEq]
    refine ⟨fun c3 => ?_, fun c3 => ?_⟩
    · simp only [decide_eq_true_eq] at c3
      obtain ⟨hc1, hc2⟩ := hs3 (by omega)
      unfold callS
      refine calls_mono ?_ (best_frame (D := D) (hr := (i : Nat)) (s := sAt D i) (es := es) (w := bestM D (D.h - i) (sAt D i)) _ _ (best_calls hOk (D.h - i) i (sAt D i) es (by omega) hs1 hes))
      rintro o h' ⟨es', hes', rfl, rfl⟩
      simp only [arePs_eq, begin_eq, p14_17, Try.f36, nestF_eq, nestR_lit, nsM_lit, nsV_lit, psS, onI_ns, psB_ns, Try.f14, bestH, catB, prC, mpS, wayC, go_sem, ↓reduceIte, Nat.reduceAdd, Nat.reduceSub, Nat.reduceMul, Nat.reduceEqDiff, Nat.reduceLT, Nat.reduceLeDiff, Int.reduceToNat, Int.reduceLE, Int.reduceLT, Int.reduceEq, Int.reduceNeg, reduceCtorEq]
      have e4 : wc (bestM D (D.h - i) (sAt D i)) = cAt D i := rfl
      rw [e4]
      refine ⟨⟨by omega, by omega⟩, ⟨by omega, by omega, by omega⟩, ⟨by omega, by omega⟩, ?_⟩
      have hp := pass0 hOk hs1 hc1 (hr := i) (by omega)
      simp only [prC, psS, tS] at hp
      unfold callS
      refine calls_mono ?_ (calls_lend (K := fun o => o = resP (hourP D (sAt D i) i (cAt D i))) ?_ ?_)
      rotate_left
      · simp only [frzF_nth, go_sem, ↓reduceIte, Nat.reduceAdd, Nat.reduceSub, Nat.reduceMul, Nat.reduceEqDiff, Nat.reduceLT, Nat.reduceLeDiff, Int.reduceToNat, Int.reduceLE, Int.reduceLT, Int.reduceEq, Int.reduceNeg, reduceCtorEq]
        exact fun j _ => Bd_nth (prC_bd D 0 0) j
      · simp only [frzF_nth, go_sem, ↓reduceIte, Nat.reduceAdd, Nat.reduceSub, Nat.reduceMul, Nat.reduceEqDiff, Nat.reduceLT, Nat.reduceLeDiff, Int.reduceToNat, Int.reduceLE, Int.reduceLT, Int.reduceEq, Int.reduceNeg, reduceCtorEq]
        exact hp
      rintro o h' ⟨rfl, rfl⟩
      simp only [resP, hc2, if_true, ← sAt_succ, arePs_eq, begin_eq, p14_17, Try.f36, nestF_eq, nestR_lit, nsM_lit, nsV_lit, psS, onI_ns, psB_ns, Try.f14, go_sem, ↓reduceIte, Nat.reduceAdd, Nat.reduceSub, Nat.reduceMul, Nat.reduceEqDiff, Nat.reduceLT, Nat.reduceLeDiff, Int.reduceToNat, Int.reduceLE, Int.reduceLT, Int.reduceEq, Int.reduceNeg, reduceCtorEq]
      refine ⟨⟨(i + 1, es'), by simp only []; omega, hes'⟩, by simp only []; omega, ?_⟩
      refine sub_fz 2 0 (planG D.n (cAt D)) rfl rfl (by decide) ?_ ?_
      · intro a b ha hb
        rcases Nat.lt_or_ge a i with h1 | h1
        · left
          simp only [catF, if_pos h1]
        · obtain rfl : a = i := by omega
          right
          obtain rfl : b = 0 := by omega
          refine ⟨by simp only [catF, if_neg (Nat.lt_irrefl _), Nat.sub_self]; rfl, ?_⟩
          simp only [planG]
          congr 1
      · apply sub_of <;> simp only [hw3, prC, mpS, go_sem, ↓reduceIte, Nat.reduceAdd, Nat.reduceSub, Nat.reduceMul, Nat.reduceEqDiff, Nat.reduceLT, Nat.reduceLeDiff, Int.reduceToNat, Int.reduceLE, Int.reduceLT, Int.reduceEq, Int.reduceNeg, reduceCtorEq] <;> (try simp) <;> (try exact fun j _ => Bd_nth (by simp [BdL, Bd]) j) <;> (try exact bd_setL (by simp [bdAs, BdL, Bd])) <;> (try exact nestF_bd _ _ _ _ _ _ _ _ _)
        exact fun _ _ => planG_bd _ _ _ _ _ _
    · simp only [decide_eq_false_iff_not] at c3
      obtain rfl : i = D.h := by omega
      simp only [planG_frz]
      refine ⟨⟨by kernel_rfl, by kernel_rfl⟩, fun _ _ _ _ => planG_bd _ _ _ _ _ _, ?_⟩
      apply SameD.tup
      exact ⟨SameD.rowD fun a b _ hb => planG_same hn.2 _ a b hb, SameD.rfl' _, SameD.rfl' _, trivial⟩
end Go.Eng
end

/- press: plans compared, their form, sums. -/
section
namespace Go.Eng
open Go Go.RowKit Go.Proofs
set_option maxRecDepth 100000
set_option maxHeartbeats 4000000
attribute [local irreducible] OwnT DefS
def intsBase : BaseF := fun args => match args with
  | [.row n sz_a f_a, .row m sz_b f_b] => some ((sz_a = 1 ∧ IntR n 1 f_a) ∧ (sz_b = 1 ∧ IntR m 1 f_b) ∧ (n ≤ 1000000), .bool (decide ((n : Int) = (m : Int)) && allU (fun i => decide ((ivf f_a) i 0 = (ivf f_b) i 0)) n))
  | _ => none
theorem ints_eq (n : Nat) (sz_a : Nat) (f_a : Nat → Nat → SV) (m : Nat) (sz_b : Nat) (f_b : Nat → Nat → SV) : intsBase [.row n sz_a f_a, .row m sz_b f_b] = some ((sz_a = 1 ∧ IntR n 1 f_a) ∧ (sz_b = 1 ∧ IntR m 1 f_b) ∧ (n ≤ 1000000), .bool (decide ((n : Int) = (m : Int)) && allU (fun i => decide ((ivf f_a) i 0 = (ivf f_b) i 0)) n)) := rfl
theorem ints_base : Base Try.prog 30 intsBase := by
  intro args p v hq hp
  unfold intsBase at hq
  split at hq
  rotate_left
  · cases hq
  rename_i n sz_a f_a m sz_b f_b
  cases hq
  obtain ⟨⟨rfl, i_a⟩, ⟨rfl, i_b⟩, pre⟩ := hp
  refine base_of (C := cx [] [] [] [(30, 6, p30_6)] none) (cx_ok trivial trivial) rfl (g := 30) (fn := Try.f30)
    (args' := [.row n 1 (rowF .i64 (ivf f_a)), .row m 1 (rowF .i64 (ivf f_b))]) (fn_30) rfl 1000 (by
    simp only [BdL, Bd, and_self, and_true, true_and]
    exact ⟨(fun i j hi hj => by rw [i_a i j hi hj]; trivial), (fun i j hi hj => by rw [i_b i j hi hj]; trivial)⟩) ⟨SameD.int i_a, SameD.int i_b, trivial⟩ ?_
  generalize ivf f_a = a at *
  generalize ivf f_b = b at *
  simp only [rowF_eq]
  simp only [p30_6, Try.f30, go_sem, ↓reduceIte, Nat.reduceAdd, Nat.reduceSub, Nat.reduceMul, Nat.reduceEqDiff, Nat.reduceLT, Nat.reduceLeDiff, Int.reduceToNat, Int.reduceLE, Int.reduceLT, Int.reduceEq, Int.reduceNeg, reduceCtorEq]
  refine ⟨fun c1 => by simp only [Bool.not_eq_true'] at c1; simp [c1], fun c1 => ?_⟩
  simp only [Bool.not_eq_false'] at c1
  have hnm := of_decide_eq_true c1
  refine loop_ofH { i : Nat // i ≤ n ∧ ∀ j, j < i → (fun i => decide (a i 0 = b i 0)) j = true } (fun i => [(5, .int .i64 (i.1 : Int)), (1, .row m 1 fun i j => .int .i64 (b i j)), (0, .row n 1 fun i j => .int .i64 (a i j))]) (fun h _ => h) (fun i => n - i.1) (fun _ => ⟨rfl, rfl⟩) ⟨0, by omega, by omega⟩ (by (apply sub_of <;> simp only [go_sem, ↓reduceIte, Nat.reduceAdd, Nat.reduceSub, Nat.reduceMul, Nat.reduceEqDiff, Nat.reduceLT, Nat.reduceLeDiff, Int.reduceToNat, Int.reduceLE, Int.reduceLT, Int.reduceEq, Int.reduceNeg, reduceCtorEq] <;> (try simp [catF]) <;> (try exact fun j _ => Bd_nth (by simp [BdL, Bd]) j) <;> (try exact bd_setL (by simp [bdAs, BdL, Bd])) <;> (try exact nestF_bd _ _ _ _ _ _ _ _ _))) ?_
  rintro ⟨i, hi, h3⟩
  simp only [p30_6, Try.f30, go_sem, ↓reduceIte, Nat.reduceAdd, Nat.reduceSub, Nat.reduceMul, Nat.reduceEqDiff, Nat.reduceLT, Nat.reduceLeDiff, Int.reduceToNat, Int.reduceLE, Int.reduceLT, Int.reduceEq, Int.reduceNeg, reduceCtorEq]
  have hw3 : IntKind.i64.wrap ((i : Int) + 1) = ((i + 1 : Nat) : Int) := by rw [wrap_id (by omega) (by omega)]; omega
  refine ⟨fun e1 => ?_, fun e1 => ?_⟩
  · simp only [decide_eq_true_eq] at e1
    refine ⟨⟨by kernel_rfl, by kernel_rfl⟩, ⟨by omega, by omega⟩, ⟨by omega, by omega⟩, fun e2 => ?_, fun e2 => ⟨⟨i + 1, by omega, below h3 (by simpa using e2)⟩, by simp only []; omega, ?_⟩⟩
    · rw [allU_false (p := fun i => decide (a i 0 = b i 0)) (i := i) (by omega) (by simpa using e2)]; simp
    · apply sub_of <;> simp only [hw3, go_sem, ↓reduceIte, Nat.reduceAdd, Nat.reduceSub, Nat.reduceMul, Nat.reduceEqDiff, Nat.reduceLT, Nat.reduceLeDiff, Int.reduceToNat, Int.reduceLE, Int.reduceLT, Int.reduceEq, Int.reduceNeg, reduceCtorEq] <;> (try simp) <;> (try exact fun j _ => Bd_nth (by simp [BdL, Bd]) j) <;> (try exact bd_setL (by simp [bdAs, BdL, Bd])) <;> (try exact nestF_bd _ _ _ _ _ _ _ _ _)
  · simp only [decide_eq_false_iff_not] at e1
    obtain rfl : i = n := by omega
    rw [allU_true h3, c1]; rfl
def eqB (n : Nat) (M : Nat → Nat) (V : Nat → Nat → Nat → Int) (m : Nat) (K : Nat → Nat) (W : Nat → Nat → Nat → Int) : Bool := decide ((n : Int) = (m : Int)) && allU (fun i => decide ((M i : Int) = (K i : Int)) && allU (fun k => decide (V i k 0 = W i k 0)) (M i)) n
def plansBase : BaseF := fun args => match args with
  | [.row n sz_A f_A, .row m sz_B f_B] => some ((sz_A = 1 ∧ NestR n 1 0 1 f_A) ∧ (sz_B = 1 ∧ NestR m 1 0 1 f_B) ∧ (n ≤ 1000000 ∧ ∀ i, i < n → (nsM 0 f_A) i ≤ 1000000), .bool (eqB n (nsM 0 f_A) (nsV 0 f_A) m (nsM 0 f_B) (nsV 0 f_B)))
  | _ => none
theorem plans_eq (n : Nat) (sz_A : Nat) (f_A : Nat → Nat → SV) (m : Nat) (sz_B : Nat) (f_B : Nat → Nat → SV) : plansBase [.row n sz_A f_A, .row m sz_B f_B] = some ((sz_A = 1 ∧ NestR n 1 0 1 f_A) ∧ (sz_B = 1 ∧ NestR m 1 0 1 f_B) ∧ (n ≤ 1000000 ∧ ∀ i, i < n → (nsM 0 f_A) i ≤ 1000000), .bool (eqB n (nsM 0 f_A) (nsV 0 f_A) m (nsM 0 f_B) (nsV 0 f_B))) := rfl
theorem plans_base : Base Try.prog 16 plansBase := by
  intro args p v hq hp
  unfold plansBase at hq
  split at hq
  rotate_left
  · cases hq
  rename_i n sz_A f_A m sz_B f_B
  cases hq
  obtain ⟨⟨rfl, i_A⟩, ⟨rfl, i_B⟩, pre⟩ := hp
  refine base_of (C := cx [] [] [(30, intsBase)] [(16, 6, p16_6)] none) (cx_ok trivial ⟨ints_base, trivial⟩) rfl (g := 16) (fn := Try.f16)
    (args' := [.row n 1 (nestF 0 1 (nsA f_A) (nsM 0 f_A) (nsV 0 f_A)), .row m 1 (nestF 0 1 (nsA f_B) (nsM 0 f_B) (nsV 0 f_B))]) (fn_16) rfl 1000 (by
    simp only [BdL, Bd, and_self, and_true, true_and]
    exact ⟨(fun i j hi hj => nest_bd i_A i j hi hj), (fun i j hi hj => nest_bd i_B i j hi hj)⟩) ⟨SameD.nest i_A, SameD.nest i_B, trivial⟩ ?_
  generalize nsA f_A = A at *
  generalize nsM 0 f_A = M at *
  generalize nsV 0 f_A = V at *
  generalize nsA f_B = B at *
  generalize nsM 0 f_B = K at *
  generalize nsV 0 f_B = W at *
  simp only [ints_eq, p16_6, nestF_eq, nestR_lit, nsM_lit, nsV_lit, Try.f16, go_sem, ↓reduceIte, Nat.reduceAdd, Nat.reduceSub, Nat.reduceMul, Nat.reduceEqDiff, Nat.reduceLT, Nat.reduceLeDiff, Int.reduceToNat, Int.reduceLE, Int.reduceLT, Int.reduceEq, Int.reduceNeg, reduceCtorEq]
  obtain ⟨hn, hM⟩ := pre
  refine ⟨fun c1 => by simp only [Bool.not_eq_true'] at c1; simp [eqB, c1], fun c1 => ?_⟩
  simp only [Bool.not_eq_false'] at c1
  have hnm := of_decide_eq_true c1
  refine loop_ofH { i : Nat // i ≤ n ∧ ∀ j, j < i → (fun i => decide ((M i : Int) = (K i : Int)) && allU (fun k => decide (V i k 0 = W i k 0)) (M i)) j = true } (fun i => [(5, .int .i64 (i.1 : Int)), (1, .row m 1 (nestF 0 1 B K W)), (0, .row n 1 (nestF 0 1 A M V))]) (fun h _ => h) (fun i => n - i.1) (fun _ => ⟨rfl, rfl⟩) ⟨0, by omega, by omega⟩ (by (apply sub_of <;> simp only [go_sem, ↓reduceIte, Nat.reduceAdd, Nat.reduceSub, Nat.reduceMul, Nat.reduceEqDiff, Nat.reduceLT, Nat.reduceLeDiff, Int.reduceToNat, Int.reduceLE, Int.reduceLT, Int.reduceEq, Int.reduceNeg, reduceCtorEq] <;> (try simp [catF]) <;> (try exact fun j _ => Bd_nth (by simp [BdL, Bd]) j) <;> (try exact bd_setL (by simp [bdAs, BdL, Bd])) <;> (try exact nestF_bd _ _ _ _ _ _ _ _ _)); exact ⟨fun i _ => nestF_bd1 _ _ _ _ _ _ _ i 0, fun i _ => nestF_bd1 _ _ _ _ _ _ _ i 0⟩) ?_
  rintro ⟨i, hi, h3⟩
  simp only [ints_eq, p16_6, nestF_eq, nestR_lit, nsM_lit, nsV_lit, Try.f16, go_sem, ↓reduceIte, Nat.reduceAdd, Nat.reduceSub, Nat.reduceMul, Nat.reduceEqDiff, Nat.reduceLT, Nat.reduceLeDiff, Int.reduceToNat, Int.reduceLE, Int.reduceLT, Int.reduceEq, Int.reduceNeg, reduceCtorEq]
  have hw3 : IntKind.i64.wrap ((i : Int) + 1) = ((i + 1 : Nat) : Int) := by rw [wrap_id (by omega) (by omega)]; omega
  refine ⟨fun e1 => ?_, fun e1 => ?_⟩
  · simp only [decide_eq_true_eq] at e1
    refine ⟨⟨by kernel_rfl, by kernel_rfl⟩, ⟨by omega, by omega⟩, ⟨by omega, by omega⟩, hM i (by omega), fun e2 => ?_, fun e2 => ⟨⟨i + 1, by omega, below h3 (by simp only [Bool.not_eq_false'] at e2; exact e2)⟩, by simp only []; omega, ?_⟩⟩
    · have := allU_false (p := fun i => decide ((M i : Int) = (K i : Int)) && allU (fun k => decide (V i k 0 = W i k 0)) (M i)) (n := n) (i := i) (by omega) (by simp only [Bool.not_eq_true'] at e2; exact e2)
      simp only [eqB, this, Bool.and_false]
    · apply sub_of <;> simp only [hw3, go_sem, ↓reduceIte, Nat.reduceAdd, Nat.reduceSub, Nat.reduceMul, Nat.reduceEqDiff, Nat.reduceLT, Nat.reduceLeDiff, Int.reduceToNat, Int.reduceLE, Int.reduceLT, Int.reduceEq, Int.reduceNeg, reduceCtorEq] <;> (try simp) <;> (try exact fun j _ => Bd_nth (by simp [BdL, Bd]) j) <;> (try exact bd_setL (by simp [bdAs, BdL, Bd])) <;> (try exact nestF_bd _ _ _ _ _ _ _ _ _)
      all_goals exact ⟨fun i _ => nestF_bd1 _ _ _ _ _ _ _ i 0, fun i _ => nestF_bd1 _ _ _ _ _ _ _ i 0⟩
  · simp only [decide_eq_false_iff_not] at e1
    obtain rfl : i = n := by omega
    simp only [eqB, allU_true h3, c1]; rfl
end Go.Eng
end

/- press: plans read, played, checked. -/
section
namespace Go.Eng
open Go Go.RowKit Go.Proofs
set_option maxRecDepth 100000
set_option maxHeartbeats 4000000
attribute [local irreducible] OwnT DefS
/-- The choices of a list. -/
def chT (k : Nat) (w : Nat → Nat → Int) : T3 := ⟨if 0 < k then w 0 0 else 0, if 1 < k then w 1 0 else 0, if 2 < k then w 2 0 else 0⟩
theorem chT_cp {k : Nat} (h : k ≤ 3) (w : Nat → Nat → Int) : cpB (fun i j => .int .i64 (w i j)) 0 k [.int .i64 0, .int .i64 0, .int .i64 0] = [.int .i64 (chT k w).a, .int .i64 (chT k w).b, .int .i64 (chT k w).c] := by
  rcases (by omega : k = 0 ∨ k = 1 ∨ k = 2 ∨ k = 3) with rfl | rfl | rfl | rfl <;> rfl
theorem chT_get {k i : Nat} (h : i < k) (h3 : i < 3) (w : Nat → Nat → Int) : (chT k w).get i = w i 0 := by
  rcases (by omega : i = 0 ∨ i = 1 ∨ i = 2) with rfl | rfl | rfl <;> simp [chT, T3.get, h]
def rdRow (n : Nat) (M : Nat → Nat) (k : Nat) (w : Nat → Nat → Int) : Bool := decide ((k : Int) = (n : Int)) && allU (fun a => in3 (w a 0) 0 (M a)) k
def rdB (n : Nat) (M : Nat → Nat) (m : Nat) (K : Nat → Nat) (W : Nat → Nat → Nat → Int) : Bool := allU (fun i => rdRow n M (K i) (W i)) m
def chF (n : Nat) (W : Nat → Nat → Nat → Int) : Nat → Nat → SV := fun i j => .int .i64 ((chT n (W i)).get j)
def chG (n : Nat) (W : Nat → Nat → Nat → Int) : Nat → Nat → SV := fun i j => nth [.int .i64 (chT n (W i)).a, .int .i64 (chT n (W i)).b, .int .i64 (chT n (W i)).c] j
theorem chG_bd (n : Nat) (W : Nat → Nat → Nat → Int) (L K i j : Nat) : Bd L K (chG n W i j) := Bd_nth (by simp [BdL, Bd]) j
theorem chG_F (n : Nat) (W : Nat → Nat → Nat → Int) (i : Nat) {j : Nat} (hj : j < 3) : chG n W i j = chF n W i j := by
  rcases (by omega : j = 0 ∨ j = 1 ∨ j = 2) with rfl | rfl | rfl <;> rfl
theorem prC7_bd (n : Nat) (A : Nat → Nat → Int) (M : Nat → Nat) (V : Nat → Nat → Nat → Int) (h : Nat) (nd : Nat → Nat → Int) (q : Nat) (pr : Nat → Nat → Int) (st ro pk fr : Int) (L K : Nat) :
    BdL L K [.row n 5 (nestF 0 2 A M V), .row h 1 fun i j => .int .i64 (nd i j), .row q 1 fun i j => .int .i64 (pr i j), .int .i64 st, .int .i64 ro, .int .i64 pk, .int .i64 fr] := by
  simp only [BdL, Bd, and_self, and_true, implies_true]
  exact nestF_bd _ _ _ _ _ _ _ _ _
def readBase : BaseF := fun args => match args with
  | [.rptr sz_1 c_1, .row m sz_B f_B] => (match c_1 0, c_1 1, c_1 2, c_1 3, c_1 4, c_1 5, c_1 6 with | .row n sz_A f_A, .row h sz_nd f_nd, .row q sz_pr f_pr, .int .i64 st, .int .i64 ro, .int .i64 pk, .int .i64 fr => some ((sz_1 = 7) ∧ (sz_A = 5 ∧ NestR n 5 0 2 f_A) ∧ (sz_nd = 1 ∧ IntR h 1 f_nd) ∧ (sz_pr = 1 ∧ IntR q 1 f_pr) ∧ (sz_B = 1 ∧ NestR m 1 0 1 f_B) ∧ (1 ≤ n ∧ n ≤ 3 ∧ m ≤ 1000000 ∧ ∀ i, i < m → (nsM 0 f_B) i ≤ 1000000), .tup [.row (if rdB n (nsM 0 f_A) m (nsM 0 f_B) (nsV 0 f_B) then m else 0) 3 (chF n (nsV 0 f_B)), .bool (rdB n (nsM 0 f_A) m (nsM 0 f_B) (nsV 0 f_B))]) | _, _, _, _, _, _, _ => none)
  | _ => none
theorem read_eq (sz_1 : Nat) (c_1 : Nat → SV) (m : Nat) (sz_B : Nat) (f_B : Nat → Nat → SV) : readBase [.rptr sz_1 c_1, .row m sz_B f_B] = (match c_1 0, c_1 1, c_1 2, c_1 3, c_1 4, c_1 5, c_1 6 with | .row n sz_A f_A, .row h sz_nd f_nd, .row q sz_pr f_pr, .int .i64 st, .int .i64 ro, .int .i64 pk, .int .i64 fr => some ((sz_1 = 7) ∧ (sz_A = 5 ∧ NestR n 5 0 2 f_A) ∧ (sz_nd = 1 ∧ IntR h 1 f_nd) ∧ (sz_pr = 1 ∧ IntR q 1 f_pr) ∧ (sz_B = 1 ∧ NestR m 1 0 1 f_B) ∧ (1 ≤ n ∧ n ≤ 3 ∧ m ≤ 1000000 ∧ ∀ i, i < m → (nsM 0 f_B) i ≤ 1000000), .tup [.row (if rdB n (nsM 0 f_A) m (nsM 0 f_B) (nsV 0 f_B) then m else 0) 3 (chF n (nsV 0 f_B)), .bool (rdB n (nsM 0 f_A) m (nsM 0 f_B) (nsV 0 f_B))]) | _, _, _, _, _, _, _ => none) := rfl
theorem read_base : BaseO Try.prog 43 63 readBase := by
  intro args p v hq hp
  unfold readBase at hq
  split at hq
  rotate_left
  · cases hq
  rename_i sz_1 c_1 m sz_B f_B
  split at hq
  rotate_left
  · cases hq
  rename_i n sz_A f_A h sz_nd f_nd q sz_pr f_pr st ro pk fr h_1_0 h_1_1 h_1_2 h_1_3 h_1_4 h_1_5 h_1_6
  cases hq
  obtain ⟨rfl, ⟨rfl, i_A⟩, ⟨rfl, i_nd⟩, ⟨rfl, i_pr⟩, ⟨rfl, i_B⟩, pre⟩ := hp
  refine baseO_of (C := cx [] [] [(51, withinBase)] [] none) (cx_ok trivial ⟨within_base, trivial⟩) rfl (g := 43) (fn := Try.f43)
    (args' := [.rptr 7 (fun j => nth [.row n 5 (nestF 0 2 (nsA f_A) (nsM 0 f_A) (nsV 0 f_A)), .row h 1 (rowF .i64 (ivf f_nd)), .row q 1 (rowF .i64 (ivf f_pr)), .int .i64 st, .int .i64 ro, .int .i64 pk, .int .i64 fr] j), .row m 1 (nestF 0 1 (nsA f_B) (nsM 0 f_B) (nsV 0 f_B))]) (fn_43) rfl 1000 (by
    simp only [BdL, Bd, and_self, and_true, true_and]
    exact ⟨(fun j hj => by
      have hj : j = 0 ∨ j = 1 ∨ j = 2 ∨ j = 3 ∨ j = 4 ∨ j = 5 ∨ j = 6 := by omega
      rcases hj with rfl | rfl | rfl | rfl | rfl | rfl | rfl
      · rw [h_1_0]; simp only [BdL, Bd, and_self, and_true, true_and]; exact (fun i j hi hj => nest_bd i_A i j hi hj)
      · rw [h_1_1]; simp only [BdL, Bd, and_self, and_true, true_and]; exact (fun i j hi hj => by rw [i_nd i j hi hj]; trivial)
      · rw [h_1_2]; simp only [BdL, Bd, and_self, and_true, true_and]; exact (fun i j hi hj => by rw [i_pr i j hi hj]; trivial)
      · rw [h_1_3]; simp only [BdL, Bd, and_self, and_true, true_and]
      · rw [h_1_4]; simp only [BdL, Bd, and_self, and_true, true_and]
      · rw [h_1_5]; simp only [BdL, Bd, and_self, and_true, true_and]
      · rw [h_1_6]; simp only [BdL, Bd, and_self, and_true, true_and]), (fun i j hi hj => nest_bd i_B i j hi hj)⟩) ⟨SameD.rptr (fun j hj => by
      have hj : j = 0 ∨ j = 1 ∨ j = 2 ∨ j = 3 ∨ j = 4 ∨ j = 5 ∨ j = 6 := by omega
      rcases hj with rfl | rfl | rfl | rfl | rfl | rfl | rfl
      · rw [h_1_0]; exact SameD.nest i_A
      · rw [h_1_1]; exact SameD.int i_nd
      · rw [h_1_2]; exact SameD.int i_pr
      · rw [h_1_3]; exact SameD.rfl' _
      · rw [h_1_4]; exact SameD.rfl' _
      · rw [h_1_5]; exact SameD.rfl' _
      · rw [h_1_6]; exact SameD.rfl' _), SameD.nest i_B, trivial⟩ ?_
  generalize nsA f_A = A at *
  generalize nsM 0 f_A = M at *
  generalize nsV 0 f_A = V at *
  generalize ivf f_nd = nd at *
  generalize ivf f_pr = pr at *
  generalize nsA f_B = B at *
  generalize nsM 0 f_B = K at *
  generalize nsV 0 f_B = W at *
  simp only [rowF_eq]
  simp only [within_eq, nestF_eq, nestR_lit, nsM_lit, nsV_lit, Try.f43, go_sem, ↓reduceIte, Nat.reduceAdd, Nat.reduceSub, Nat.reduceMul, Nat.reduceEqDiff, Nat.reduceLT, Nat.reduceLeDiff, Int.reduceToNat, Int.reduceLE, Int.reduceLT, Int.reduceEq, Int.reduceNeg, reduceCtorEq]
  obtain ⟨pn1, pn, pm, pK⟩ := pre
  refine loop_ofH { i : Nat // i ≤ m ∧ ∀ j, j < i → (fun i => rdRow n M (K i) (W i)) j = true } (fun i => [(14, .int .i64 (i.1 : Int)), (13, .int .i64 (m : Int)), (12, .row m 1 (nestF 0 1 B K W)), (6, .vec 1 i.1), (0, .rptr 7 fun j => nth [.row n 5 (nestF 0 2 A M V), .row h 1 fun i j => .int .i64 (nd i j), .row q 1 fun i j => .int .i64 (pr i j), .int .i64 st, .int .i64 ro, .int .i64 pk, .int .i64 fr] j)])
    (fun h i => ⟨[], [getV h.vecs 0, .live i.1 63 3 i.1 (chG n W)]⟩) (fun i => m - i.1) (fun _ => ⟨rfl, rfl⟩) ⟨0, by omega, by omega⟩ (by (apply sub_of <;> simp only [go_sem, ↓reduceIte, Nat.reduceAdd, Nat.reduceSub, Nat.reduceMul, Nat.reduceEqDiff, Nat.reduceLT, Nat.reduceLeDiff, Int.reduceToNat, Int.reduceLE, Int.reduceLT, Int.reduceEq, Int.reduceNeg, reduceCtorEq] <;> (try simp [catF]) <;> (try exact fun j _ => Bd_nth (by simp [BdL, Bd]) j) <;> (try exact bd_setL (by simp [bdAs, BdL, Bd])) <;> (try exact nestF_bd _ _ _ _ _ _ _ _ _)); exact ⟨fun i _ => nestF_bd1 _ _ _ _ _ _ _ i 0, fun j _ => Bd_nth (prC7_bd n A M V h nd q pr st ro pk fr 0 2) j⟩) ?_
  rintro ⟨i, hi, h3⟩
  simp only [within_eq, nestF_eq, nestR_lit, nsM_lit, nsV_lit, Try.f43, go_sem, ↓reduceIte, Nat.reduceAdd, Nat.reduceSub, Nat.reduceMul, Nat.reduceEqDiff, Nat.reduceLT, Nat.reduceLeDiff, Int.reduceToNat, Int.reduceLE, Int.reduceLT, Int.reduceEq, Int.reduceNeg, reduceCtorEq]
  have hw3 : IntKind.i64.wrap ((i : Int) + 1) = ((i + 1 : Nat) : Int) := by rw [wrap_id (by omega) (by omega)]; omega
  have no : ∀ {X : Prop}, (i < m) → rdRow n M (K i) (W i) = false → ((0 = if rdB n M m K W = true then m else 0) ∧ ∀ (i j : Nat), (i < if rdB n M m K W = true then m else 0) → j < 3 → SV.any = chF n W i j ∧ Sc (chF n W i j)) ∧ [SV.bool false] = [.bool (rdB n M m K W)] := fun h1 h2 => by
    have : rdB n M m K W = false := allU_false (p := fun i => rdRow n M (K i) (W i)) h1 h2
    rw [this]
    exact ⟨⟨rfl, fun _ _ hi => absurd hi (by simp)⟩, rfl⟩
  refine ⟨fun c1 => ⟨⟨by omega, by simpa using c1⟩, fun c2 => ?_, fun c2 => ?_⟩, fun c1 => ?_⟩
  all_goals simp only [decide_eq_true_eq, decide_eq_false_iff_not] at c1
  · simp only [Bool.not_eq_true', decide_eq_false_iff_not] at c2
    exact no (X := True) (by omega) (by simp [rdRow, c2])
  · simp only [Bool.not_eq_false', decide_eq_true_eq] at c2
    have hKn : K i = n := by omega
    refine loop_ofH { a : Nat // a ≤ K i ∧ ∀ j, j < a → (fun a => in3 (W i a 0) 0 (M a)) j = true } (fun a => [(28, .int .i64 (a.1 : Int)), (27, .int .i64 (K i : Int)), (26, .row (K i) 1 fun a b => .int .i64 (W i a b)), (8, .row (K i) 1 fun a b => .int .i64 (W i a b)), (14, .int .i64 (i : Int)), (13, .int .i64 (m : Int)), (12, .row m 1 (nestF 0 1 B K W)), (6, .vec 1 i), (0, .rptr 7 fun j => nth [.row n 5 (nestF 0 2 A M V), .row h 1 fun i j => .int .i64 (nd i j), .row q 1 fun i j => .int .i64 (pr i j), .int .i64 st, .int .i64 ro, .int .i64 pk, .int .i64 fr] j)])
      (fun h _ => h) (fun a => K i - a.1) (fun _ => ⟨rfl, rfl⟩) ⟨0, by omega, by omega⟩ (by (apply sub_of <;> simp only [go_sem, ↓reduceIte, Nat.reduceAdd, Nat.reduceSub, Nat.reduceMul, Nat.reduceEqDiff, Nat.reduceLT, Nat.reduceLeDiff, Int.reduceToNat, Int.reduceLE, Int.reduceLT, Int.reduceEq, Int.reduceNeg, reduceCtorEq] <;> (try simp [catF]) <;> (try exact fun j _ => Bd_nth (by simp [BdL, Bd]) j) <;> (try exact bd_setL (by simp [bdAs, BdL, Bd])) <;> (try exact nestF_bd _ _ _ _ _ _ _ _ _)); all_goals first | exact ⟨fun i _ => nestF_bd1 _ _ _ _ _ _ _ i 0, fun j _ => Bd_nth (prC7_bd n A M V h nd q pr st ro pk fr 0 2) j⟩ | exact fun _ _ _ _ => chG_bd _ _ _ _ _ _) ?_
    rintro ⟨a, ha, h4⟩
    have hcp := chT_cp (k := n) (by omega)
    have hmn : min n 3 = n := by omega
    have hw4 : IntKind.i64.wrap ((a : Int) + 1) = ((a + 1 : Nat) : Int) := by rw [wrap_id (by omega) (by omega)]; omega
    simp only [hKn, hmn, hcp, within_eq, nestF_eq, nestR_lit, nsM_lit, nsV_lit, Try.f43, go_sem, ↓reduceIte, Nat.reduceAdd, Nat.reduceSub, Nat.reduceMul, Nat.reduceEqDiff, Nat.reduceLT, Nat.reduceLeDiff, Int.reduceToNat, Int.reduceLE, Int.reduceLT, Int.reduceEq, Int.reduceNeg, reduceCtorEq]
    refine ⟨fun c3 => ⟨⟨by omega, by simpa using c3⟩, ⟨by omega, by simpa using c3⟩, fun c4 => ?_, fun c4 => ?_⟩, fun c3 => ?_⟩
    all_goals simp only [decide_eq_true_eq, decide_eq_false_iff_not] at c3
    · refine no (X := True) (by omega) ?_
      simp only [rdRow]
      rw [allU_false (p := fun a => in3 (W i a 0) 0 (M a)) (i := a) (by omega) (by simpa only [Bool.not_eq_true'] using c4)]
      simp
    · refine ⟨⟨a + 1, by omega, below h4 (by simpa only [Bool.not_eq_false'] using c4)⟩, by simp only []; omega, ?_⟩
      apply sub_of <;> simp only [hw4, go_sem, ↓reduceIte, Nat.reduceAdd, Nat.reduceSub, Nat.reduceMul, Nat.reduceEqDiff, Nat.reduceLT, Nat.reduceLeDiff, Int.reduceToNat, Int.reduceLE, Int.reduceLT, Int.reduceEq, Int.reduceNeg, reduceCtorEq] <;> (try simp) <;> (try exact fun j _ => Bd_nth (by simp [BdL, Bd]) j) <;> (try exact bd_setL (by simp [bdAs, BdL, Bd])) <;> (try exact nestF_bd _ _ _ _ _ _ _ _ _)
      all_goals first | exact ⟨fun i _ => nestF_bd1 _ _ _ _ _ _ _ i 0, fun j _ => Bd_nth (prC7_bd n A M V h nd q pr st ro pk fr 0 2) j⟩ | exact fun _ _ _ _ => chG_bd _ _ _ _ _ _
    · obtain rfl : a = K i := by omega
      have hrow : rdRow n M (K i) (W i) = true := by simp only [rdRow, allU_true h4, c2, decide_true, Bool.true_and]
      refine ⟨⟨by omega, by omega⟩, by omega, ⟨by omega, by omega⟩, ⟨i + 1, by omega, below h3 hrow⟩, by simp only []; omega, ?_⟩
      have hcat : ∀ x j, catF i (chG n W) (oneF [.int .i64 (chT n (W i)).a, .int .i64 (chT n (W i)).b, .int .i64 (chT n (W i)).c]) x j = if x < i + 1 then chG n W x j else nth [.int .i64 (chT n (W i)).a, .int .i64 (chT n (W i)).b, .int .i64 (chT n (W i)).c] j := fun x j => by
        rcases Nat.lt_trichotomy x i with h1 | rfl | h1
        · rw [if_pos (by omega)]; simp only [catF, if_pos h1]
        · rw [if_pos (by omega)]; simp only [catF, if_neg (Nat.lt_irrefl _), oneF, chG]
        · rw [if_neg (by omega)]; simp only [catF, if_neg (show ¬ x < i by omega), oneF]
      apply sub_of <;> simp only [hw3, go_sem, ↓reduceIte, Nat.reduceAdd, Nat.reduceSub, Nat.reduceMul, Nat.reduceEqDiff, Nat.reduceLT, Nat.reduceLeDiff, Int.reduceToNat, Int.reduceLE, Int.reduceLT, Int.reduceEq, Int.reduceNeg, reduceCtorEq] <;> (try simp)
      all_goals first | exact ⟨fun i _ => nestF_bd1 _ _ _ _ _ _ _ i 0, fun j _ => Bd_nth (prC7_bd n A M V h nd q pr st ro pk fr 0 2) j⟩ | exact fun _ _ _ _ => chG_bd _ _ _ _ _ _ | exact fun x j hx _ => by rw [hcat, if_pos hx]
  · obtain rfl : i = m := by omega
    have : rdB n M i K W = true := allU_true h3
    simp only [this, if_true]
    exact ⟨⟨trivial, fun a j ha hj => ⟨chG_F n W a hj, trivial⟩⟩, trivial⟩
end Go.Eng
end

/- press: plans played. -/
section
namespace Go.Eng
open Go Go.RowKit Go.Proofs
set_option maxRecDepth 100000
set_option maxHeartbeats 4000000
attribute [local irreducible] OwnT DefS
/-- Hours of a plan: the first error and its hour, or what is then and what was paid. -/
structure PL where
  (e : Int) (hr : Nat) (s : PS) (en st : Int)
def plStep (D : PD) (c : T3) (r : PL) : PL :=
  if r.e = 0 then (if (hourP D r.s r.hr c).e = 0 then ⟨0, r.hr + 1, (hourP D r.s r.hr c).s, r.en + (hourP D r.s r.hr c).en, r.st + (hourP D r.s r.hr c).sta⟩ else ⟨(hourP D r.s r.hr c).e, r.hr, ⟨⟨0, 0, 0⟩, 0, 0⟩, 0, 0⟩) else r
def plM (D : PD) (C : Nat → T3) : Nat → PL
  | 0 => ⟨0, 0, begP D, 0, 0⟩
  | k + 1 => plStep D (C k) (plM D C k)
theorem plM_hr {D : PD} {C : Nat → T3} : ∀ k, (plM D C k).e = 0 → (plM D C k).hr = k
  | 0, _ => rfl
  | k + 1, h => by
    simp only [plM, plStep] at h ⊢
    split at h
    · rename_i h0
      have ih := plM_hr k h0
      split at h
      · rename_i h1; rw [if_pos h0, if_pos h1, ih]
      · rename_i h1; exact absurd h h1
    · rename_i h0; exact absurd h h0
theorem plM_stop {D : PD} {C : Nat → T3} {k : Nat} (h : (plM D C k).e ≠ 0) : ∀ m, k ≤ m → plM D C m = plM D C k := by
  intro m hm
  induction m with
  | zero => obtain rfl : k = 0 := by omega
            rfl
  | succ m ih =>
    rcases Nat.lt_or_ge m k with h1 | h1
    · obtain rfl : k = m + 1 := by omega
      rfl
    · simp only [plM, plStep, ih h1, if_neg h]
theorem plM_ok {D : PD} (hD : D.Ok) {C : Nat → T3} : ∀ k, k ≤ D.h → (∀ i, i < k → chOk D (C i)) → (plM D C k).e = 0 → stOk D (plM D C k).s ∧ (0 ≤ (plM D C k).en ∧ (plM D C k).en ≤ k * 30000000) ∧ (0 ≤ (plM D C k).st ∧ (plM D C k).st ≤ k * 30000)
  | 0, _, _, _ => ⟨begP_ok hD, by simp [plM], by simp [plM]⟩
  | k + 1, hk, hc, h => by
    simp only [plM, plStep] at h ⊢
    split at h
    · rename_i h0
      have hh := plM_hr k h0
      obtain ⟨g1, g2, g3⟩ := plM_ok hD k (by omega) (fun i hi => hc i (by omega)) h0
      split at h
      · rename_i h1
        rw [if_pos h0, if_pos h1]
        rw [hh] at h1 ⊢
        obtain ⟨q1, q2, q3⟩ := hourP_ok hD g1 (hc k (by omega)) (by omega) h1
        exact ⟨q1, by simp only []; omega, by simp only []; omega⟩
      · rename_i h1; exact absurd h h1
    · rename_i h0; exact absurd h h0
/-- What is told of it. -/
def plO (D : PD) (r : PL) : SV := if r.e = 0 then .tup [psS r.s, .agg [.int .i64 r.en, .int .i64 r.st, .int .i64 (r.s.pk * D.pk)], .int .i64 (r.hr : Int), .int .i64 0] else .tup [psS ⟨⟨0, 0, 0⟩, 0, 0⟩, .agg [.int .i64 0, .int .i64 0, .int .i64 0], .int .i64 (r.hr : Int), .int .i64 r.e]
def playBase : BaseF := fun args => match args with
  | [.rptr sz_1 c_1, .row m sz_c f_c] => (match c_1 0, c_1 1, c_1 2, c_1 3, c_1 4, c_1 5, c_1 6 with | .row n sz_A f_A, .row h sz_nd f_nd, .row q sz_pr f_pr, .int .i64 st, .int .i64 ro, .int .i64 pk, .int .i64 fr => some ((sz_1 = 7) ∧ (sz_A = 5 ∧ NestR n 5 0 2 f_A) ∧ (sz_nd = 1 ∧ IntR h 1 f_nd) ∧ (sz_pr = 1 ∧ IntR q 1 f_pr) ∧ (sz_c = 3 ∧ IntR m 3 f_c) ∧ (q = h ∧ PD.Ok ⟨n, (nsA f_A), (nsM 0 f_A), (nsV 0 f_A), h, (ivf f_nd), (ivf f_pr), st, ro, pk, fr⟩ ∧ m ≤ h ∧ ∀ i, i < m → chOk ⟨n, (nsA f_A), (nsM 0 f_A), (nsV 0 f_A), h, (ivf f_nd), (ivf f_pr), st, ro, pk, fr⟩ ⟨(ivf f_c) i 0, (ivf f_c) i 1, (ivf f_c) i 2⟩), plO ⟨n, (nsA f_A), (nsM 0 f_A), (nsV 0 f_A), h, (ivf f_nd), (ivf f_pr), st, ro, pk, fr⟩ (plM ⟨n, (nsA f_A), (nsM 0 f_A), (nsV 0 f_A), h, (ivf f_nd), (ivf f_pr), st, ro, pk, fr⟩ (fun i => ⟨(ivf f_c) i 0, (ivf f_c) i 1, (ivf f_c) i 2⟩) m)) | _, _, _, _, _, _, _ => none)
  | _ => none
theorem play_eq (sz_1 : Nat) (c_1 : Nat → SV) (m : Nat) (sz_c : Nat) (f_c : Nat → Nat → SV) : playBase [.rptr sz_1 c_1, .row m sz_c f_c] = (match c_1 0, c_1 1, c_1 2, c_1 3, c_1 4, c_1 5, c_1 6 with | .row n sz_A f_A, .row h sz_nd f_nd, .row q sz_pr f_pr, .int .i64 st, .int .i64 ro, .int .i64 pk, .int .i64 fr => some ((sz_1 = 7) ∧ (sz_A = 5 ∧ NestR n 5 0 2 f_A) ∧ (sz_nd = 1 ∧ IntR h 1 f_nd) ∧ (sz_pr = 1 ∧ IntR q 1 f_pr) ∧ (sz_c = 3 ∧ IntR m 3 f_c) ∧ (q = h ∧ PD.Ok ⟨n, (nsA f_A), (nsM 0 f_A), (nsV 0 f_A), h, (ivf f_nd), (ivf f_pr), st, ro, pk, fr⟩ ∧ m ≤ h ∧ ∀ i, i < m → chOk ⟨n, (nsA f_A), (nsM 0 f_A), (nsV 0 f_A), h, (ivf f_nd), (ivf f_pr), st, ro, pk, fr⟩ ⟨(ivf f_c) i 0, (ivf f_c) i 1, (ivf f_c) i 2⟩), plO ⟨n, (nsA f_A), (nsM 0 f_A), (nsV 0 f_A), h, (ivf f_nd), (ivf f_pr), st, ro, pk, fr⟩ (plM ⟨n, (nsA f_A), (nsM 0 f_A), (nsV 0 f_A), h, (ivf f_nd), (ivf f_pr), st, ro, pk, fr⟩ (fun i => ⟨(ivf f_c) i 0, (ivf f_c) i 1, (ivf f_c) i 2⟩) m)) | _, _, _, _, _, _, _ => none) := rfl
theorem play_base : Base Try.prog 44 playBase := by
  intro args p v hq hp
  unfold playBase at hq
  split at hq
  rotate_left
  · cases hq
  rename_i sz_1 c_1 m sz_c f_c
  split at hq
  rotate_left
  · cases hq
  rename_i n sz_A f_A h sz_nd f_nd q sz_pr f_pr st ro pk fr h_1_0 h_1_1 h_1_2 h_1_3 h_1_4 h_1_5 h_1_6
  cases hq
  obtain ⟨rfl, ⟨rfl, i_A⟩, ⟨rfl, i_nd⟩, ⟨rfl, i_pr⟩, ⟨rfl, i_c⟩, pre⟩ := hp
  refine base_of (C := cx [] [] [(34, triedBase), (35, beginBase)] [(44, 12, p44_12), (44, 13, p44_13)] none) (cx_ok trivial ⟨tried_base, begin_base, trivial⟩) rfl (g := 44) (fn := Try.f44)
    (args' := [.rptr 7 (fun j => nth [.row n 5 (nestF 0 2 (nsA f_A) (nsM 0 f_A) (nsV 0 f_A)), .row h 1 (rowF .i64 (ivf f_nd)), .row q 1 (rowF .i64 (ivf f_pr)), .int .i64 st, .int .i64 ro, .int .i64 pk, .int .i64 fr] j), .row m 3 (rowF .i64 (ivf f_c))]) (fn_44) rfl 1000 (by
    simp only [BdL, Bd, and_self, and_true, true_and]
    exact ⟨(fun j hj => by
      have hj : j = 0 ∨ j = 1 ∨ j = 2 ∨ j = 3 ∨ j = 4 ∨ j = 5 ∨ j = 6 := by omega
      rcases hj with rfl | rfl | rfl | rfl | rfl | rfl | rfl
      · rw [h_1_0]; simp only [BdL, Bd, and_self, and_true, true_and]; exact (fun i j hi hj => nest_bd i_A i j hi hj)
      · rw [h_1_1]; simp only [BdL, Bd, and_self, and_true, true_and]; exact (fun i j hi hj => by rw [i_nd i j hi hj]; trivial)
      · rw [h_1_2]; simp only [BdL, Bd, and_self, and_true, true_and]; exact (fun i j hi hj => by rw [i_pr i j hi hj]; trivial)
      · rw [h_1_3]; simp only [BdL, Bd, and_self, and_true, true_and]
      · rw [h_1_4]; simp only [BdL, Bd, and_self, and_true, true_and]
      · rw [h_1_5]; simp only [BdL, Bd, and_self, and_true, true_and]
      · rw [h_1_6]; simp only [BdL, Bd, and_self, and_true, true_and]), (fun i j hi hj => by rw [i_c i j hi hj]; trivial)⟩) ⟨SameD.rptr (fun j hj => by
      have hj : j = 0 ∨ j = 1 ∨ j = 2 ∨ j = 3 ∨ j = 4 ∨ j = 5 ∨ j = 6 := by omega
      rcases hj with rfl | rfl | rfl | rfl | rfl | rfl | rfl
      · rw [h_1_0]; exact SameD.nest i_A
      · rw [h_1_1]; exact SameD.int i_nd
      · rw [h_1_2]; exact SameD.int i_pr
      · rw [h_1_3]; exact SameD.rfl' _
      · rw [h_1_4]; exact SameD.rfl' _
      · rw [h_1_5]; exact SameD.rfl' _
      · rw [h_1_6]; exact SameD.rfl' _), SameD.int i_c, trivial⟩ ?_
  generalize nsA f_A = A at *
  generalize nsM 0 f_A = M at *
  generalize nsV 0 f_A = V at *
  generalize ivf f_nd = nd at *
  generalize ivf f_pr = pr at *
  generalize ivf f_c = c at *
  simp only [rowF_eq]
  simp only [tried_eq, begin_eq, p44_12, p44_13, nestF_eq, nestR_lit, nsM_lit, nsV_lit, onI_ns, psB_ns, hourP_ns, Ok_ns, psS, hrS, Try.f44, go_sem, ↓reduceIte, Nat.reduceAdd, Nat.reduceSub, Nat.reduceMul, Nat.reduceEqDiff, Nat.reduceLT, Nat.reduceLeDiff, Int.reduceToNat, Int.reduceLE, Int.reduceLT, Int.reduceEq, Int.reduceNeg, reduceCtorEq]
  obtain ⟨rfl, hOk, hm, hc⟩ := pre
  generalize hD : (⟨n, A, M, V, q, nd, pr, st, ro, pk, fr⟩ : PD) = D at hOk hc
  have d0 : n = D.n := by rw [← hD]
  have d1 : A = D.A := by rw [← hD]
  have d2 : M = D.M := by rw [← hD]
  have d3 : V = D.V := by rw [← hD]
  have d4 : q = D.h := by rw [← hD]
  have d5 : nd = D.nd := by rw [← hD]
  have d6 : pr = D.pr := by rw [← hD]
  have d7 : st = D.st := by rw [← hD]
  have d8 : ro = D.ro := by rw [← hD]
  have d9 : pk = D.pk := by rw [← hD]
  have d10 : fr = D.fr := by rw [← hD]
  clear hD
  subst d0 d1 d2 d3 d4 d5 d6 d7 d8 d9 d10
  have hn := hOk.n
  have hh := hOk.h
  have hpk := hOk.pk
  generalize hC : (fun i => (⟨c i 0, c i 1, c i 2⟩ : T3)) = C
  have hCi : ∀ i, (⟨c i 0, c i 1, c i 2⟩ : T3) = C i := fun i => by rw [← hC]
  simp only [hCi] at hc
  refine ⟨by omega, ?_⟩
  refine loop_ofH { i : Nat // i ≤ m ∧ (plM D C i).e = 0 } (fun i => [(18, .int .i64 (i.1 : Int)), (17, .int .i64 (m : Int)), (16, .row m 3 fun i j => .int .i64 (c i j)), (5, .ptr 1 0), (4, .ptr 0 0), (1, .row m 3 fun i j => .int .i64 (c i j)), (0, .rptr 7 fun j => nth (prC D) j)])
    (fun h i => ⟨[.live 65 [.int .i64 (plM D C i.1).s.on.a, .int .i64 (plM D C i.1).s.on.b, .int .i64 (plM D C i.1).s.on.c, .int .i64 (plM D C i.1).s.sto, .int .i64 (plM D C i.1).s.pk], .live 38 [.int .i64 (plM D C i.1).en, .int .i64 (plM D C i.1).st, .int .i64 0]], h.vecs⟩) (fun i => m - i.1) (fun _ => ⟨rfl, rfl⟩) ⟨0, Nat.zero_le _, rfl⟩ (by simp only [prC, plM, begP]; (apply sub_of <;> simp only [go_sem, ↓reduceIte, Nat.reduceAdd, Nat.reduceSub, Nat.reduceMul, Nat.reduceEqDiff, Nat.reduceLT, Nat.reduceLeDiff, Int.reduceToNat, Int.reduceLE, Int.reduceLT, Int.reduceEq, Int.reduceNeg, reduceCtorEq] <;> (try simp [catF])); all_goals first | exact nestF_bd _ _ _ _ _ _ _ _ _ | exact prC_bds D _ _ | exact fun j _ => Bd_nth (prC_bd D _ _) j) ?_
  rintro ⟨i, hi, h3⟩
  have hhr := plM_hr i h3
  obtain ⟨p1, p2, p3⟩ := plM_ok hOk i (by omega) (fun a ha => hc a (by omega)) h3
  have hw3 : IntKind.i64.wrap ((i : Int) + 1) = ((i + 1 : Nat) : Int) := by rw [wrap_id (by omega) (by omega)]; omega
  simp only [prC, tried_eq, begin_eq, p44_12, p44_13, nestF_eq, nestR_lit, nsM_lit, nsV_lit, onI_ns, psB_ns, hourP_ns, Ok_ns, psS, hrS, Try.f44, go_sem, ↓reduceIte, Nat.reduceAdd, Nat.reduceSub, Nat.reduceMul, Nat.reduceEqDiff, Nat.reduceLT, Nat.reduceLeDiff, Int.reduceToNat, Int.reduceLE, Int.reduceLT, Int.reduceEq, Int.reduceNeg, reduceCtorEq]
  rw [hCi i]
  generalize hR : hourP _ _ _ _ = R
  have hR : hourP D (plM D C i).s i (C i) = R := hR
  refine ⟨fun e1 => ?_, fun e1 => ?_⟩
  all_goals simp only [decide_eq_true_eq, decide_eq_false_iff_not] at e1
  · have hci := hc i (by omega)
    refine ⟨⟨by omega, by omega⟩, ⟨hOk, p1, hci, by omega, by omega⟩, fun e2 => ?_, fun e2 => ?_⟩
    all_goals simp only [Bool.not_eq_true', Bool.not_eq_false', decide_eq_true_eq, decide_eq_false_iff_not] at e2
    · have hs : plM D C (i + 1) = ⟨R.e, i, ⟨⟨0, 0, 0⟩, 0, 0⟩, 0, 0⟩ := by
        simp only [plM, plStep, if_pos h3, hhr, hR, if_neg e2]
      rw [plM_stop (k := i + 1) (by rw [hs]; exact e2) m (by omega), hs]
      simp only [plO, if_neg e2, psS]
    · have hk := hourP_ok hOk p1 hci (hr := i) (by omega) (by rw [hR]; exact e2)
      rw [hR] at hk
      obtain ⟨k1, k2, k3⟩ := hk
      have hs : plM D C (i + 1) = ⟨0, i + 1, R.s, (plM D C i).en + R.en, (plM D C i).st + R.sta⟩ := by
        simp only [plM, plStep, if_pos h3, hhr, hR, if_pos e2]
      have w1 : IntKind.i64.wrap ((plM D C i).en + R.en) = (plM D C i).en + R.en := wrap_id (by omega) (by omega)
      have w2 : IntKind.i64.wrap ((plM D C i).st + R.sta) = (plM D C i).st + R.sta := wrap_id (by omega) (by omega)
      refine ⟨⟨i + 1, by omega, by rw [hs]⟩, by simp only []; omega, ?_⟩
      apply sub_of <;> simp only [hw3, w1, w2, hs, go_sem, ↓reduceIte, Nat.reduceAdd, Nat.reduceSub, Nat.reduceMul, Nat.reduceEqDiff, Nat.reduceLT, Nat.reduceLeDiff, Int.reduceToNat, Int.reduceLE, Int.reduceLT, Int.reduceEq, Int.reduceNeg, reduceCtorEq] <;> (try simp)
      all_goals first | exact nestF_bd _ _ _ _ _ _ _ _ _ | exact prC_bds D _ _ | exact fun j _ => Bd_nth (prC_bd D _ _) j
  · obtain rfl : i = m := by omega
    have q1 := mulB (x := (plM D C i).s.pk) (y := D.pk) (m := 3000) (k := 10000) p1.2.2 hpk
    have w1 : IntKind.i64.wrap ((plM D C i).s.pk * D.pk) = (plM D C i).s.pk * D.pk := wrap_id (by omega) (by omega)
    rw [w1]
    simp only [plO, if_pos h3, hhr, psS]
    exact ⟨⟨by kernel_rfl, by kernel_rfl⟩, ⟨by kernel_rfl, by kernel_rfl⟩, trivial⟩
end Go.Eng
end

/- press: the first cells of compressors do not count. -/
section
namespace Go.Eng
open Go Go.RowKit Go.Proofs
set_option maxRecDepth 100000
set_option maxHeartbeats 4000000
attribute [local irreducible] OwnT DefS
section
variable {n : Nat} {A : Nat → Nat → Int} {M : Nat → Nat} {V : Nat → Nat → Nat → Int} {h : Nat} {nd pr : Nat → Nat → Int} {st ro pk fr : Int}
theorem begP_ns : begP ⟨n, nsA (nestF 0 2 A M V), M, V, h, nd, pr, st, ro, pk, fr⟩ = begP ⟨n, A, M, V, h, nd, pr, st, ro, pk, fr⟩ := by
  simp only [begP, onI_ns]
theorem plM_ns (C : Nat → T3) : ∀ k, plM ⟨n, nsA (nestF 0 2 A M V), M, V, h, nd, pr, st, ro, pk, fr⟩ C k = plM ⟨n, A, M, V, h, nd, pr, st, ro, pk, fr⟩ C k
  | 0 => by simp only [plM, begP_ns]
  | k + 1 => by simp only [plM, plStep, plM_ns C k, hourP_ns]
theorem plO_ns (r : PL) : plO ⟨n, nsA (nestF 0 2 A M V), M, V, h, nd, pr, st, ro, pk, fr⟩ r = plO ⟨n, A, M, V, h, nd, pr, st, ro, pk, fr⟩ r := rfl
theorem pickM_ns (f : T3 → Option Int) : ∀ k, pickM ⟨n, nsA (nestF 0 2 A M V), M, V, h, nd, pr, st, ro, pk, fr⟩ f k = pickM ⟨n, A, M, V, h, nd, pr, st, ro, pk, fr⟩ f k
  | 0 => rfl
  | k + 1 => by
    have e : dig ⟨n, nsA (nestF 0 2 A M V), M, V, h, nd, pr, st, ro, pk, fr⟩ k = dig ⟨n, A, M, V, h, nd, pr, st, ro, pk, fr⟩ k := rfl
    simp only [pickM, pickM_ns f k, e]
theorem bestM_ns : ∀ (k : Nat) (s : PS), bestM ⟨n, nsA (nestF 0 2 A M V), M, V, h, nd, pr, st, ro, pk, fr⟩ k s = bestM ⟨n, A, M, V, h, nd, pr, st, ro, pk, fr⟩ k s
  | 0, s => rfl
  | k + 1, s => by
    have ih : bestM ⟨n, nsA (nestF 0 2 A M V), M, V, h, nd, pr, st, ro, pk, fr⟩ k = bestM ⟨n, A, M, V, h, nd, pr, st, ro, pk, fr⟩ k := funext fun s => bestM_ns k s
    have e : tot ⟨n, nsA (nestF 0 2 A M V), M, V, h, nd, pr, st, ro, pk, fr⟩ = tot ⟨n, A, M, V, h, nd, pr, st, ro, pk, fr⟩ := rfl
    have hc : ∀ (rest : PS → Option (Int × T3)) (i : Nat), candM ⟨n, nsA (nestF 0 2 A M V), M, V, h, nd, pr, st, ro, pk, fr⟩ rest s i = candM ⟨n, A, M, V, h, nd, pr, st, ro, pk, fr⟩ rest s i := fun rest i => by
      funext c
      simp only [candM, hourP_ns]
    simp only [bestM, ih, e, pickM_ns, hc]
theorem sAt_ns : ∀ i, sAt ⟨n, nsA (nestF 0 2 A M V), M, V, h, nd, pr, st, ro, pk, fr⟩ i = sAt ⟨n, A, M, V, h, nd, pr, st, ro, pk, fr⟩ i
  | 0 => begP_ns
  | i + 1 => by simp only [sAt, sAt_ns i, hourP_ns, bestM_ns]
theorem cAt_ns : cAt ⟨n, nsA (nestF 0 2 A M V), M, V, h, nd, pr, st, ro, pk, fr⟩ = cAt ⟨n, A, M, V, h, nd, pr, st, ro, pk, fr⟩ := by
  funext i
  simp only [cAt, sAt_ns, bestM_ns]
theorem chE_ns (b : Bool) : chE b ⟨n, nsA (nestF 0 2 A M V), M, V, h, nd, pr, st, ro, pk, fr⟩ = chE b ⟨n, A, M, V, h, nd, pr, st, ro, pk, fr⟩ := by
  simp only [chE, bestM_ns, begP_ns]
theorem chC_ns (b : Bool) : chC b ⟨n, nsA (nestF 0 2 A M V), M, V, h, nd, pr, st, ro, pk, fr⟩ = chC b ⟨n, A, M, V, h, nd, pr, st, ro, pk, fr⟩ := by
  simp only [chC, chE_ns, bestM_ns, begP_ns]
theorem chN_ns (b : Bool) : chN b ⟨n, nsA (nestF 0 2 A M V), M, V, h, nd, pr, st, ro, pk, fr⟩ = chN b ⟨n, A, M, V, h, nd, pr, st, ro, pk, fr⟩ := by
  simp only [chN, chE_ns]
end
def plBad (e : Int) : PL := ⟨e, 0, ⟨⟨0, 0, 0⟩, 0, 0⟩, 0, 0⟩
def ckR (D : PD) (b : Bool) (m : Nat) (K : Nat → Nat) (W : Nat → Nat → Nat → Int) : PL :=
  if b then (if (rdB D.n D.M m K W && decide ((m : Int) = (D.h : Int))) = true then plM D (fun i => chT D.n (W i)) m else plBad 2) else plBad 1
theorem plM_bad {D : PD} {C : Nat → T3} : ∀ k, (plM D C k).e ≠ 0 → (plM D C k).s = ⟨⟨0, 0, 0⟩, 0, 0⟩ ∧ (plM D C k).en = 0 ∧ (plM D C k).st = 0
  | 0, h => absurd rfl h
  | k + 1, h => by
    simp only [plM, plStep] at h ⊢
    split at h
    · rename_i h0
      rw [if_pos h0]
      split at h
      · exact absurd rfl h
      · rename_i h1
        rw [if_neg h1]
        exact ⟨rfl, rfl, rfl⟩
    · rename_i h0
      rw [if_neg h0]
      exact plM_bad k h0
section
variable {n : Nat} {A : Nat → Nat → Int} {M : Nat → Nat} {V : Nat → Nat → Nat → Int} {h : Nat} {nd pr : Nat → Nat → Int} {st ro pk fr : Int}
theorem ckR_ns (b : Bool) (m : Nat) (K : Nat → Nat) (W : Nat → Nat → Nat → Int) : ckR ⟨n, nsA (nestF 0 2 A M V), M, V, h, nd, pr, st, ro, pk, fr⟩ b m K W = ckR ⟨n, A, M, V, h, nd, pr, st, ro, pk, fr⟩ b m K W := by
  simp only [ckR, plM_ns]
end
end Go.Eng
end

/- press: plans checked. -/
section
namespace Go.Eng
open Go Go.RowKit Go.Proofs
set_option maxRecDepth 100000
set_option maxHeartbeats 4000000
attribute [local irreducible] OwnT DefS
theorem rdB_ok {n : Nat} {M : Nat → Nat} {m : Nat} {K : Nat → Nat} {W : Nat → Nat → Nat → Int} (h : rdB n M m K W = true) {i : Nat} (hi : i < m) : K i = n ∧ ∀ a, a < n → 0 ≤ W i a 0 ∧ W i a 0 ≤ M a := by
  have := allU_iff.1 h i hi
  simp only [rdRow, Bool.and_eq_true, decide_eq_true_eq, allU_iff, in3_iff] at this
  obtain ⟨h1, h2⟩ := this
  exact ⟨by omega, fun a ha => h2 a (by omega)⟩
theorem chT_ok {D : PD} (hD : D.Ok) {m : Nat} {K : Nat → Nat} {W : Nat → Nat → Nat → Int} (h : rdB D.n D.M m K W = true) {i : Nat} (hi : i < m) : chOk D (chT D.n (W i)) := by
  obtain ⟨h1, h2⟩ := rdB_ok h hi
  intro a ha
  have hn := hD.n
  rw [chT_get ha (by omega)]
  exact h2 a ha
theorem chT_eta (n : Nat) (w : Nat → Nat → Int) : (⟨(chT n w).get 0, (chT n w).get 1, (chT n w).get 2⟩ : T3) = chT n w := rfl
def checkBase : BaseF := fun args => match args with
  | [.agg [.row n sz_A f_A, .row h sz_nd f_nd, .row q sz_pr f_pr, .int .i64 st, .int .i64 ro, .int .i64 pk, .int .i64 fr], .row m sz_B f_B] => some ((sz_A = 5 ∧ NestR n 5 0 2 f_A) ∧ (sz_nd = 1 ∧ IntR h 1 f_nd) ∧ (sz_pr = 1 ∧ IntR q 1 f_pr) ∧ (sz_B = 1 ∧ NestR m 1 0 1 f_B) ∧ (((n ≤ 1000000 ∧ ∀ i, i < n → (nsM 0 f_A) i ≤ 1000000) ∧ h ≤ 1000000 ∧ q ≤ 1000000) ∧ m ≤ 1000000 ∧ ∀ i, i < m → (nsM 0 f_B) i ≤ 1000000), .tup [.agg [.int .i64 (ckR ⟨n, (nsA f_A), (nsM 0 f_A), (nsV 0 f_A), h, (ivf f_nd), (ivf f_pr), st, ro, pk, fr⟩ (psB n (nsA f_A) (nsM 0 f_A) (nsV 0 f_A) h (ivf f_nd) q (ivf f_pr) st ro pk fr) m (nsM 0 f_B) (nsV 0 f_B)).en, .int .i64 (ckR ⟨n, (nsA f_A), (nsM 0 f_A), (nsV 0 f_A), h, (ivf f_nd), (ivf f_pr), st, ro, pk, fr⟩ (psB n (nsA f_A) (nsM 0 f_A) (nsV 0 f_A) h (ivf f_nd) q (ivf f_pr) st ro pk fr) m (nsM 0 f_B) (nsV 0 f_B)).st, .int .i64 ((ckR ⟨n, (nsA f_A), (nsM 0 f_A), (nsV 0 f_A), h, (ivf f_nd), (ivf f_pr), st, ro, pk, fr⟩ (psB n (nsA f_A) (nsM 0 f_A) (nsV 0 f_A) h (ivf f_nd) q (ivf f_pr) st ro pk fr) m (nsM 0 f_B) (nsV 0 f_B)).s.pk * pk)], .int .i64 ((ckR ⟨n, (nsA f_A), (nsM 0 f_A), (nsV 0 f_A), h, (ivf f_nd), (ivf f_pr), st, ro, pk, fr⟩ (psB n (nsA f_A) (nsM 0 f_A) (nsV 0 f_A) h (ivf f_nd) q (ivf f_pr) st ro pk fr) m (nsM 0 f_B) (nsV 0 f_B)).hr : Int), .int .i64 (ckR ⟨n, (nsA f_A), (nsM 0 f_A), (nsV 0 f_A), h, (ivf f_nd), (ivf f_pr), st, ro, pk, fr⟩ (psB n (nsA f_A) (nsM 0 f_A) (nsV 0 f_A) h (ivf f_nd) q (ivf f_pr) st ro pk fr) m (nsM 0 f_B) (nsV 0 f_B)).e])
  | _ => none
theorem check_eq (n : Nat) (sz_A : Nat) (f_A : Nat → Nat → SV) (h : Nat) (sz_nd : Nat) (f_nd : Nat → Nat → SV) (q : Nat) (sz_pr : Nat) (f_pr : Nat → Nat → SV) (st : Int) (ro : Int) (pk : Int) (fr : Int) (m : Nat) (sz_B : Nat) (f_B : Nat → Nat → SV) : checkBase [.agg [.row n sz_A f_A, .row h sz_nd f_nd, .row q sz_pr f_pr, .int .i64 st, .int .i64 ro, .int .i64 pk, .int .i64 fr], .row m sz_B f_B] = some ((sz_A = 5 ∧ NestR n 5 0 2 f_A) ∧ (sz_nd = 1 ∧ IntR h 1 f_nd) ∧ (sz_pr = 1 ∧ IntR q 1 f_pr) ∧ (sz_B = 1 ∧ NestR m 1 0 1 f_B) ∧ (((n ≤ 1000000 ∧ ∀ i, i < n → (nsM 0 f_A) i ≤ 1000000) ∧ h ≤ 1000000 ∧ q ≤ 1000000) ∧ m ≤ 1000000 ∧ ∀ i, i < m → (nsM 0 f_B) i ≤ 1000000), .tup [.agg [.int .i64 (ckR ⟨n, (nsA f_A), (nsM 0 f_A), (nsV 0 f_A), h, (ivf f_nd), (ivf f_pr), st, ro, pk, fr⟩ (psB n (nsA f_A) (nsM 0 f_A) (nsV 0 f_A) h (ivf f_nd) q (ivf f_pr) st ro pk fr) m (nsM 0 f_B) (nsV 0 f_B)).en, .int .i64 (ckR ⟨n, (nsA f_A), (nsM 0 f_A), (nsV 0 f_A), h, (ivf f_nd), (ivf f_pr), st, ro, pk, fr⟩ (psB n (nsA f_A) (nsM 0 f_A) (nsV 0 f_A) h (ivf f_nd) q (ivf f_pr) st ro pk fr) m (nsM 0 f_B) (nsV 0 f_B)).st, .int .i64 ((ckR ⟨n, (nsA f_A), (nsM 0 f_A), (nsV 0 f_A), h, (ivf f_nd), (ivf f_pr), st, ro, pk, fr⟩ (psB n (nsA f_A) (nsM 0 f_A) (nsV 0 f_A) h (ivf f_nd) q (ivf f_pr) st ro pk fr) m (nsM 0 f_B) (nsV 0 f_B)).s.pk * pk)], .int .i64 ((ckR ⟨n, (nsA f_A), (nsM 0 f_A), (nsV 0 f_A), h, (ivf f_nd), (ivf f_pr), st, ro, pk, fr⟩ (psB n (nsA f_A) (nsM 0 f_A) (nsV 0 f_A) h (ivf f_nd) q (ivf f_pr) st ro pk fr) m (nsM 0 f_B) (nsV 0 f_B)).hr : Int), .int .i64 (ckR ⟨n, (nsA f_A), (nsM 0 f_A), (nsV 0 f_A), h, (ivf f_nd), (ivf f_pr), st, ro, pk, fr⟩ (psB n (nsA f_A) (nsM 0 f_A) (nsV 0 f_A) h (ivf f_nd) q (ivf f_pr) st ro pk fr) m (nsM 0 f_B) (nsV 0 f_B)).e]) := rfl
theorem check_base : Base Try.prog 19 checkBase := by
  intro args p v hq hp
  unfold checkBase at hq
  split at hq
  rotate_left
  · cases hq
  rename_i n sz_A f_A h sz_nd f_nd q sz_pr f_pr st ro pk fr m sz_B f_B
  cases hq
  obtain ⟨⟨rfl, i_A⟩, ⟨rfl, i_nd⟩, ⟨rfl, i_pr⟩, ⟨rfl, i_B⟩, pre⟩ := hp
  refine base_of (C := cx [] [(43, 63, readBase)] [(31, arePsBase), (44, playBase)] [] none) (cx_ok ⟨read_base, trivial⟩ ⟨arePs_base, play_base, trivial⟩) rfl (g := 19) (fn := Try.f19)
    (args' := [.agg [.row n 5 (nestF 0 2 (nsA f_A) (nsM 0 f_A) (nsV 0 f_A)), .row h 1 (rowF .i64 (ivf f_nd)), .row q 1 (rowF .i64 (ivf f_pr)), .int .i64 st, .int .i64 ro, .int .i64 pk, .int .i64 fr], .row m 1 (nestF 0 1 (nsA f_B) (nsM 0 f_B) (nsV 0 f_B))]) (fn_19) rfl 1000 (by
    simp only [BdL, Bd, and_self, and_true, true_and]
    exact ⟨⟨(fun i j hi hj => nest_bd i_A i j hi hj), (fun i j hi hj => by rw [i_nd i j hi hj]; trivial), (fun i j hi hj => by rw [i_pr i j hi hj]; trivial)⟩, (fun i j hi hj => nest_bd i_B i j hi hj)⟩) ⟨SameD.agg ⟨SameD.nest i_A, SameD.int i_nd, SameD.int i_pr, SameD.rfl' _, SameD.rfl' _, SameD.rfl' _, SameD.rfl' _, trivial⟩, SameD.nest i_B, trivial⟩ ?_
  generalize nsA f_A = A at *
  generalize nsM 0 f_A = M at *
  generalize nsV 0 f_A = V at *
  generalize ivf f_nd = nd at *
  generalize ivf f_pr = pr at *
  generalize nsA f_B = B at *
  generalize nsM 0 f_B = K at *
  generalize nsV 0 f_B = W at *
  simp only [rowF_eq]
  simp only [arePs_eq, play_eq, read_eq, nestF_eq, nestR_lit, nsM_lit, nsV_lit, psS, onI_ns, psB_ns, chF, chT_eta, plM_ns, plO_ns, Ok_ns, Try.f19, go_sem, ↓reduceIte, Nat.reduceAdd, Nat.reduceSub, Nat.reduceMul, Nat.reduceEqDiff, Nat.reduceLT, Nat.reduceLeDiff, Int.reduceToNat, Int.reduceLE, Int.reduceLT, Int.reduceEq, Int.reduceNeg, reduceCtorEq]
  obtain ⟨pre, pm, pK⟩ := pre
  generalize hb : psB n A M V h nd q pr st ro pk fr = b
  refine ⟨pre, fun c1 => ?_, fun c1 => ?_⟩
  · obtain rfl : b = false := by simpa using c1
    simp only [ckR, Bool.false_eq_true, if_false, plBad, Int.zero_mul]
    rfl
  obtain rfl : b = true := by simpa using c1
  obtain ⟨rfl, hOk⟩ := psB_iff.1 hb
  have hn := hOk.n
  simp only [] at hn
  have bad : (rdB n M m K W && decide ((m : Int) = (q : Int))) = false → SV.tup [.agg [.int .i64 0, .int .i64 0, .int .i64 0], .int .i64 0, .int .i64 2] = .tup [.agg [.int .i64 (ckR ⟨n, A, M, V, q, nd, pr, st, ro, pk, fr⟩ true m K W).en, .int .i64 (ckR ⟨n, A, M, V, q, nd, pr, st, ro, pk, fr⟩ true m K W).st, .int .i64 ((ckR ⟨n, A, M, V, q, nd, pr, st, ro, pk, fr⟩ true m K W).s.pk * pk)], .int .i64 ((ckR ⟨n, A, M, V, q, nd, pr, st, ro, pk, fr⟩ true m K W).hr : Int), .int .i64 (ckR ⟨n, A, M, V, q, nd, pr, st, ro, pk, fr⟩ true m K W).e] := fun h => by
    have : ckR ⟨n, A, M, V, q, nd, pr, st, ro, pk, fr⟩ true m K W = plBad 2 := by simp only [ckR, h, if_true, Bool.false_eq_true, if_false]
    rw [this]
    simp only [plBad, Int.zero_mul]
    rfl
  refine ⟨⟨hn.1, hn.2, pm, pK⟩, fun c2 => bad (by simp only [Bool.not_eq_true'] at c2; simp [c2]), fun c2 => ⟨fun c3 => bad (by simp only [Bool.not_eq_true'] at c3; simp [c3]), fun c3 => ?_⟩⟩
  simp only [Bool.not_eq_false'] at c2 c3
  have hmq := of_decide_eq_true c3
  obtain rfl : m = q := by omega
  simp only [c2, if_true]
  refine ⟨⟨trivial, hOk, Nat.le_refl _, fun i hi => chT_ok hOk c2 hi⟩, ?_⟩
  have hck : ckR ⟨n, A, M, V, m, nd, pr, st, ro, pk, fr⟩ true m K W = plM ⟨n, A, M, V, m, nd, pr, st, ro, pk, fr⟩ (fun i => chT n (W i)) m := by simp only [ckR, c2, decide_true, Bool.and_true, if_true]
  rw [hck]
  have hbad := plM_bad (D := ⟨n, A, M, V, m, nd, pr, st, ro, pk, fr⟩) (C := fun i => chT n (W i)) m
  generalize plM ⟨n, A, M, V, m, nd, pr, st, ro, pk, fr⟩ (fun i => chT n (W i)) m = r at hbad
  by_cases he : r.e = 0
  · simp only [plO, he, if_true, arePs_eq, play_eq, read_eq, nestF_eq, nestR_lit, nsM_lit, nsV_lit, psS, onI_ns, psB_ns, chF, chT_eta, plM_ns, plO_ns, Ok_ns, Try.f19, go_sem, ↓reduceIte, Nat.reduceAdd, Nat.reduceSub, Nat.reduceMul, Nat.reduceEqDiff, Nat.reduceLT, Nat.reduceLeDiff, Int.reduceToNat, Int.reduceLE, Int.reduceLT, Int.reduceEq, Int.reduceNeg, reduceCtorEq]
  · obtain ⟨h1, h2, h3⟩ := hbad he
    simp only [plO, he, if_false, h1, h2, h3, Int.zero_mul, arePs_eq, play_eq, read_eq, nestF_eq, nestR_lit, nsM_lit, nsV_lit, psS, onI_ns, psB_ns, chF, chT_eta, plM_ns, plO_ns, Ok_ns, Try.f19, go_sem, ↓reduceIte, Nat.reduceAdd, Nat.reduceSub, Nat.reduceMul, Nat.reduceEqDiff, Nat.reduceLT, Nat.reduceLeDiff, Int.reduceToNat, Int.reduceLE, Int.reduceLT, Int.reduceEq, Int.reduceNeg, reduceCtorEq]
end Go.Eng
end

/- press: the document's example. -/
section
namespace Go.Eng
open Go Go.RowKit Go.Proofs
set_option maxRecDepth 100000
set_option maxHeartbeats 4000000
attribute [local irreducible] OwnT DefS
def smA : Nat → Nat → Int
  | 0, 1 => 50
  | 0, 2 => 2
  | 0, 3 => 3
  | 1, 1 => 20
  | 1, 2 => 1
  | 1, 3 => 12
  | 1, 4 => 1
  | _, _ => 0
def smM : Nat → Nat
  | 0 => 2
  | _ => 1
def smV : Nat → Nat → Nat → Int
  | 0, 0, 0 => 10
  | 0, 0, 1 => 4
  | 0, 1, 0 => 18
  | 0, 1, 1 => 6
  | 1, 0, 0 => 15
  | 1, 0, 1 => 5
  | _, _, _ => 0
def smN : Nat → Nat → Int
  | 0, _ => 4
  | 1, _ => 6
  | 2, _ => 3
  | _, _ => 5
def smP : Nat → Nat → Int
  | 0, _ => 10
  | 1, _ => 20
  | 2, _ => 20
  | _, _ => 10
def sampleBase : BaseF := fun args => match args with
  | [] => some (True, .agg [.row 2 5 (nestF 0 2 smA smM smV), .row 4 1 (fun i j => .int .i64 (smN i j)), .row 4 1 (fun i j => .int .i64 (smP i j)), .int .i64 3, .int .i64 6, .int .i64 5, .int .i64 12])
  | _ => none
theorem sample_eq  : sampleBase [] = some (True, .agg [.row 2 5 (nestF 0 2 smA smM smV), .row 4 1 (fun i j => .int .i64 (smN i j)), .row 4 1 (fun i j => .int .i64 (smP i j)), .int .i64 3, .int .i64 6, .int .i64 5, .int .i64 12]) := rfl
theorem sample_base : NB Try.prog 27 sampleBase := by
  intro args p v hq hp
  unfold sampleBase at hq
  split at hq
  rotate_left
  · cases hq
  cases hq
  refine nb_of (C := cx [] [] [] [] none) (cx_ok trivial trivial) rfl (g := 27) (fn := Try.f27)
    (args' := []) (fn_27) rfl 1000 (by simp only [BdL, Bd, and_self, and_true, true_and]) trivial (by simp only [Bd, BdL, and_true, implies_true]; exact nestF_bd _ _ _ _ _ _ _ _ _) ?_
  simp only [Try.f27, go_sem, ↓reduceIte, Nat.reduceAdd, Nat.reduceSub, Nat.reduceMul, Nat.reduceEqDiff, Nat.reduceLT, Nat.reduceLeDiff, Int.reduceToNat, Int.reduceLE, Int.reduceLT, Int.reduceEq, Int.reduceNeg, reduceCtorEq]
  refine ⟨⟨fun i j hi hj => ?_, fun i j hi hj => ?_, fun i j hi hj => ?_⟩, ?_⟩
  · rcases (by omega : i = 0 ∨ i = 1) with rfl | rfl <;> rcases (by omega : j = 0 ∨ j = 1 ∨ j = 2 ∨ j = 3 ∨ j = 4) with rfl | rfl | rfl | rfl | rfl <;> first | exact trivial | skip
    · exact fun a b ha hb => by rcases (by omega : a = 0 ∨ a = 1) with rfl | rfl <;> rcases (by omega : b = 0 ∨ b = 1) with rfl | rfl <;> exact trivial
    · exact fun a b ha hb => by rcases (by omega : a = 0) with rfl; rcases (by omega : b = 0 ∨ b = 1) with rfl | rfl <;> exact trivial
  · obtain rfl : j = 0 := by omega
    rcases (by omega : i = 0 ∨ i = 1 ∨ i = 2 ∨ i = 3) with rfl | rfl | rfl | rfl <;> exact trivial
  · obtain rfl : j = 0 := by omega
    rcases (by omega : i = 0 ∨ i = 1 ∨ i = 2 ∨ i = 3) with rfl | rfl | rfl | rfl <;> exact trivial
  apply SameD.agg
  refine ⟨SameD.rowD fun i j hi hj => ?_, SameD.rowD fun i j hi hj => ?_, SameD.rowD fun i j hi hj => ?_, SameD.rfl' _, SameD.rfl' _, SameD.rfl' _, SameD.rfl' _, trivial⟩
  · rcases (by omega : i = 0 ∨ i = 1) with rfl | rfl <;> rcases (by omega : j = 0 ∨ j = 1 ∨ j = 2 ∨ j = 3 ∨ j = 4) with rfl | rfl | rfl | rfl | rfl <;> first | exact SameD.rfl' _ | skip
    · exact SameD.rowD fun a b ha hb => by rcases (by omega : a = 0 ∨ a = 1) with rfl | rfl <;> rcases (by omega : b = 0 ∨ b = 1) with rfl | rfl <;> exact SameD.rfl' _
    · exact SameD.rowD fun a b ha hb => by rcases (by omega : a = 0) with rfl; rcases (by omega : b = 0 ∨ b = 1) with rfl | rfl <;> exact SameD.rfl' _
  · obtain rfl : j = 0 := by omega
    rcases (by omega : i = 0 ∨ i = 1 ∨ i = 2 ∨ i = 3) with rfl | rfl | rfl | rfl <;> exact SameD.rfl' _
  · obtain rfl : j = 0 := by omega
    rcases (by omega : i = 0 ∨ i = 1 ∨ i = 2 ∨ i = 3) with rfl | rfl | rfl | rfl <;> exact SameD.rfl' _
theorem al_ps : psB 2 smA smM smV 4 smN 4 smP 3 6 5 12 = true := by decide +kernel
theorem al_best : bestM ⟨2, smA, smM, smV, 4, smN, smP, 3, 6, 5, 12⟩ 4 (begP ⟨2, smA, smM, smV, 4, smN, smP, 3, 6, 5, 12⟩) = some (630, ⟨2, 0, 0⟩) := by decide +kernel
theorem al_E : chE true ⟨2, smA, smM, smV, 4, smN, smP, 3, 6, 5, 12⟩ = 0 := by simp only [chE, al_best]; rfl
theorem al_C : chC true ⟨2, smA, smM, smV, 4, smN, smP, 3, 6, 5, 12⟩ = 630 := by simp only [chC, al_E, if_true, al_best]; rfl
theorem al_N : chN true ⟨2, smA, smM, smV, 4, smN, smP, 3, 6, 5, 12⟩ = 4 := by simp only [chN, al_E, if_true]
def aliveBase : BaseF := fun args => match args with
  | [] => some (True, .bool true)
  | _ => none
theorem alive_eq  : aliveBase [] = some (True, .bool true) := rfl
theorem alive_base : Base Try.prog 13 aliveBase := by
  intro args p v hq hp
  unfold aliveBase at hq
  split at hq
  rotate_left
  · cases hq
  cases hq
  refine base_of (C := cxn [] [(27, sampleBase), (14, cheapestBase)] [] [(19, checkBase), (16, plansBase)] [] none) (cxn_ok ⟨sample_base, cheapest_base, trivial⟩ trivial ⟨check_base, plans_base, trivial⟩) rfl (g := 13) (fn := Try.f13)
    (args' := []) (fn_13) rfl 1000 (by simp only [BdL, Bd, and_self, and_true, true_and]) trivial ?_
  simp only [check_eq, plans_eq, sample_eq, cheapest_eq, nestF_eq, nestR_lit, nsM_lit, nsV_lit, psB_ns, chE_ns, chC_ns, chN_ns, cAt_ns, ckR_ns, planF, al_ps, al_E, al_C, al_N, Try.f13, go_sem, ↓reduceIte, Nat.reduceAdd, Nat.reduceSub, Nat.reduceMul, Nat.reduceEqDiff, Nat.reduceLT, Nat.reduceLeDiff, Int.reduceToNat, Int.reduceLE, Int.reduceLT, Int.reduceEq, Int.reduceNeg, reduceCtorEq]
  refine ⟨fun i _ => by simp only [smM]; split <;> omega, ⟨nestRb_ok (by kernel_rfl), fun i _ => by simp only [smM]; split <;> omega, fun i hi => ?_⟩, ⟨nestRb_ok (by kernel_rfl), ?_⟩, ?_⟩
  · rcases (by omega : i = 0 ∨ i = 1 ∨ i = 2 ∨ i = 3) with rfl | rfl | rfl | rfl <;> decide +kernel
  · exact fun _ _ => trivial
  · refine spl_t (by kernel_rfl) (spl_t (by kernel_rfl) ?_)
    congr 1
end Go.Eng
end

/- A slice of one list of lists; contracts of which one or the other fits. -/
section
namespace Go.Eng
open Go Go.RowKit Go.Proofs
def oneM (f : Nat → Nat → SV) : Nat := rowN (f 0 0)
def oneC (f : Nat → Nat → SV) : Nat → Nat → SV := rowC (f 0 0)
def OneN (f : Nat → Nat → SV) : Prop := f 0 0 = .row (oneM f) 1 (oneC f) ∧ NestR (oneM f) 1 0 1 (oneC f)
theorem SameD.one {f : Nat → Nat → SV} (h : OneN f) : SameD (.row 1 1 f) (.row 1 1 (oneF [.row (oneM f) 1 (nestF 0 1 (nsA (oneC f)) (nsM 0 (oneC f)) (nsV 0 (oneC f)))])) := by
  refine SameD.rowD fun i j hi hj => ?_
  obtain rfl : i = 0 := by omega
  obtain rfl : j = 0 := by omega
  rw [h.1]
  exact SameD.nest h.2
theorem one_bd {f : Nat → Nat → SV} (h : OneN f) (i j : Nat) (hi : i < 1) (hj : j < 1) : Bd 0 0 (f i j) := by
  obtain rfl : i = 0 := by omega
  obtain rfl : j = 0 := by omega
  rw [h.1]
  exact nest_bd h.2
def orB (a b : BaseF) : BaseF := fun args => match a args with
  | some r => some r
  | none => b args
theorem orB_base {P : Program} {g : Nat} {a b : BaseF} (ha : Base P g a) (hb : Base P g b) : Base P g (orB a b) := fun args p v h hp => by
  unfold orB at h
  split at h
  · rename_i r hr
    cases h
    exact ha args p v hr hp
  · exact hb args p v h hp
theorem oneN_lit (h : HS) (k m : Nat) (B : Nat → Nat → Int) (K : Nat → Nat) (W : Nat → Nat → Nat → Int) : OneN (fun _ j => frzF (k + 1) h (nth [.row m 1 (nestF 0 1 B K W)] j)) = True :=
  eq_true ⟨rfl, nestR_lit m 1 0 1 B K W ▸ trivial⟩
theorem oneM_lit (h : HS) (k m : Nat) (B : Nat → Nat → Int) (K : Nat → Nat) (W : Nat → Nat → Nat → Int) : oneM (fun _ j => frzF (k + 1) h (nth [.row m 1 (nestF 0 1 B K W)] j)) = m := rfl
theorem oneC_lit (h : HS) (k m : Nat) (B : Nat → Nat → Int) (K : Nat → Nat) (W : Nat → Nat → Nat → Int) : oneC (fun _ j => frzF (k + 1) h (nth [.row m 1 (nestF 0 1 B K W)] j)) = nestF 0 1 B K W := rfl
end Go.Eng
end

/- press: what a statement looks at. -/
section
namespace Go.Eng
open Go Go.RowKit Go.Proofs
set_option maxRecDepth 100000
set_option maxHeartbeats 4000000
attribute [local irreducible] OwnT DefS
def gr0 (n : Nat) (M : Nat → Nat) (h q : Nat) : Bool := decide (6 < (n : Int)) || (decide (20 < (h : Int)) || (decide (20 < (q : Int)) || !allU (fun i => decide ((M i : Int) ≤ 6)) n))
def gr1 (m : Nat) (K : Nat → Nat) : Bool := decide (20 < (m : Int)) || !allU (fun i => decide ((K i : Int) ≤ 8)) m
def great0Base : BaseF := fun args => match args with
  | [.agg [.row n sz_A f_A, .row h sz_nd f_nd, .row q sz_pr f_pr, .int .i64 st, .int .i64 ro, .int .i64 pk, .int .i64 fr], .row 0 sz_pl f_pl] => some ((sz_A = 5 ∧ NestR n 5 0 2 f_A) ∧ (sz_nd = 1 ∧ IntR h 1 f_nd) ∧ (sz_pr = 1 ∧ IntR q 1 f_pr), .bool (gr0 n (nsM 0 f_A) h q))
  | _ => none
theorem great0_base : Base Try.prog 11 great0Base := by
  intro args p v hq hp
  unfold great0Base at hq
  split at hq
  rotate_left
  · cases hq
  rename_i n sz_A f_A h sz_nd f_nd q sz_pr f_pr st ro pk fr sz_pl f_pl
  cases hq
  obtain ⟨⟨rfl, i_A⟩, ⟨rfl, i_nd⟩, ⟨rfl, i_pr⟩⟩ := hp
  refine base_of (C := cx [] [] [] [] none) (cx_ok trivial trivial) rfl (g := 11) (fn := Try.f11)
    (args' := [.agg [.row n 5 (nestF 0 2 (nsA f_A) (nsM 0 f_A) (nsV 0 f_A)), .row h 1 (rowF .i64 (ivf f_nd)), .row q 1 (rowF .i64 (ivf f_pr)), .int .i64 st, .int .i64 ro, .int .i64 pk, .int .i64 fr], .row 0 1 (fun _ _ => .any)]) (fn_11) rfl 1000 (by
    simp only [BdL, Bd, and_self, and_true, true_and]
    exact ⟨⟨(fun i j hi hj => nest_bd i_A i j hi hj), (fun i j hi hj => by rw [i_nd i j hi hj]; trivial), (fun i j hi hj => by rw [i_pr i j hi hj]; trivial)⟩, (fun i j hi hj => absurd hi (by omega))⟩) ⟨SameD.agg ⟨SameD.nest i_A, SameD.int i_nd, SameD.int i_pr, SameD.rfl' _, SameD.rfl' _, SameD.rfl' _, SameD.rfl' _, trivial⟩, SameD.row0, trivial⟩ ?_
  generalize nsA f_A = A
  generalize nsM 0 f_A = M
  generalize nsV 0 f_A = V
  generalize ivf f_nd = nd
  generalize ivf f_pr = pr
  simp only [rowF_eq]
  simp only [nestF_eq, nestR_lit, nsM_lit, nsV_lit, Try.f11, go_sem, ↓reduceIte, Nat.reduceAdd, Nat.reduceSub, Nat.reduceMul, Nat.reduceEqDiff, Nat.reduceLT, Nat.reduceLeDiff, Int.reduceToNat, Int.reduceLE, Int.reduceLT, Int.reduceEq, Int.reduceNeg, reduceCtorEq]
  have w0 : gr0 n M h q = true → SV.bool true = .bool (gr0 n M h q) := fun e => by simp [e]
  refine ⟨fun c1 => w0 (by simp [gr0, c1]), fun c1 => ⟨fun c2 => w0 (by simp [gr0, c2]), fun c2 => ⟨fun c3 => w0 (by simp [gr0, c3]), fun c3 => ?_⟩⟩⟩
  simp only [decide_eq_false_iff_not] at c1 c2 c3
  refine loop_ofH { i : Nat // i ≤ n ∧ ∀ j, j < i → (fun i => decide ((M i : Int) ≤ 6)) j = true } (fun i => [(30, .int .i64 (i.1 : Int)), (29, .int .i64 (n : Int)), (28, .row n 5 (nestF 0 2 A M V)), (1, .row 0 1 fun _ _ => .any)])
    (fun h _ => h) (fun i => n - i.1) (fun _ => ⟨rfl, rfl⟩) ⟨0, by omega, by omega⟩ (by (apply sub_of <;> simp only [go_sem, ↓reduceIte, Nat.reduceAdd, Nat.reduceSub, Nat.reduceMul, Nat.reduceEqDiff, Nat.reduceLT, Nat.reduceLeDiff, Int.reduceToNat, Int.reduceLE, Int.reduceLT, Int.reduceEq, Int.reduceNeg, reduceCtorEq] <;> (try simp [catF])); all_goals first | exact nestF_bd _ _ _ _ _ _ _ _ _ | exact ⟨nestF_bd _ _ _ _ _ _ _ _ _, nestF_bd _ _ _ _ _ _ _ _ _⟩) ?_
  rintro ⟨i, hi, h3⟩
  simp only [nestF_eq, nestR_lit, nsM_lit, nsV_lit, Try.f11, go_sem, ↓reduceIte, Nat.reduceAdd, Nat.reduceSub, Nat.reduceMul, Nat.reduceEqDiff, Nat.reduceLT, Nat.reduceLeDiff, Int.reduceToNat, Int.reduceLE, Int.reduceLT, Int.reduceEq, Int.reduceNeg, reduceCtorEq]
  have hw3 : IntKind.i64.wrap ((i : Int) + 1) = ((i + 1 : Nat) : Int) := by rw [wrap_id (by omega) (by omega)]; omega
  refine ⟨fun e1 => ?_, fun e1 => ?_⟩
  · simp only [decide_eq_true_eq] at e1
    refine ⟨⟨by omega, by omega⟩, fun e2 => w0 ?_, fun e2 => ⟨⟨i + 1, by omega, below h3 ?_⟩, by simp only []; omega, ?_⟩⟩
    all_goals simp only [decide_eq_true_eq, decide_eq_false_iff_not] at e2
    · have := allU_false (p := fun i => decide ((M i : Int) ≤ 6)) (n := n) (i := i) (by omega) (decide_eq_false (by omega))
      simp only [gr0, this, Bool.not_false, Bool.or_true]
    · exact decide_eq_true (by omega)
    · apply sub_of <;> simp only [hw3, go_sem, ↓reduceIte, Nat.reduceAdd, Nat.reduceSub, Nat.reduceMul, Nat.reduceEqDiff, Nat.reduceLT, Nat.reduceLeDiff, Int.reduceToNat, Int.reduceLE, Int.reduceLT, Int.reduceEq, Int.reduceNeg, reduceCtorEq] <;> (try simp)
      all_goals first | exact nestF_bd _ _ _ _ _ _ _ _ _ | exact ⟨nestF_bd _ _ _ _ _ _ _ _ _, nestF_bd _ _ _ _ _ _ _ _ _⟩
  simp only [decide_eq_false_iff_not] at e1
  obtain rfl : i = n := by omega
  have hg : gr0 i M h q = false := by simp only [gr0, allU_true h3, decide_eq_false c1, decide_eq_false c2, decide_eq_false c3]; rfl
  clear w0
  rw [hg]
  refine loop_ofH Unit (fun _ => [(41, .int .i64 0), (40, .int .i64 0), (39, .row 0 1 fun _ _ => .any)]) (fun h _ => h) (fun _ => 0) (fun _ => ⟨rfl, rfl⟩) () (by (apply sub_of <;> simp only [go_sem, ↓reduceIte, Nat.reduceAdd, Nat.reduceSub, Nat.reduceMul, Nat.reduceEqDiff, Nat.reduceLT, Nat.reduceLeDiff, Int.reduceToNat, Int.reduceLE, Int.reduceLT, Int.reduceEq, Int.reduceNeg, reduceCtorEq] <;> (try simp [catF])); all_goals first | exact nestF_bd _ _ _ _ _ _ _ _ _ | rfl) ?_
  rintro ⟨⟩
  simp only [nestF_eq, nestR_lit, nsM_lit, nsV_lit, Try.f11, go_sem, ↓reduceIte, Nat.reduceAdd, Nat.reduceSub, Nat.reduceMul, Nat.reduceEqDiff, Nat.reduceLT, Nat.reduceLeDiff, Int.reduceToNat, Int.reduceLE, Int.reduceLT, Int.reduceEq, Int.reduceNeg, reduceCtorEq]
def great1Base : BaseF := fun args => match args with
  | [.agg [.row n sz_A f_A, .row h sz_nd f_nd, .row q sz_pr f_pr, .int .i64 st, .int .i64 ro, .int .i64 pk, .int .i64 fr], .row 1 sz_B f_B] => some ((sz_A = 5 ∧ NestR n 5 0 2 f_A) ∧ (sz_nd = 1 ∧ IntR h 1 f_nd) ∧ (sz_pr = 1 ∧ IntR q 1 f_pr) ∧ (sz_B = 1 ∧ OneN f_B), .bool (gr0 n (nsM 0 f_A) h q || gr1 (oneM f_B) (nsM 0 (oneC f_B))))
  | _ => none
theorem great1_eq (n : Nat) (sz_A : Nat) (f_A : Nat → Nat → SV) (h : Nat) (sz_nd : Nat) (f_nd : Nat → Nat → SV) (q : Nat) (sz_pr : Nat) (f_pr : Nat → Nat → SV) (st : Int) (ro : Int) (pk : Int) (fr : Int) (sz_B : Nat) (f_B : Nat → Nat → SV) : great1Base [.agg [.row n sz_A f_A, .row h sz_nd f_nd, .row q sz_pr f_pr, .int .i64 st, .int .i64 ro, .int .i64 pk, .int .i64 fr], .row 1 sz_B f_B] = some ((sz_A = 5 ∧ NestR n 5 0 2 f_A) ∧ (sz_nd = 1 ∧ IntR h 1 f_nd) ∧ (sz_pr = 1 ∧ IntR q 1 f_pr) ∧ (sz_B = 1 ∧ OneN f_B), .bool (gr0 n (nsM 0 f_A) h q || gr1 (oneM f_B) (nsM 0 (oneC f_B)))) := rfl
theorem great1_base : Base Try.prog 11 great1Base := by
  intro args p v hq hp
  unfold great1Base at hq
  split at hq
  rotate_left
  · cases hq
  rename_i n sz_A f_A h sz_nd f_nd q sz_pr f_pr st ro pk fr sz_B f_B
  cases hq
  obtain ⟨⟨rfl, i_A⟩, ⟨rfl, i_nd⟩, ⟨rfl, i_pr⟩, ⟨rfl, i_B⟩⟩ := hp
  refine base_of (C := cx [] [] [] [] none) (cx_ok trivial trivial) rfl (g := 11) (fn := Try.f11)
    (args' := [.agg [.row n 5 (nestF 0 2 (nsA f_A) (nsM 0 f_A) (nsV 0 f_A)), .row h 1 (rowF .i64 (ivf f_nd)), .row q 1 (rowF .i64 (ivf f_pr)), .int .i64 st, .int .i64 ro, .int .i64 pk, .int .i64 fr], .row 1 1 (oneF [.row (oneM f_B) 1 (nestF 0 1 (nsA (oneC f_B)) (nsM 0 (oneC f_B)) (nsV 0 (oneC f_B)))])]) (fn_11) rfl 1000 (by
    simp only [BdL, Bd, and_self, and_true, true_and]
    exact ⟨⟨(fun i j hi hj => nest_bd i_A i j hi hj), (fun i j hi hj => by rw [i_nd i j hi hj]; trivial), (fun i j hi hj => by rw [i_pr i j hi hj]; trivial)⟩, (fun i j hi hj => one_bd i_B i j hi hj)⟩) ⟨SameD.agg ⟨SameD.nest i_A, SameD.int i_nd, SameD.int i_pr, SameD.rfl' _, SameD.rfl' _, SameD.rfl' _, SameD.rfl' _, trivial⟩, SameD.one i_B, trivial⟩ ?_
  generalize nsA f_A = A
  generalize nsM 0 f_A = M
  generalize nsV 0 f_A = V
  generalize ivf f_nd = nd
  generalize ivf f_pr = pr
  generalize nsA (oneC f_B) = B
  generalize nsM 0 (oneC f_B) = K
  generalize nsV 0 (oneC f_B) = W
  generalize oneM f_B = m
  simp only [rowF_eq]
  simp only [nestF_eq, nestR_lit, nsM_lit, nsV_lit, Try.f11, go_sem, ↓reduceIte, Nat.reduceAdd, Nat.reduceSub, Nat.reduceMul, Nat.reduceEqDiff, Nat.reduceLT, Nat.reduceLeDiff, Int.reduceToNat, Int.reduceLE, Int.reduceLT, Int.reduceEq, Int.reduceNeg, reduceCtorEq]
  have w0 : gr0 n M h q = true → SV.bool true = .bool (gr0 n M h q || gr1 m K) := fun e => by simp [e]
  refine ⟨fun c1 => w0 (by simp [gr0, c1]), fun c1 => ⟨fun c2 => w0 (by simp [gr0, c2]), fun c2 => ⟨fun c3 => w0 (by simp [gr0, c3]), fun c3 => ?_⟩⟩⟩
  simp only [decide_eq_false_iff_not] at c1 c2 c3
  refine loop_ofH { i : Nat // i ≤ n ∧ ∀ j, j < i → (fun i => decide ((M i : Int) ≤ 6)) j = true } (fun i => [(30, .int .i64 (i.1 : Int)), (29, .int .i64 (n : Int)), (28, .row n 5 (nestF 0 2 A M V)), (1, .row 1 1 (oneF [.row m 1 (nestF 0 1 B K W)]))])
    (fun h _ => h) (fun i => n - i.1) (fun _ => ⟨rfl, rfl⟩) ⟨0, by omega, by omega⟩ (by (apply sub_of <;> simp only [go_sem, ↓reduceIte, Nat.reduceAdd, Nat.reduceSub, Nat.reduceMul, Nat.reduceEqDiff, Nat.reduceLT, Nat.reduceLeDiff, Int.reduceToNat, Int.reduceLE, Int.reduceLT, Int.reduceEq, Int.reduceNeg, reduceCtorEq] <;> (try simp [catF])); all_goals first | exact nestF_bd _ _ _ _ _ _ _ _ _ | exact ⟨nestF_bd _ _ _ _ _ _ _ _ _, nestF_bd _ _ _ _ _ _ _ _ _⟩) ?_
  rintro ⟨i, hi, h3⟩
  simp only [nestF_eq, nestR_lit, nsM_lit, nsV_lit, Try.f11, go_sem, ↓reduceIte, Nat.reduceAdd, Nat.reduceSub, Nat.reduceMul, Nat.reduceEqDiff, Nat.reduceLT, Nat.reduceLeDiff, Int.reduceToNat, Int.reduceLE, Int.reduceLT, Int.reduceEq, Int.reduceNeg, reduceCtorEq]
  have hw3 : IntKind.i64.wrap ((i : Int) + 1) = ((i + 1 : Nat) : Int) := by rw [wrap_id (by omega) (by omega)]; omega
  refine ⟨fun e1 => ?_, fun e1 => ?_⟩
  · simp only [decide_eq_true_eq] at e1
    refine ⟨⟨by omega, by omega⟩, fun e2 => w0 ?_, fun e2 => ⟨⟨i + 1, by omega, below h3 ?_⟩, by simp only []; omega, ?_⟩⟩
    all_goals simp only [decide_eq_true_eq, decide_eq_false_iff_not] at e2
    · have := allU_false (p := fun i => decide ((M i : Int) ≤ 6)) (n := n) (i := i) (by omega) (decide_eq_false (by omega))
      simp only [gr0, this, Bool.not_false, Bool.or_true]
    · exact decide_eq_true (by omega)
    · apply sub_of <;> simp only [hw3, go_sem, ↓reduceIte, Nat.reduceAdd, Nat.reduceSub, Nat.reduceMul, Nat.reduceEqDiff, Nat.reduceLT, Nat.reduceLeDiff, Int.reduceToNat, Int.reduceLE, Int.reduceLT, Int.reduceEq, Int.reduceNeg, reduceCtorEq] <;> (try simp)
      all_goals first | exact nestF_bd _ _ _ _ _ _ _ _ _ | exact ⟨nestF_bd _ _ _ _ _ _ _ _ _, nestF_bd _ _ _ _ _ _ _ _ _⟩
  simp only [decide_eq_false_iff_not] at e1
  obtain rfl : i = n := by omega
  have hg : gr0 i M h q = false := by simp only [gr0, allU_true h3, decide_eq_false c1, decide_eq_false c2, decide_eq_false c3]; rfl
  clear w0
  rw [hg]
  rw [Bool.false_or]
  have hrow : ∀ (a b : Nat), a < m → b < 1 → Bd 1 0 (nestF 0 1 B K W a b) := nestF_bd _ _ _ _ _ _ _ _ _
  refine loop_ofH { k : Nat // k = 0 ∨ (k = 1 ∧ gr1 m K = false) } (fun k => [(41, .int .i64 (k.1 : Int)), (40, .int .i64 ((1 : Nat) : Int)), (39, .row 1 1 (oneF [.row m 1 (nestF 0 1 B K W)]))]) (fun h _ => h) (fun k => 1 - k.1) (fun _ => ⟨rfl, rfl⟩) ⟨0, .inl rfl⟩ (by (apply sub_of <;> simp only [go_sem, ↓reduceIte, Nat.reduceAdd, Nat.reduceSub, Nat.reduceMul, Nat.reduceEqDiff, Nat.reduceLT, Nat.reduceLeDiff, Int.reduceToNat, Int.reduceLE, Int.reduceLT, Int.reduceEq, Int.reduceNeg, reduceCtorEq] <;> (try simp [catF])); all_goals (repeat' first | assumption | exact nestF_bd _ _ _ _ _ _ _ _ _ | exact nestF_bd1 _ _ _ _ _ _ _ _ _ | exact fun _ _ => nestF_bd1 _ _ _ _ _ _ _ _ _ | exact fun _ _ _ _ => nestF_bd1 _ _ _ _ _ _ _ _ _ | exact fun x hx => catF_one _ hx | refine And.intro ?_ ?_)) ?_
  rintro ⟨k, rfl | ⟨rfl, hk⟩⟩
  · simp only [nestF_eq, nestR_lit, nsM_lit, nsV_lit, Try.f11, go_sem, ↓reduceIte, Nat.reduceAdd, Nat.reduceSub, Nat.reduceMul, Nat.reduceEqDiff, Nat.reduceLT, Nat.reduceLeDiff, Int.reduceToNat, Int.reduceLE, Int.reduceLT, Int.reduceEq, Int.reduceNeg, reduceCtorEq]
    refine ⟨fun _ => ⟨⟨by omega, by omega⟩, fun c4 => ?_, fun c4 => ?_⟩, fun e => absurd e (by simp)⟩
    · rw [show gr1 m K = true by simp only [gr1, c4, Bool.true_or]]
    refine loop_ofH { a : Nat // a ≤ m ∧ ∀ j, j < a → (fun i => decide ((K i : Int) ≤ 8)) j = true } (fun a => [(50, .int .i64 (a.1 : Int)), (49, .int .i64 (m : Int)), (48, .row m 1 (nestF 0 1 B K W)), (41, .int .i64 ((0 : Nat) : Int)), (40, .int .i64 ((1 : Nat) : Int)), (39, .row 1 1 (oneF [.row m 1 (nestF 0 1 B K W)]))]) (fun h _ => h) (fun a => m - a.1) (fun _ => ⟨rfl, rfl⟩) ⟨0, by omega, by omega⟩ (by (apply sub_of <;> simp only [go_sem, ↓reduceIte, Nat.reduceAdd, Nat.reduceSub, Nat.reduceMul, Nat.reduceEqDiff, Nat.reduceLT, Nat.reduceLeDiff, Int.reduceToNat, Int.reduceLE, Int.reduceLT, Int.reduceEq, Int.reduceNeg, reduceCtorEq] <;> (try simp [catF])); all_goals (repeat' first | assumption | exact nestF_bd _ _ _ _ _ _ _ _ _ | exact nestF_bd1 _ _ _ _ _ _ _ _ _ | exact fun _ _ => nestF_bd1 _ _ _ _ _ _ _ _ _ | exact fun _ _ _ _ => nestF_bd1 _ _ _ _ _ _ _ _ _ | exact fun x hx => catF_one _ hx | refine And.intro ?_ ?_)) ?_
    rintro ⟨a, ha, h4⟩
    simp only [nestF_eq, nestR_lit, nsM_lit, nsV_lit, Try.f11, go_sem, ↓reduceIte, Nat.reduceAdd, Nat.reduceSub, Nat.reduceMul, Nat.reduceEqDiff, Nat.reduceLT, Nat.reduceLeDiff, Int.reduceToNat, Int.reduceLE, Int.reduceLT, Int.reduceEq, Int.reduceNeg, reduceCtorEq]
    have hw4 : IntKind.i64.wrap ((a : Int) + 1) = ((a + 1 : Nat) : Int) := by simp only [decide_eq_false_iff_not] at c4; rw [wrap_id (by omega) (by omega)]; omega
    refine ⟨fun e2 => ?_, fun e2 => ?_⟩
    all_goals simp only [decide_eq_true_eq, decide_eq_false_iff_not] at e2
    · refine ⟨⟨by omega, by omega⟩, fun e3 => ?_, fun e3 => ⟨⟨a + 1, by omega, below h4 ?_⟩, by simp only []; omega, ?_⟩⟩
      all_goals simp only [decide_eq_true_eq, decide_eq_false_iff_not] at e3
      · have := allU_false (p := fun i => decide ((K i : Int) ≤ 8)) (n := m) (i := a) (by omega) (decide_eq_false (by omega))
        simp only [gr1, this, Bool.not_false, Bool.or_true]
      · exact decide_eq_true (by omega)
      · apply sub_of <;> simp only [hw4, go_sem, ↓reduceIte, Nat.reduceAdd, Nat.reduceSub, Nat.reduceMul, Nat.reduceEqDiff, Nat.reduceLT, Nat.reduceLeDiff, Int.reduceToNat, Int.reduceLE, Int.reduceLT, Int.reduceEq, Int.reduceNeg, reduceCtorEq] <;> (try simp)
        all_goals (repeat' first | assumption | exact nestF_bd _ _ _ _ _ _ _ _ _ | exact nestF_bd1 _ _ _ _ _ _ _ _ _ | exact fun _ _ => nestF_bd1 _ _ _ _ _ _ _ _ _ | exact fun _ _ _ _ => nestF_bd1 _ _ _ _ _ _ _ _ _ | exact fun x hx => catF_one _ hx | refine And.intro ?_ ?_)
    · obtain rfl : a = m := by omega
      have hk : gr1 a K = false := by simp only [gr1, allU_true h4, c4]; rfl
      refine ⟨⟨1, .inr ⟨rfl, hk⟩⟩, by simp, ?_⟩
      apply sub_of <;> simp only [go_sem, ↓reduceIte, Nat.reduceAdd, Nat.reduceSub, Nat.reduceMul, Nat.reduceEqDiff, Nat.reduceLT, Nat.reduceLeDiff, Int.reduceToNat, Int.reduceLE, Int.reduceLT, Int.reduceEq, Int.reduceNeg, reduceCtorEq] <;> (try simp)
      · exact wrap_id (by omega) (by omega)
      all_goals (repeat' first | assumption | exact nestF_bd _ _ _ _ _ _ _ _ _ | exact nestF_bd1 _ _ _ _ _ _ _ _ _ | exact fun _ _ => nestF_bd1 _ _ _ _ _ _ _ _ _ | exact fun _ _ _ _ => nestF_bd1 _ _ _ _ _ _ _ _ _ | exact fun x hx => catF_one _ hx | refine And.intro ?_ ?_)
  · simp only [nestF_eq, nestR_lit, nsM_lit, nsV_lit, Try.f11, go_sem, ↓reduceIte, Nat.reduceAdd, Nat.reduceSub, Nat.reduceMul, Nat.reduceEqDiff, Nat.reduceLT, Nat.reduceLeDiff, Int.reduceToNat, Int.reduceLE, Int.reduceLT, Int.reduceEq, Int.reduceNeg, reduceCtorEq]
    exact ⟨fun e => absurd e (by simp), fun _ => by rw [hk]⟩
def greatBase : BaseF := orB great1Base great0Base
theorem great_base : Base Try.prog 11 greatBase := orB_base great1_base great0_base
end Go.Eng
end

/- press: how many plans there are. -/
section
namespace Go.Eng
open Go Go.RowKit Go.Proofs
set_option maxRecDepth 100000
set_option maxHeartbeats 4000000
attribute [local irreducible] OwnT DefS
def eaI (M : Nat → Nat) : Nat → Int
  | 0 => 1
  | i + 1 => eaI M i * (1 + M i)
def slN (each most : Int) : Nat → Int
  | 0 => 1
  | k + 1 => min (slN each most k * each) (most + 1)
theorem eaI_bd {M : Nat → Nat} : ∀ i, i ≤ 6 → (∀ j, j < i → M j ≤ 6) → 1 ≤ eaI M i ∧ eaI M i ≤ 7 ^ i
  | 0, _, _ => by simp [eaI]
  | i + 1, h, hM => by
    obtain ⟨h1, h2⟩ := eaI_bd i (by omega) (fun j hj => hM j (by omega))
    have hm := hM i (by omega)
    have hM2 : (1 : Int) + M i ≤ 7 := by omega
    simp only [eaI, Int.pow_succ]
    refine ⟨?_, Int.mul_le_mul h2 hM2 (by omega) (by omega)⟩
    have := Int.mul_le_mul h1 (show (1 : Int) ≤ 1 + M i by omega) (by omega) (by omega)
    omega
theorem slN_bd {each most : Int} (h1 : 1 ≤ each) (h2 : 0 ≤ most) : ∀ k, 0 ≤ slN each most k ∧ slN each most k ≤ most + 1
  | 0 => by simp [slN]; omega
  | k + 1 => by
    obtain ⟨h3, h4⟩ := slN_bd h1 h2 k
    have := Int.mul_nonneg h3 (show 0 ≤ each by omega)
    simp only [slN]
    omega
def slowB (n : Nat) (M : Nat → Nat) (h : Nat) (most : Int) : Bool := decide (most < slN (eaI M n) most h)
def slowBase : BaseF := fun args => match args with
  | [.agg [.row n sz_A f_A, .row h sz_nd f_nd, .row q sz_pr f_pr, .int .i64 st, .int .i64 ro, .int .i64 pk, .int .i64 fr], .int .i64 most] => some ((sz_A = 5 ∧ NestR n 5 0 2 f_A) ∧ (sz_nd = 1 ∧ IntR h 1 f_nd) ∧ (sz_pr = 1 ∧ IntR q 1 f_pr) ∧ (n ≤ 6 ∧ (∀ i, i < n → (nsM 0 f_A) i ≤ 6) ∧ h ≤ 1000000 ∧ 0 ≤ most ∧ most ≤ 1000000), .bool (slowB n (nsM 0 f_A) h most))
  | _ => none
theorem slow_eq (n : Nat) (sz_A : Nat) (f_A : Nat → Nat → SV) (h : Nat) (sz_nd : Nat) (f_nd : Nat → Nat → SV) (q : Nat) (sz_pr : Nat) (f_pr : Nat → Nat → SV) (st : Int) (ro : Int) (pk : Int) (fr : Int) (most : Int) : slowBase [.agg [.row n sz_A f_A, .row h sz_nd f_nd, .row q sz_pr f_pr, .int .i64 st, .int .i64 ro, .int .i64 pk, .int .i64 fr], .int .i64 most] = some ((sz_A = 5 ∧ NestR n 5 0 2 f_A) ∧ (sz_nd = 1 ∧ IntR h 1 f_nd) ∧ (sz_pr = 1 ∧ IntR q 1 f_pr) ∧ (n ≤ 6 ∧ (∀ i, i < n → (nsM 0 f_A) i ≤ 6) ∧ h ≤ 1000000 ∧ 0 ≤ most ∧ most ≤ 1000000), .bool (slowB n (nsM 0 f_A) h most)) := rfl
theorem slow_base : Base Try.prog 12 slowBase := by
  intro args p v hq hp
  unfold slowBase at hq
  split at hq
  rotate_left
  · cases hq
  rename_i n sz_A f_A h sz_nd f_nd q sz_pr f_pr st ro pk fr most
  cases hq
  obtain ⟨⟨rfl, i_A⟩, ⟨rfl, i_nd⟩, ⟨rfl, i_pr⟩, pre⟩ := hp
  refine base_of (C := cx [] [] [] [] none) (cx_ok trivial trivial) rfl (g := 12) (fn := Try.f12)
    (args' := [.agg [.row n 5 (nestF 0 2 (nsA f_A) (nsM 0 f_A) (nsV 0 f_A)), .row h 1 (rowF .i64 (ivf f_nd)), .row q 1 (rowF .i64 (ivf f_pr)), .int .i64 st, .int .i64 ro, .int .i64 pk, .int .i64 fr], .int .i64 most]) (fn_12) rfl 1000 (by
    simp only [BdL, Bd, and_self, and_true, true_and]
    exact ⟨(fun i j hi hj => nest_bd i_A i j hi hj), (fun i j hi hj => by rw [i_nd i j hi hj]; trivial), (fun i j hi hj => by rw [i_pr i j hi hj]; trivial)⟩) ⟨SameD.agg ⟨SameD.nest i_A, SameD.int i_nd, SameD.int i_pr, SameD.rfl' _, SameD.rfl' _, SameD.rfl' _, SameD.rfl' _, trivial⟩, SameD.rfl' _, trivial⟩ ?_
  generalize nsA f_A = A at *
  generalize nsM 0 f_A = M at *
  generalize nsV 0 f_A = V at *
  generalize ivf f_nd = nd at *
  generalize ivf f_pr = pr at *
  simp only [rowF_eq]
  simp only [nestF_eq, nestR_lit, nsM_lit, nsV_lit, Try.f12, go_sem, ↓reduceIte, Nat.reduceAdd, Nat.reduceSub, Nat.reduceMul, Nat.reduceEqDiff, Nat.reduceLT, Nat.reduceLeDiff, Int.reduceToNat, Int.reduceLE, Int.reduceLT, Int.reduceEq, Int.reduceNeg, reduceCtorEq]
  obtain ⟨hn, hM, hh, hm0, hm⟩ := pre
  have e6 : ∀ i, i ≤ n → 1 ≤ eaI M i ∧ eaI M i ≤ 117649 := fun i hi => by
    obtain ⟨h1, h2⟩ := eaI_bd (M := M) i (by omega) (fun j hj => hM j (by omega))
    refine ⟨h1, Int.le_trans h2 ?_⟩
    rcases (by omega : i = 0 ∨ i = 1 ∨ i = 2 ∨ i = 3 ∨ i = 4 ∨ i = 5 ∨ i = 6) with rfl | rfl | rfl | rfl | rfl | rfl | rfl <;> decide
  refine loop_ofH { i : Nat // i ≤ n } (fun i => [(12, .int .i64 (i.1 : Int)), (11, .int .i64 (n : Int)), (10, .row n 5 (nestF 0 2 A M V)), (5, .int .i64 (eaI M i.1)), (2, .ptr 0 0), (1, .int .i64 most)])
    (fun h _ => h) (fun i => n - i.1) (fun _ => ⟨rfl, rfl⟩) ⟨0, by omega⟩ (by (apply sub_of <;> simp only [go_sem, ↓reduceIte, Nat.reduceAdd, Nat.reduceSub, Nat.reduceMul, Nat.reduceEqDiff, Nat.reduceLT, Nat.reduceLeDiff, Int.reduceToNat, Int.reduceLE, Int.reduceLT, Int.reduceEq, Int.reduceNeg, reduceCtorEq] <;> (try simp [catF])); all_goals first | rfl | exact nestF_bd _ _ _ _ _ _ _ _ _ | exact ⟨nestF_bd _ _ _ _ _ _ _ _ _, nestF_bd _ _ _ _ _ _ _ _ _⟩) ?_
  rintro ⟨i, hi⟩
  simp only [nestF_eq, nestR_lit, nsM_lit, nsV_lit, Try.f12, go_sem, ↓reduceIte, Nat.reduceAdd, Nat.reduceSub, Nat.reduceMul, Nat.reduceEqDiff, Nat.reduceLT, Nat.reduceLeDiff, Int.reduceToNat, Int.reduceLE, Int.reduceLT, Int.reduceEq, Int.reduceNeg, reduceCtorEq]
  have hw3 : IntKind.i64.wrap ((i : Int) + 1) = ((i + 1 : Nat) : Int) := by rw [wrap_id (by omega) (by omega)]; omega
  refine ⟨fun e1 => ?_, fun e1 => ?_⟩
  all_goals simp only [decide_eq_true_eq, decide_eq_false_iff_not] at e1
  · have hMi := hM i (by omega)
    have h1 := e6 i (by omega)
    have h2 := e6 (i + 1) (by omega)
    simp only [eaI] at h2
    have w1 : IntKind.i64.wrap (1 + (M i : Int)) = 1 + (M i : Int) := wrap_id (by omega) (by omega)
    have w2 : IntKind.i64.wrap (eaI M i * (1 + (M i : Int))) = eaI M (i + 1) := by rw [wrap_id (by omega) (by omega)]; rfl
    refine ⟨⟨by omega, by omega⟩, ⟨i + 1, by omega⟩, by simp only []; omega, ?_⟩
    apply sub_of <;> simp only [hw3, w1, w2, go_sem, ↓reduceIte, Nat.reduceAdd, Nat.reduceSub, Nat.reduceMul, Nat.reduceEqDiff, Nat.reduceLT, Nat.reduceLeDiff, Int.reduceToNat, Int.reduceLE, Int.reduceLT, Int.reduceEq, Int.reduceNeg, reduceCtorEq] <;> (try simp)
    all_goals (repeat' first | assumption | exact nestF_bd _ _ _ _ _ _ _ _ _ | exact nestF_bd1 _ _ _ _ _ _ _ _ _ | exact fun _ _ => nestF_bd1 _ _ _ _ _ _ _ _ _ | exact fun _ _ _ _ => nestF_bd1 _ _ _ _ _ _ _ _ _ | exact fun x hx => catF_one _ hx | refine And.intro ?_ ?_)
  obtain rfl : i = n := by omega
  have hea := e6 i (Nat.le_refl _)
  refine loop_ofH { k : Nat // k ≤ h } (fun k => [(26, .int .i64 (k.1 : Int)), (25, .int .i64 (h : Int)), (8, .int .i64 (slN (eaI M i) most k.1)), (5, .int .i64 (eaI M i)), (1, .int .i64 most)])
    (fun h _ => h) (fun k => h - k.1) (fun _ => ⟨rfl, rfl⟩) ⟨0, by omega⟩ (by (apply sub_of <;> simp only [go_sem, ↓reduceIte, Nat.reduceAdd, Nat.reduceSub, Nat.reduceMul, Nat.reduceEqDiff, Nat.reduceLT, Nat.reduceLeDiff, Int.reduceToNat, Int.reduceLE, Int.reduceLT, Int.reduceEq, Int.reduceNeg, reduceCtorEq] <;> (try simp [catF])); all_goals first | rfl | exact nestF_bd _ _ _ _ _ _ _ _ _) ?_
  rintro ⟨k, hk⟩
  simp only [nestF_eq, nestR_lit, nsM_lit, nsV_lit, Try.f12, go_sem, ↓reduceIte, Nat.reduceAdd, Nat.reduceSub, Nat.reduceMul, Nat.reduceEqDiff, Nat.reduceLT, Nat.reduceLeDiff, Int.reduceToNat, Int.reduceLE, Int.reduceLT, Int.reduceEq, Int.reduceNeg, reduceCtorEq]
  have hw4 : IntKind.i64.wrap ((k : Int) + 1) = ((k + 1 : Nat) : Int) := by rw [wrap_id (by omega) (by omega)]; omega
  refine ⟨fun e2 => ?_, fun e2 => ?_⟩
  all_goals simp only [decide_eq_true_eq, decide_eq_false_iff_not] at e2
  · have hs := slN_bd hea.1 hm0 k
    have q1 := mulB (x := slN (eaI M i) most k) (y := eaI M i) (m := 1000001) (k := 117649) (by omega) (by omega)
    have w1 : IntKind.i64.wrap (slN (eaI M i) most k * eaI M i) = slN (eaI M i) most k * eaI M i := wrap_id (by omega) (by omega)
    have w2 : IntKind.i64.wrap (most + 1) = most + 1 := wrap_id (by omega) (by omega)
    refine ⟨⟨k + 1, by omega⟩, by simp only []; omega, ?_⟩
    apply sub_of <;> simp only [hw4, w1, w2, slN, go_sem, ↓reduceIte, Nat.reduceAdd, Nat.reduceSub, Nat.reduceMul, Nat.reduceEqDiff, Nat.reduceLT, Nat.reduceLeDiff, Int.reduceToNat, Int.reduceLE, Int.reduceLT, Int.reduceEq, Int.reduceNeg, reduceCtorEq] <;> (try simp)
    all_goals (repeat' first | assumption | exact nestF_bd _ _ _ _ _ _ _ _ _ | exact nestF_bd1 _ _ _ _ _ _ _ _ _ | exact fun _ _ => nestF_bd1 _ _ _ _ _ _ _ _ _ | exact fun _ _ _ _ => nestF_bd1 _ _ _ _ _ _ _ _ _ | exact fun x hx => catF_one _ hx | refine And.intro ?_ ?_)
  · obtain rfl : k = h := by omega
    rfl
end Go.Eng
end

/- press: the reference's hours. -/
section
namespace Go.Eng
open Go Go.RowKit Go.Proofs
set_option maxRecDepth 100000
set_option maxHeartbeats 4000000
attribute [local irreducible] OwnT DefS
theorem catF_one (F : Nat → SV) {i x : Nat} (hx : x < i + 1) : catF i (fun a _ => F a) (oneF [F i]) x 0 = F x := by
  rcases Nat.lt_or_ge x i with h | h
  · simp only [catF, if_pos h]
  · obtain rfl : x = i := by omega
    simp only [catF, if_neg (Nat.lt_irrefl _), oneF, nth]
/-- The reference's state: the runs, what is stored, what was paid, the greatest power. -/
structure RS where
  (on : Nat → Int) (sto en st pw : Int)
end Go.Eng
end

/- press: the reference tries all plans. -/
section
namespace Go.Eng
open Go Go.RowKit Go.Proofs
set_option maxRecDepth 100000
set_option maxHeartbeats 4000000
attribute [local irreducible] OwnT DefS
/-- The best that was found so far. -/
structure BS where
  (ok : Bool) (n : Nat) (c : Nat → T3) (co : Int)
end Go.Eng
end

/- press: the cheapest plan is the document's. -/
section
namespace Go.Eng
open Go Go.RowKit Go.Proofs
set_option maxRecDepth 100000
set_option maxHeartbeats 4000000
attribute [local irreducible] OwnT DefS
theorem gr0_false {n : Nat} {M : Nat → Nat} {h q : Nat} (e : gr0 n M h q = false) : n ≤ 6 ∧ (∀ i, i < n → M i ≤ 6) ∧ h ≤ 20 ∧ q ≤ 20 := by
  simp only [gr0, Bool.or_eq_false_iff, Bool.not_eq_false', decide_eq_false_iff_not, allU_iff, decide_eq_true_eq] at e
  obtain ⟨e1, e2, e3, e4⟩ := e
  exact ⟨by omega, fun i hi => by have := e4 i hi; omega, by omega, by omega⟩
theorem eqB_refl (n : Nat) (M : Nat → Nat) (V : Nat → Nat → Nat → Int) : eqB n M V n M V = true := by
  simp only [eqB, decide_true, Bool.true_and, allU_iff, implies_true]
theorem chN_le (b : Bool) (D : PD) : chN b D ≤ D.h := by unfold chN; split <;> omega
end Go.Eng
end

/- Families of own slices: the names behind the others, one for each number. -/
section
namespace Go.Eng
set_option linter.unusedVariables false
/-- So many slices behind others, the i-th one being f i. -/
def tabV (f : Nat → Vc) : Nat → List Vc
  | 0 => []
  | n + 1 => tabV f n ++ [f n]
theorem lenV_len : ∀ l : List Vc, lenV l = l.length
  | [] => rfl
  | _ :: l => by simp [lenV, lenV_len l]
theorem tabV_len (f : Nat → Vc) : ∀ n, (tabV f n).length = n
  | 0 => rfl
  | n + 1 => by simp [tabV, tabV_len f n]
theorem getV_eq : ∀ (l : List Vc) (n : Nat), getV l n = l.getD n .dead
  | [], n => by simp [getV]
  | x :: l, 0 => by simp [getV]
  | x :: l, n + 1 => by simp [getV, getV_eq l n]
theorem setV_eq : ∀ (l : List Vc) (n : Nat) (x : Vc), setV l n x = l.set n x
  | [], n, x => by simp [setV]
  | y :: l, 0, x => by simp [setV]
  | y :: l, n + 1, x => by simp [setV, setV_eq l n x]
theorem snocV_eq : ∀ (l : List Vc) (x : Vc), snocV l x = l ++ [x]
  | [], x => rfl
  | y :: l, x => by simp [snocV, snocV_eq l x]
theorem tabV_get (f : Nat → Vc) : ∀ (n i : Nat), i < n → (tabV f n)[i]? = some (f i)
  | 0, i, h => absurd h (by omega)
  | n + 1, i, h => by
    simp only [tabV]
    rcases Nat.lt_or_ge i n with g | g
    · rw [List.getElem?_append_left (by rw [tabV_len]; exact g), tabV_get f n i g]
    · obtain rfl : i = n := by omega
      rw [List.getElem?_append_right (by rw [tabV_len]; exact Nat.le_refl _), tabV_len]
      simp
theorem tabV_congr {f g : Nat → Vc} : ∀ (n : Nat), (∀ i, i < n → f i = g i) → tabV f n = tabV g n
  | 0, _ => rfl
  | n + 1, h => by simp only [tabV, tabV_congr n (fun i hi => h i (by omega)), h n (by omega)]
/-- One of them is another one. -/
theorem setV_fam (l : List Vc) (f : Nat → Vc) (n i : Nat) (x : Vc) (h : i < n) : setV (l ++ tabV f n) (lenV l + i) x = l ++ tabV (fun j => if j = i then x else f j) n := by
  rw [setV_eq, lenV_len, List.set_append_right _ _ (by omega), show l.length + i - l.length = i by omega]
  congr 1
  apply List.ext_getElem?
  intro j
  rcases Nat.lt_or_ge j n with g | g
  · rw [tabV_get _ n j g, List.getElem?_set]
    by_cases e : i = j
    · subst e
      rw [if_pos rfl, if_pos (by rw [tabV_len]; exact g), if_pos rfl]
    · rw [if_neg e, tabV_get f n j g, if_neg (fun q => e q.symm)]
  · rw [List.getElem?_eq_none (by rw [List.length_set, tabV_len]; exact g), List.getElem?_eq_none (by rw [tabV_len]; exact g)]
theorem subV_app : ∀ {l l' k k' : List Vc}, l.length = l'.length → subV l l' → subV k k' → subV (l ++ k) (l' ++ k')
  | [], [], k, k', _, _, h => h
  | x :: l, y :: l', k, k', hl, h1, h2 => ⟨h1.1, subV_app (by simpa using hl) h1.2 h2⟩
  | [], _ :: _, _, _, hl, _, _ => by simp at hl
  | _ :: _, [], _, _, hl, _, _ => by simp at hl
theorem subV_tab {f g : Nat → Vc} : ∀ (n : Nat), (∀ i, i < n → subVk (f i) (g i)) → subV (tabV f n) (tabV g n)
  | 0, _ => trivial
  | n + 1, h => subV_app (by rw [tabV_len, tabV_len]) (subV_tab n (fun i hi => h i (by omega))) ⟨h n (by omega), trivial⟩
theorem bdV_app {L M : Nat} : ∀ {l k : List Vc}, bdV L M l → bdV L M k → bdV L M (l ++ k)
  | [], k, _, h => h
  | .live _ _ _ _ _ :: l, k, h1, h2 => ⟨h1.1, bdV_app (l := l) h1.2 h2⟩
  | .dead :: l, k, h1, h2 => bdV_app (l := l) h1 h2
theorem bdV_tab {L M : Nat} {f : Nat → Vc} : ∀ (n : Nat), (∀ i, i < n → bdV L M [f i]) → bdV L M (tabV f n)
  | 0, _ => trivial
  | n + 1, h => bdV_app (bdV_tab n (fun i hi => h i (by omega))) (h n (by omega))
end Go.Eng
end

/- Families of own slices: some names, then one for each number, then others. Calls framed by names that are shifted. -/
section
namespace Go.Eng
open Go.RowKit
set_option linter.unusedVariables false
/- ### shifted names -/
/-- Of what a call leaves, some is forgotten; whatever it ends with. -/
theorem calls_trim2 {P : Program} {g : Nat} {args : List SV} {h : HS} {K K' : Out → HS → Prop} (hc : CallsS P g args h K)
    (ht : ∀ o h', K o h' → ∃ x y o' h'', ((o = .ret x ∧ o' = .ret y) ∨ (o = .pan x ∧ o' = .pan y)) ∧ K' o' h'' ∧ SubS [x] h' ([y], h'') ∧ (lenB h.blks ≤ lenB h''.blks ∧ lenB h''.blks ≤ lenB h'.blks) ∧ (lenV h.vecs ≤ lenV h''.vecs ∧ lenV h''.vecs ≤ lenV h'.vecs)) : CallsS P g args h K' := by
  intro E w vals hr hd
  refine (hc E w vals hr hd).mono ?_
  rintro e w' ⟨o, h', E', hk, hr', hx, hout⟩
  obtain ⟨x, y, o', h'', ho, hk', hsub, ⟨hB, hB2⟩, ⟨hV, hV2⟩⟩ := ht o h' hk
  have key : ∀ val : Value, Den E' w' x val → ∃ E2, RelH E2 h'' w' ∧ Ext E w E2 w' ∧ Den E2 w' y val := fun val hout => by
    have hd1 : DenA E' w' [x] #[val] := ⟨rfl, fun i z u hz hu => by
      cases i with
      | zero => simp at hz hu; subst hz hu; exact hout
      | succ i => simp at hz⟩
    obtain ⟨g1, g2⟩ := hsub.go hd1 hr' (lenB h''.blks) (lenV h''.vecs) rfl rfl (by rw [hr'.nb]; exact hB2) (by rw [hr'.nv]; exact hV2)
    exact ⟨_, g2, ⟨hx.os, hx.tape, hx.output, hx.size, by simp only []; rw [hr.nb]; exact hB, by simp only []; rw [hr.nv]; exact hV, hx.rho, hx.val, hx.keep, hx.oth⟩, g1.2 0 y val rfl rfl⟩
  rcases ho with ⟨rfl, rfl⟩ | ⟨rfl, rfl⟩
  · cases e with
    | returned val =>
      obtain ⟨E2, r1, r2, r3⟩ := key val hout
      exact ⟨_, _, E2, hk', r1, r2, r3⟩
    | panicked _ => exact hout.elim
    | outgrown => exact hout.elim
  · cases e with
    | panicked chain =>
      obtain ⟨val, h1, h2⟩ := hout
      obtain ⟨E2, r1, r2, r3⟩ := key val h2
      exact ⟨_, _, E2, hk', r1, r2, val, h1, r3⟩
    | returned _ => exact hout.elim
    | outgrown => exact hout.elim
/- ### families -/
def fam (pre : List Vc) (N : Nat) (f : Nat → Vc) (post : List Vc) : List Vc := pre ++ (tabV f N ++ post)
/-- The name of the i-th of a family, and of the k-th behind it. -/
def fI (b i : Nat) : Nat := b + i
def fP (b N k : Nat) : Nat := b + N + k
def updV (f : Nat → Vc) (i : Nat) (x : Vc) : Nat → Vc := fun j => if j = i then x else f j
theorem updV_same (f : Nat → Vc) (i : Nat) (x : Vc) : updV f i x i = x := by simp [updV]
theorem updV_upd (f : Nat → Vc) (i : Nat) (x y : Vc) : updV (updV f i x) i y = updV f i y := by funext j; simp only [updV]; split <;> rfl
theorem updV_ne {f : Nat → Vc} {i j : Nat} {x : Vc} (h : j ≠ i) : updV f i x j = f j := by simp [updV, h]
variable {pre : List Vc} {N : Nat} {f : Nat → Vc} {post : List Vc}
theorem fam_lenV : lenV (fam pre N f post) = fP (lenV pre) N (lenV post) := by
  simp [fam, lenV_len, tabV_len, fP]; omega
theorem getV_fI {b i : Nat} (hb : lenV pre = b) (hi : i < N) : getV (fam pre N f post) (fI b i) = f i := by
  subst hb
  rw [getV_eq, lenV_len, fam, fI, List.getD_eq_getElem?_getD, List.getElem?_append_right (by omega), Nat.add_sub_cancel_left, List.getElem?_append_left (by rw [tabV_len]; exact hi), tabV_get f N i hi]
  rfl
theorem getV_fP {b k : Nat} (hb : lenV pre = b) : getV (fam pre N f post) (fP b N k) = getV post k := by
  subst hb
  rw [getV_eq, getV_eq, lenV_len, fam, fP, List.getD_eq_getElem?_getD, List.getD_eq_getElem?_getD, List.getElem?_append_right (by omega), List.getElem?_append_right (by rw [tabV_len]; omega), tabV_len]
  congr 2; omega
theorem getV_fL {n : Nat} (h : n < lenV pre) : getV (fam pre N f post) n = getV pre n := by
  rw [lenV_len] at h
  rw [getV_eq, getV_eq, fam, List.getD_eq_getElem?_getD, List.getD_eq_getElem?_getD, List.getElem?_append_left h]
theorem setV_fI {b i : Nat} {x : Vc} (hb : lenV pre = b) (hi : i < N) : setV (fam pre N f post) (fI b i) x = fam pre N (updV f i x) post := by
  have := setV_fam pre f N i x hi
  rw [hb] at this
  rw [setV_eq] at this ⊢
  rw [fam, ← List.append_assoc, List.set_append_left _ _ (by simp [tabV_len, fI, ← hb, lenV_len]; omega)]
  rw [show fI b i = b + i from rfl, this]
  simp only [fam, List.append_assoc]
  rfl
theorem setV_fP {b k : Nat} {x : Vc} (hb : lenV pre = b) : setV (fam pre N f post) (fP b N k) x = fam pre N f (setV post k x) := by
  subst hb
  rw [setV_eq, setV_eq, lenV_len, fam, fP, List.set_append_right _ _ (by omega), List.set_append_right _ _ (by rw [tabV_len]; omega), tabV_len, fam]
  congr 3; omega
theorem setV_fL {n : Nat} {x : Vc} (h : n < lenV pre) : setV (fam pre N f post) n x = fam (setV pre n x) N f post := by
  rw [lenV_len] at h
  rw [setV_eq, setV_eq, fam, List.set_append_left _ _ h, fam]
theorem snocV_fam' {x : Vc} : snocV (fam pre N f post) x = fam pre N f (snocV post x) := by
  rw [snocV_eq, snocV_eq, fam, fam]; simp
theorem fam_growV {x : Vc} {V : List Vc} : fam pre N f (x :: V) = fam pre (N + 1) (updV f N x) V := by
  simp only [fam, tabV]
  rw [tabV_congr (f := updV f N x) (g := f) N (fun i hi => updV_ne (by omega)), updV_same]
  simp
theorem fam_zero : fam pre 0 f post = pre ++ post := by simp [fam, tabV]
theorem subV_famI {pre' post' : List Vc} {g : Nat → Vc} (hl : lenV pre = lenV pre') (h1 : subV pre pre') (h2 : ∀ i, i < N → subVk (f i) (g i)) (h3 : subV post post') : subV (fam pre N f post) (fam pre' N g post') := by
  rw [lenV_len, lenV_len] at hl
  exact subV_app hl h1 (subV_app (by rw [tabV_len, tabV_len]) (subV_tab N h2) h3)
theorem bdV_famI {L M : Nat} (h1 : bdV L M pre) (h2 : ∀ i, i < N → bdV L M [f i]) (h3 : bdV L M post) : bdV L M (fam pre N f post) := bdV_app h1 (bdV_app (bdV_tab N h2) h3)
theorem fam_map (F : Vc → Vc) : (fam pre N f post).map F = fam (pre.map F) N (fun i => F (f i)) (post.map F) := by
  have : ∀ n, (tabV f n).map F = tabV (fun i => F (f i)) n := fun n => by
    induction n with
    | zero => rfl
    | succ n ih => simp [tabV, ih]
  simp [fam, this]
end Go.Eng
end

/- A call that is handed nothing of the caller's own: what it leaves behind is the caller's own, by names behind the others. -/
section
namespace Go.Eng
open Go.RowKit
set_option linter.unusedVariables false
def appB (b v : Nat → Nat) : List Blk → List Blk → List Blk
  | [], [] => []
  | [], x :: k => renK b v x :: appB b v [] k
  | x :: l, k => x :: appB b v l k
def appV (b v : Nat → Nat) : List Vc → List Vc → List Vc
  | [], [] => []
  | [], x :: k => renC b v x :: appV b v [] k
  | x :: l, k => x :: appV b v l k
theorem lenB_app (b v : Nat → Nat) : ∀ (l k : List Blk), lenB (appB b v l k) = lenB l + lenB k
  | [], [] => by simp [appB, lenB]
  | [], x :: k => by simp only [appB, lenB, lenB_app b v [] k]; omega
  | x :: l, k => by simp only [appB, lenB, lenB_app b v l k]; omega
theorem lenV_app (b v : Nat → Nat) : ∀ (l k : List Vc), lenV (appV b v l k) = lenV l + lenV k
  | [], [] => by simp [appV, lenV]
  | [], x :: k => by simp only [appV, lenV, lenV_app b v [] k]; omega
  | x :: l, k => by simp only [appV, lenV, lenV_app b v l k]; omega
theorem getB_app (b v : Nat → Nat) : ∀ (l k : List Blk) (n : Nat), getB (appB b v l k) n = if n < lenB l then getB l n else renK b v (getB k (n - lenB l))
  | [], [], n => by simp [appB, getB, lenB, renK]
  | [], x :: k, 0 => by simp [appB, getB, lenB]
  | [], x :: k, n + 1 => by
    have := getB_app b v [] k n
    simp only [lenB, Nat.not_lt_zero, if_false, Nat.sub_zero] at this ⊢
    simp only [appB, getB, this]
  | x :: l, k, 0 => by simp [appB, getB, lenB]
  | x :: l, k, n + 1 => by
    simp only [appB, getB, getB_app b v l k n, lenB, Nat.add_lt_add_iff_right, Nat.add_sub_add_right]
theorem getV_app (b v : Nat → Nat) : ∀ (l k : List Vc) (n : Nat), getV (appV b v l k) n = if n < lenV l then getV l n else renC b v (getV k (n - lenV l))
  | [], [], n => by simp [appV, getV, lenV, renC]
  | [], x :: k, 0 => by simp [appV, getV, lenV]
  | [], x :: k, n + 1 => by
    have := getV_app b v [] k n
    simp only [lenV, Nat.not_lt_zero, if_false, Nat.sub_zero] at this ⊢
    simp only [appV, getV, this]
  | x :: l, k, 0 => by simp [appV, getV, lenV]
  | x :: l, k, n + 1 => by
    simp only [appV, getV, getV_app b v l k n, lenV, Nat.add_lt_add_iff_right, Nat.add_sub_add_right]
def tagU (L M : Nat) (old new : Option Tag) : Option Tag :=
  match old with
  | some t => some t
  | none => match new with
    | some (.blk i) => some (.blk (i + L))
    | some (.vec i) => some (.vec (i + M))
    | some .other => some .other
    | none => none
/-- The caller's ghost and the callee's, one behind the other. -/
def Env.grow (E E0 : Env) : Env :=
  { nb := E0.nb + E.nb, rho := fun i => if i < E.nb then E.rho i else E0.rho (i - E.nb), nv := E0.nv + E.nv, val := fun i ver => if i < E.nv then E.val i ver else E0.val (i - E.nv) ver, own := fun k => tagU E.nb E.nv (E.own k) (E0.own k) }
theorem calls_grow {P : Program} {g : Nat} {args : List SV} {K0 : Out → HS → Prop} (hc : CallsS P g args ⟨[], []⟩ K0) (ba : BdL 0 0 args)
    (hK : ∀ o h', K0 o h' → bdB (lenB h'.blks) (lenV h'.vecs) h'.blks ∧ bdV (lenB h'.blks) (lenV h'.vecs) h'.vecs ∧ bdO (lenB h'.blks) (lenV h'.vecs) o) (h : HS) :
    CallsS P g args h (fun o h' => ∃ o0 h0', K0 o0 h0' ∧ o = renO (· + lenB h.blks) (· + lenV h.vecs) o0 ∧ h' = ⟨appB (· + lenB h.blks) (· + lenV h.vecs) h.blks h0'.blks, appV (· + lenB h.blks) (· + lenV h.vecs) h.vecs h0'.vecs⟩) := by
  intro E w vals hr hd
  have hd' : DenA E.sub w args vals := ⟨hd.1, fun i x u hx hu => (hd.2 i x u hx hu).turn (BdL_get ba i x hx) (fun nm hn => by simp [Env.sub] at hn) (fun id ver y hi => by simp [Env.sub] at hi)
    (fun b _ ho => by simp [Env.sub, ho])⟩
  refine (hc E.sub w vals (sub_rel hr) hd').mono ?_
  rintro e w' ⟨o, h', E', hk, hr', hx, hout⟩
  obtain ⟨k3, k4, k5⟩ := hK o h' hk
  have e1 : E'.nb = lenB h'.blks := hr'.nb
  have e2 : E'.nv = lenV h'.vecs := hr'.nv
  rw [← hr.nb, ← hr.nv]
  have kept : ∀ k t, E.own k = some t → w'.heap[k]? = w.heap[k]? ∧ (E.grow E').own k = E.own k ∧ E'.own k = some .other := fun k t ho => by
    obtain ⟨q1, q2⟩ := hx.oth k (by simp [Env.sub, ho])
    exact ⟨q2, by simp [Env.grow, ho, tagU], q1⟩
  have free : ∀ k, E'.own k = none → E.own k = none := fun k ho => by
    cases hE : E.own k with
    | none => rfl
    | some t => rw [(kept k t hE).2.2] at ho; cases ho
  have hxG : Ext E w (E.grow E') w' := by
    refine ⟨hx.os, hx.tape, hx.output, hx.size, by simp [Env.grow], by simp [Env.grow], fun nm hn => by simp [Env.grow, hn], fun id ver x hi hv => by simp [Env.grow, hi, hv], fun k hk ho => ?_, fun k ho => ?_⟩
    · obtain ⟨q1, q2⟩ := hx.keep k hk (by simp [Env.sub, ho])
      exact ⟨by simp [Env.grow, ho, q1, tagU], q2⟩
    · obtain ⟨q1, q2, _⟩ := kept k _ ho
      exact ⟨by rw [q2, ho], q1⟩
  have up := fun (x : SV) (u : Value) (hd : Den E' w' x u) (hb : Bd (lenB h'.blks) (lenV h'.vecs) x) =>
    Den.ren (E := E.grow E') (E0 := E') (b := (· + E.nb)) (v := (· + E.nv)) hd hb (fun nm hn _ => ⟨by simp only [Env.grow]; omega, by simp only [Env.grow]; rw [if_neg (by omega), Nat.add_sub_cancel]⟩) (fun id ver y hi _ hy => ⟨by simp only [Env.grow]; omega, by simp only [Env.grow]; rw [if_neg (by omega), Nat.add_sub_cancel]; exact hy⟩)
      (fun k _ hk => by simp [Env.grow, free k hk, hk, tagU])
  have upL := fun (l : List SV) (us : Array Value) (hd : DenA E' w' l us) (hb : BdL (lenB h'.blks) (lenV h'.vecs) l) => (show DenA (E.grow E') w' (renL (· + E.nb) (· + E.nv) l) us from
    ⟨by rw [hd.1, renL_eq]; simp, fun i x u hx hu => by
      rw [renL_eq, List.getElem?_map, Option.map_eq_some_iff] at hx
      obtain ⟨y, hy, rfl⟩ := hx
      exact up y u (hd.2 i y u hy hu) (BdL_get hb i y hy)⟩)
  have new : ∀ k t, E'.own k = some t → (match t with | .other => False | _ => True) → E.own k = none := fun k t ho ht => by
    cases hE : E.own k with
    | none => rfl
    | some t' => rw [(kept k t' hE).2.2] at ho; cases ho; exact ht.elim
  have gown : ∀ i, E'.own (E'.rho i) = some (.blk i) → (E.grow E').own (E'.rho i) = some (.blk (i + E.nb)) := fun i ho => by
    have := new _ _ ho trivial
    simp [Env.grow, ho, this, tagU]
  refine ⟨renO (· + E.nb) (· + E.nv) o, _, E.grow E', ⟨o, h', hk, rfl, rfl⟩, ?_, hxG, ?_⟩
  · have gBp := getB_app (· + E.nb) (· + E.nv) h.blks h'.blks
    have gVp := getV_app (· + E.nb) (· + E.nv) h.vecs h'.vecs
    have hnb := hr.nb
    have hnv := hr.nv
    refine ⟨by rw [lenB_app]; simp only [Env.grow]; omega, by rw [lenV_app]; simp only [Env.grow]; omega, ?_, ?_, ?_, ?_, ?_⟩
    · intro nm ty c hg
      simp only at hg
      rw [gBp] at hg
      split at hg
      · rename_i hlt
        obtain ⟨cs, a1, a2, a3, a4⟩ := hr.blk _ _ _ hg
        obtain ⟨f1, f2, _⟩ := kept _ _ a4
        have hr0 : (E.grow E').rho nm = E.rho nm := by simp only [Env.grow]; rw [if_pos (by omega)]
        exact ⟨cs, by rw [hr0]; exact f1.trans a1, a2.ext hxG, a3, by rw [hr0]; exact f2.trans a4⟩
      · rename_i hlt
        have hr0 : (E.grow E').rho nm = E'.rho (nm - lenB h.blks) := by simp only [Env.grow]; rw [if_neg (by omega), hnb]
        cases hb : getB h'.blks (nm - lenB h.blks) with
        | live ty' c' =>
          rw [hb] at hg
          simp only [renK, Blk.live.injEq] at hg
          obtain ⟨rfl, rfl⟩ := hg
          obtain ⟨cs, a1, a2, a3, a4⟩ := hr'.blk _ _ _ hb
          refine ⟨cs, by rw [hr0]; exact a1, upL c' cs a2 (bdB_get k3 hb), a3, ?_⟩
          rw [hr0, gown _ a4, hnb]
          congr 2
          omega
        | dead => rw [hb] at hg; simp [renK] at hg
        | loop => rw [hb] at hg; simp [renK] at hg
        | mp => rw [hb] at hg; simp [renK] at hg
    · intro id ver ty sz n f hg
      simp only at hg
      rw [gVp] at hg
      split at hg
      · rename_i hlt
        obtain ⟨c0, ⟨a, cap, l1, l2⟩, l3⟩ := hr.vec _ _ _ _ _ _ hg
        have hval : ∀ ver, (E.grow E').val id ver = E.val id ver := fun ver => by simp only [Env.grow]; rw [if_pos (by omega)]
        exact ⟨c0, ⟨a, cap, by rw [hval]; exact l1, l2.ext hxG (fun g hg => ⟨(kept g _ hg).1, (kept g _ hg).2.1⟩)⟩, fun v' hv' => by rw [hval]; exact l3 v' hv'⟩
      · rename_i hlt
        have hval : ∀ ver, (E.grow E').val id ver = E'.val (id - lenV h.vecs) ver := fun ver => by simp only [Env.grow]; rw [if_neg (by omega), hnv]
        cases hb : getV h'.vecs (id - lenV h.vecs) with
        | live ver' ty' sz' n' f' =>
          rw [hb] at hg
          simp only [renC, Vc.live.injEq] at hg
          obtain ⟨rfl, rfl, rfl, rfl, rfl⟩ := hg
          obtain ⟨c0, ⟨a, cap, l1, l2⟩, l3⟩ := hr'.vec _ _ _ _ _ _ hb
          refine ⟨c0, ⟨a, cap, by rw [hval]; exact l1, ?_⟩, fun v' hv' => by rw [hval]; exact l3 v' hv'⟩
          rcases l2 with hk | ⟨g1, o, cur, p1, p2, p3, p4, p5, p6, p7, p8⟩
          · exact .inl hk
          · refine .inr ⟨g1, o, cur, p1, p2, p3, p4, p5, ?_, p7, fun a j u hi hj hu => up _ _ (p8 a j u hi hj hu) (bdV_get k4 hb a j hi hj)⟩
            have := new _ _ p6 trivial
            simp only [Env.grow, this, p6, tagU]
            congr 2
            omega
        | dead => rw [hb] at hg; simp [renC] at hg
    · intro k t hk
      simp only [Env.grow] at hk
      cases hE : E.own k with
      | some t' => exact Nat.lt_of_lt_of_le (hr.own k t' hE) hx.size
      | none =>
        cases hE' : E'.own k with
        | none => rw [hE, hE'] at hk; simp [tagU] at hk
        | some t' => exact hr'.own k t' hE'
    · intro nm st pend fid t params assign body hg
      simp only at hg
      rw [gBp] at hg
      split at hg
      · rename_i hlt
        have hr0 : (E.grow E').rho nm = E.rho nm := by simp only [Env.grow]; rw [if_pos (by omega)]
        exact (hr.lp _ _ _ _ _ _ _ _ hg).ext hxG (fun ho => ⟨hr0, (kept _ _ ho).1, (kept _ _ ho).2.1⟩)
      · rename_i hlt
        have hr0 : (E.grow E').rho nm = E'.rho (nm - lenB h.blks) := by simp only [Env.grow]; rw [if_neg (by omega), hnb]
        cases hb : getB h'.blks (nm - lenB h.blks) with
        | loop st' pend' fid' t' params' assign' body' =>
          rw [hb] at hg
          simp only [renK, Blk.loop.injEq] at hg
          obtain ⟨rfl, rfl, rfl, rfl, rfl, rfl, rfl⟩ := hg
          obtain ⟨tmps, db, a1, a2, a3⟩ := hr'.lp _ _ _ _ _ _ _ _ hb
          refine ⟨tmps, db, by rw [hr0]; exact a1, upL t' tmps a2 (bdB_getL k3 hb), ?_⟩
          rw [hr0, gown _ a3, hnb]
          congr 2
          omega
        | dead => rw [hb] at hg; simp [renK] at hg
        | live => rw [hb] at hg; simp [renK] at hg
        | mp => rw [hb] at hg; simp [renK] at hg
    · intro nm m hg
      simp only at hg
      rw [gBp] at hg
      split at hg
      · rename_i hlt
        have hr0 : (E.grow E').rho nm = E.rho nm := by simp only [Env.grow]; rw [if_pos (by omega)]
        exact (hr.mp _ _ hg).ext hxG (fun ho => ⟨hr0, (kept _ _ ho).1, (kept _ _ ho).2.1⟩)
      · rename_i hlt
        have hr0 : (E.grow E').rho nm = E'.rho (nm - lenB h.blks) := by simp only [Env.grow]; rw [if_neg (by omega), hnb]
        cases hb : getB h'.blks (nm - lenB h.blks) with
        | mp m' =>
          rw [hb] at hg
          simp only [renK, Blk.mp.injEq] at hg
          subst hg
          obtain ⟨a2, a3⟩ := hr'.mp _ _ hb
          have hi := bdB_getM k3 hb
          rw [hi] at a3
          obtain ⟨es, a1, a4⟩ := a3
          refine ⟨?_, ?_⟩
          · rw [hr0, gown _ a2, hnb]
            congr 2
            omega
          · rw [hi]
            exact ⟨es, by rw [hr0]; exact a1, a4⟩
        | dead => rw [hb] at hg; simp [renK] at hg
        | live => rw [hb] at hg; simp [renK] at hg
        | loop => rw [hb] at hg; simp [renK] at hg
  · cases o with
    | ret v =>
      cases e with
      | returned val => exact up _ _ hout k5
      | panicked _ => exact hout.elim
      | outgrown => exact hout.elim
    | pan v =>
      cases e with
      | panicked chain => obtain ⟨val, h1, h2⟩ := hout; exact ⟨val, h1, up _ _ h2 k5⟩
      | returned _ => exact hout.elim
      | outgrown => exact hout.elim
    | _ => cases e <;> exact hout.elim
end Go.Eng
end

/- press: small lemmas. -/
section
namespace Go.Eng
open Go Go.RowKit Go.Proofs
set_option maxRecDepth 100000
set_option maxHeartbeats 4000000
attribute [local irreducible] OwnT DefS
theorem subVk_rfl (x : Vc) : subVk x x := by cases x <;> simp [subVk]
theorem updV_sub {f g : Nat → Vc} {i : Nat} {x : Vc} {N : Nat} (h1 : subVk x (g i)) (h2 : ∀ j, j < N → j ≠ i → subVk (f j) (g j)) : ∀ j, j < N → subVk (updV f i x j) (g j) := fun j hj => by
  by_cases e : j = i
  · subst e; rw [updV_same]; exact h1
  · rw [updV_ne e]; exact h2 j hj e
theorem wrap_s {i n : Nat} (h : i < n) (hn : n ≤ 1000000) : IntKind.i64.wrap ((i : Int) + 1) = ((i + 1 : Nat) : Int) := by rw [wrap_id (by omega) (by omega)]; omega
end Go.Eng
end

/- press: the cheapest plan, whose hours are the caller's own. -/
section
namespace Go.Eng
open Go Go.RowKit Go.Proofs
set_option maxRecDepth 100000
set_option maxHeartbeats 4000000
attribute [local irreducible] OwnT DefS
/-- A plan's hours, each a slice of its own. -/
def pcF : Nat → Nat → SV := fun a _ => .vec (fI 1 a) 1
def hourV (n : Nat) (c : T3) : Vc := .live 1 3 1 n (fun a _ => .int .i64 (c.get a))
theorem hourV_bd {L K n : Nat} {c : T3} : bdV L K [hourV n c] := ⟨fun _ _ _ _ => trivial, trivial⟩
theorem cheap_run {D : PD} (hOk : D.Ok) (c2 : (bestM D D.h (begP D)).isNone = false) :
    CallsS Try.prog 14 [.agg (prC D)] ⟨[], []⟩ (fun o h' => ∃ B v V, o = .ret (.tup [.vec 0 v, .int .i64 (wx (bestM D D.h (begP D))), .int .i64 0]) ∧ h' = ⟨B, fam [.live v 23 1 D.h pcF] D.h (fun i => hourV D.n (cAt D i)) V⟩) := by
  have hn := hOk.n
  have hh := hOk.h
  have hs0 := begP_ok hOk
  have hb : psB D.n D.A D.M D.V D.h D.nd D.h D.pr D.st D.ro D.pk D.fr = true := psB_iff.2 ⟨rfl, hOk⟩
  have pre : (D.n ≤ 1000000 ∧ ∀ i, i < D.n → D.M i ≤ 1000000) ∧ D.h ≤ 1000000 ∧ D.h ≤ 1000000 := ⟨⟨by omega, fun i hi => by have := (hOk.M i hi).2; omega⟩, by omega, by omega⟩
  refine calls_of_run (C := cx [32, 37] [] [(31, arePsBase), (35, beginBase)] [(14, 17, p14_17)] none) (cx_ok trivial ⟨arePs_base, begin_base, trivial⟩) rfl (g := 14) (fn := Try.f14) (fn_14) rfl 1000 ?_
  simp only [prC, arePs_eq, begin_eq, p14_17, Try.f36, nestF_eq, nestR_lit, nsM_lit, nsV_lit, psS, onI_ns, psB_ns, Try.f14, hb, go_sem, ↓reduceIte, Nat.reduceAdd, Nat.reduceSub, Nat.reduceMul, Nat.reduceEqDiff, Nat.reduceLT, Nat.reduceLeDiff, Int.reduceToNat, Int.reduceLE, Int.reduceLT, Int.reduceEq, Int.reduceNeg, reduceCtorEq]
  refine ⟨⟨pre.1, pre.2.1⟩, by omega, ?_⟩
  unfold callS
  refine calls_mono ?_ (best_frame (D := D) (hr := (0 : Nat)) (s := begP D) (es := []) (w := bestM D D.h (begP D)) [.live 65 [.int .i64 (onI D.A D.n).a, .int .i64 (onI D.A D.n).b, .int .i64 (onI D.A D.n).c, .int .i64 D.st, .int .i64 0]] [.live 0 23 1 0 fun _ _ => .any] (best_calls hOk D.h 0 (begP D) [] (by omega) hs0 (known_nil D)))
  rintro o h' ⟨es, hes, rfl, rfl⟩
  have hst := sAt_ok hOk c2
  simp only [bestH, catB, wayC, c2, prC, arePs_eq, begin_eq, p14_17, Try.f36, nestF_eq, nestR_lit, nsM_lit, nsV_lit, psS, onI_ns, psB_ns, Try.f14, mpS, go_sem, ↓reduceIte, Nat.reduceAdd, Nat.reduceSub, Nat.reduceMul, Nat.reduceEqDiff, Nat.reduceLT, Nat.reduceLeDiff, Int.reduceToNat, Int.reduceLE, Int.reduceLT, Int.reduceEq, Int.reduceNeg, reduceCtorEq]
  generalize bestM D D.h (begP D) = W0
  refine loop_ofG { x : Nat × List (List Int × List Int) // x.1 ≤ D.h ∧ Known D x.2 } (fun x => [(26, .int .i64 (x.1.1 : Int)), (25, .int .i64 (D.h : Int)), (8, .ptr 5 0), (7, .ptr 4 0), (6, .ptr 3 0), (2, .vec 0 x.1.1), (1, .ptr 0 0)])
    (fun h x => ⟨[.live 25 (prC D), .mp (mpS x.1.2), .live 60 [.mapp 1], .live 61 [.func 32 [.ptr 0 0, .ptr 2 0, .ptr 3 0]], .live 65 [.int .i64 (sAt D x.1.1).on.a, .int .i64 (sAt D x.1.1).on.b, .int .i64 (sAt D x.1.1).on.c, .int .i64 (sAt D x.1.1).sto, .int .i64 (sAt D x.1.1).pk], getB h.blks 5], fam [.live x.1.1 23 1 x.1.1 pcF] x.1.1 (fun i => hourV D.n (cAt D i)) []⟩)
    (fun x => D.h - x.1.1) (fun x => ⟨Nat.le_refl _, by simp only [fam_lenV, fP, lenV]; omega⟩) ⟨(0, es), Nat.zero_le _, hes⟩ ?_ ?_
  · simp only [fam_zero, List.append_nil, sAt, begP, prC, mpS]
    apply sub_of <;> simp only [go_sem, ↓reduceIte, Nat.reduceAdd, Nat.reduceSub, Nat.reduceMul, Nat.reduceEqDiff, Nat.reduceLT, Nat.reduceLeDiff, Int.reduceToNat, Int.reduceLE, Int.reduceLT, Int.reduceEq, Int.reduceNeg, reduceCtorEq] <;> (try simp)
    exact fun i j _ _ => nestF_bd1 _ _ _ _ _ _ _ i j
  rintro ⟨⟨i, es⟩, hi, hes⟩
  simp only at hi hes
  obtain ⟨hs1, hs2, hs3⟩ := hst i hi
  have hw3 : IntKind.i64.wrap ((i : Int) + 1) = ((i + 1 : Nat) : Int) := by rw [wrap_id (by omega) (by omega)]; omega
  by_cases ih : i < D.h
  · have hd : decide ((i : Int) < (D.h : Int)) = true := decide_eq_true (by omega)
    simp only [hd, getV_fL, setV_fL, getV_fI, setV_fI, getV_fP, setV_fP, snocV_fam', fam_lenV, updV_same, updV_upd, prC, arePs_eq, begin_eq, p14_17, Try.f36, nestF_eq, nestR_lit, nsM_lit, nsV_lit, psS, onI_ns, psB_ns, Try.f14, mpS, go_sem, ↓reduceIte, Nat.reduceAdd, Nat.reduceSub, Nat.reduceMul, Nat.reduceEqDiff, Nat.reduceLT, Nat.reduceLeDiff, Int.reduceToNat, Int.reduceLE, Int.reduceLT, Int.reduceEq, Int.reduceNeg, reduceCtorEq]
    obtain ⟨hc1, hc2⟩ := hs3 (by omega)
    unfold callS
    refine calls_mono ?_ (best_frame (D := D) (hr := (i : Nat)) (s := sAt D i) (es := es) (w := bestM D (D.h - i) (sAt D i)) _ _ (best_calls hOk (D.h - i) i (sAt D i) es (by omega) hs1 hes))
    rintro o h' ⟨es', hes', rfl, rfl⟩
    have e4 : wc (bestM D (D.h - i) (sAt D i)) = cAt D i := rfl
    simp only [bestH, catB, wayC, e4, getV_fL, setV_fL, getV_fI, setV_fI, getV_fP, setV_fP, snocV_fam', fam_lenV, updV_same, updV_upd, prC, arePs_eq, begin_eq, p14_17, Try.f36, nestF_eq, nestR_lit, nsM_lit, nsV_lit, psS, onI_ns, psB_ns, Try.f14, mpS, go_sem, ↓reduceIte, Nat.reduceAdd, Nat.reduceSub, Nat.reduceMul, Nat.reduceEqDiff, Nat.reduceLT, Nat.reduceLeDiff, Int.reduceToNat, Int.reduceLE, Int.reduceLT, Int.reduceEq, Int.reduceNeg, reduceCtorEq]
    refine ⟨⟨by omega, by omega⟩, ⟨by omega, by omega, by omega⟩, ⟨by omega, by omega⟩, ?_⟩
    have hp := pass0 hOk hs1 hc1 (hr := i) (by omega)
    simp only [prC, psS, tS] at hp
    unfold callS
    refine calls_mono ?_ (calls_lend (K := fun o => o = resP (hourP D (sAt D i) i (cAt D i))) ?_ ?_)
    rotate_left
    · simp only [frzF_nth, go_sem, ↓reduceIte, Nat.reduceAdd, Nat.reduceSub, Nat.reduceMul, Nat.reduceEqDiff, Nat.reduceLT, Nat.reduceLeDiff, Int.reduceToNat, Int.reduceLE, Int.reduceLT, Int.reduceEq, Int.reduceNeg, reduceCtorEq]
      exact fun j _ => Bd_nth (prC_bd D 0 0) j
    · simp only [frzF_nth, go_sem, ↓reduceIte, Nat.reduceAdd, Nat.reduceSub, Nat.reduceMul, Nat.reduceEqDiff, Nat.reduceLT, Nat.reduceLeDiff, Int.reduceToNat, Int.reduceLE, Int.reduceLT, Int.reduceEq, Int.reduceNeg, reduceCtorEq]
      exact hp
    rintro o h' ⟨rfl, rfl⟩
    simp only [resP, hc2, if_true, ← sAt_succ, getV_fL, setV_fL, getV_fI, setV_fI, getV_fP, setV_fP, snocV_fam', fam_lenV, updV_same, updV_upd, prC, arePs_eq, begin_eq, p14_17, Try.f36, nestF_eq, nestR_lit, nsM_lit, nsV_lit, psS, onI_ns, psB_ns, Try.f14, mpS, go_sem, ↓reduceIte, Nat.reduceAdd, Nat.reduceSub, Nat.reduceMul, Nat.reduceEqDiff, Nat.reduceLT, Nat.reduceLeDiff, Int.reduceToNat, Int.reduceLE, Int.reduceLT, Int.reduceEq, Int.reduceNeg, reduceCtorEq]
    refine ⟨⟨(i + 1, es'), by simp only []; omega, hes'⟩, by simp only []; omega, ?_⟩
    refine sub_mvV (fP 1 i 0) (fP 1 i 1) 0 pcF ((getV_fP rfl).trans rfl) ((getV_fP rfl).trans rfl) ((getV_fL Nat.zero_lt_one).trans rfl) (by simp only [fP]; omega) (by simp only [fP]; omega) (by simp only [fP]; omega) (fun a j ha hj => ?_) ?_
    · rcases Nat.lt_or_ge a i with h1 | h1
      · left; simp only [catF, if_pos h1]
      · obtain rfl : a = i := by omega
        obtain rfl : j = 0 := by omega
        right
        exact ⟨by simp only [catF, if_neg (Nat.lt_irrefl _), Nat.sub_self]; rfl, by simp only [pcF, fI, fP]; rfl⟩
    · apply sub_of <;> simp only [hw3, getV_fL, setV_fL, getV_fI, setV_fI, getV_fP, setV_fP, snocV_fam', fam_lenV, updV_same, updV_upd, prC, arePs_eq, begin_eq, p14_17, Try.f36, nestF_eq, nestR_lit, nsM_lit, nsV_lit, psS, onI_ns, psB_ns, Try.f14, mpS, go_sem, ↓reduceIte, Nat.reduceAdd, Nat.reduceSub, Nat.reduceMul, Nat.reduceEqDiff, Nat.reduceLT, Nat.reduceLeDiff, Int.reduceToNat, Int.reduceLE, Int.reduceLT, Int.reduceEq, Int.reduceNeg, reduceCtorEq]
      · exact ⟨fun _ _ _ _ => trivial, fun _ _ _ _ => trivial⟩
      · rw [fam_growV]
        refine subV_famI rfl (by simp [subV, subVk]) (updV_sub ⟨rfl, rfl, rfl, rfl, fun a b ha hb => ?_⟩ (fun _ _ _ => subVk_rfl _)) trivial
        obtain rfl : b = 0 := by omega
        simp only [catF, Nat.not_lt_zero, if_false, Nat.sub_zero]
        rcases (by omega : a = 0 ∨ a = 1 ∨ a = 2) with rfl | rfl | rfl <;> rfl
      · simp only [fP]; omega
      · exact ⟨fun i j _ _ => nestF_bd1 _ _ _ _ _ _ _ i j, fun _ _ _ _ => trivial⟩
      · exact bdV_famI ⟨fun a b ha hb => by simp only [pcF, Bd, fI, fP]; omega, trivial⟩ (fun _ _ => hourV_bd) trivial
  · have hd : decide ((i : Int) < (D.h : Int)) = false := decide_eq_false (by omega)
    obtain rfl : i = D.h := by omega
    simp only [hd, getV_fL, setV_fL, getV_fI, setV_fI, getV_fP, setV_fP, snocV_fam', fam_lenV, updV_same, updV_upd, prC, arePs_eq, begin_eq, p14_17, Try.f36, nestF_eq, nestR_lit, nsM_lit, nsV_lit, psS, onI_ns, psB_ns, Try.f14, mpS, go_sem, ↓reduceIte, Nat.reduceAdd, Nat.reduceSub, Nat.reduceMul, Nat.reduceEqDiff, Nat.reduceLT, Nat.reduceLeDiff, Int.reduceToNat, Int.reduceLE, Int.reduceLT, Int.reduceEq, Int.reduceNeg, reduceCtorEq]
    exact ⟨⟨by kernel_rfl, by kernel_rfl⟩, _, _, _, rfl, rfl⟩
theorem subB_nil' (B : List Blk) : subB B [] := by cases B <;> exact trivial
theorem subV_nil (V : List Vc) : subV V [] := by cases V <;> exact trivial
theorem cheap_trim {D : PD} (hOk : D.Ok) (c2 : (bestM D D.h (begP D)).isNone = false) :
    CallsS Try.prog 14 [.agg (prC D)] ⟨[], []⟩ (fun o h' => ∃ v, o = .ret (.tup [.vec 0 v, .int .i64 (wx (bestM D D.h (begP D))), .int .i64 0]) ∧ h' = ⟨[], fam [.live v 23 1 D.h pcF] D.h (fun i => hourV D.n (cAt D i)) []⟩) := by
  refine calls_trim2 (cheap_run hOk c2) ?_
  rintro o h' ⟨B, v, V, rfl, rfl⟩
  refine ⟨_, _, .ret (.tup [.vec 0 v, .int .i64 (wx (bestM D D.h (begP D))), .int .i64 0]), ⟨[], fam [.live v 23 1 D.h pcF] D.h (fun i => hourV D.n (cAt D i)) []⟩, .inl ⟨rfl, rfl⟩, ⟨v, rfl, rfl⟩, ⟨⟨rfl, trivial⟩, subB_nil' _, ?_, ⟨by simp only [Bd, BdL, fam_lenV, fP, lenV]; simp; omega, trivial⟩, trivial, ?_⟩, ⟨Nat.le_refl _, Nat.zero_le _⟩, ⟨Nat.zero_le _, ?_⟩⟩
  · exact subV_famI rfl (by simp [subV, subVk]) (fun _ _ => subVk_rfl _) (subV_nil _)
  · exact bdV_famI ⟨fun a b ha hb => by simp only [pcF, Bd, fI, fam_lenV, fP, lenV]; omega, trivial⟩ (fun _ _ => hourV_bd) trivial
  · simp only [fam_lenV, fP, lenV]; omega
theorem appV_nil (b v : Nat → Nat) : ∀ k : List Vc, appV b v [] k = k.map (renC b v)
  | [] => by simp [appV]
  | x :: k => by simp [appV, appV_nil b v k]
def pcG (b : Nat) : Nat → Nat → SV := fun a _ => .vec (fI b a) 1
theorem cheap_two {D : PD} (hOk : D.Ok) (c2 : (bestM D D.h (begP D)).isNone = false) (b0 b1 : Blk) (v0 v1 : Vc) :
    CallsS Try.prog 14 [.agg (prC D)] ⟨[b0, b1], [v0, v1]⟩ (fun o h' => ∃ v, o = .ret (.tup [.vec 2 v, .int .i64 (wx (bestM D D.h (begP D))), .int .i64 0]) ∧ h' = ⟨[b0, b1], fam [v0, v1, .live v 23 1 D.h (pcG 3)] D.h (fun i => hourV D.n (cAt D i)) []⟩) := by
  refine calls_mono ?_ (calls_grow (cheap_trim hOk c2) ?_ ?_ _)
  · rintro o h' ⟨o0, h0', ⟨v, rfl, rfl⟩, rfl, rfl⟩
    refine ⟨v, rfl, ?_⟩
    have e1 : renC (fun x => x + lenB [b0, b1]) (fun x => x + lenV [v0, v1]) (.live v 23 1 D.h pcF) = .live v 23 1 D.h (pcG 3) := by
      simp only [renC, Vc.live.injEq, true_and]
      funext i j
      simp only [pcF, pcG, renS, fI, lenV]
      congr 1
      omega
    have e2 : ∀ i, renC (fun x => x + lenB [b0, b1]) (fun x => x + lenV [v0, v1]) (hourV D.n (cAt D i)) = hourV D.n (cAt D i) := fun i => by simp [hourV, renC, renS]
    simp only [appB, appV, appV_nil, fam_map, List.map_cons, List.map_nil, e1, e2]
    rfl
  · exact ⟨prC_bd D 0 0, trivial⟩
  · rintro o h' ⟨v, rfl, rfl⟩
    refine ⟨trivial, bdV_famI ⟨fun a b ha hb => by simp only [pcF, Bd, fI, fam_lenV, fP, lenV]; omega, trivial⟩ (fun _ _ => hourV_bd) trivial, ?_⟩
    simp only [bdO, Bd, BdL, fam_lenV, fP, lenV]; simp; omega
/-- The cheapest plan as foreign rows, whatever there is. -/
theorem cheap_any (n : Nat) (A : Nat → Nat → Int) (M : Nat → Nat) (V : Nat → Nat → Nat → Int) (h : Nat) (nd : Nat → Nat → Int) (q : Nat) (pr : Nat → Nat → Int) (st ro pk fr : Int) (pre : (n ≤ 1000000 ∧ ∀ i, i < n → M i ≤ 1000000) ∧ h ≤ 1000000 ∧ q ≤ 1000000) {b : Bool} (hb : psB n A M V h nd q pr st ro pk fr = b) (H : HS) :
    CallsS Try.prog 14 [.agg [.row n 5 (nestF 0 2 A M V), .row h 1 (fun i j => .int .i64 (nd i j)), .row q 1 (fun i j => .int .i64 (pr i j)), .int .i64 st, .int .i64 ro, .int .i64 pk, .int .i64 fr]] H
      (fun o h' => o = .ret (.tup [.row (chN b ⟨n, A, M, V, h, nd, pr, st, ro, pk, fr⟩) 1 (planF n (cAt ⟨n, A, M, V, h, nd, pr, st, ro, pk, fr⟩)), .int .i64 (chC b ⟨n, A, M, V, h, nd, pr, st, ro, pk, fr⟩), .int .i64 (chE b ⟨n, A, M, V, h, nd, pr, st, ro, pk, fr⟩)]) ∧ h' = H) := by
  subst hb
  have hc := cheapest_base _ _ _ (cheapest_eq n 5 (nestF 0 2 A M V) h 1 (fun i j => .int .i64 (nd i j)) q 1 (fun i j => .int .i64 (pr i j)) st ro pk fr) ⟨⟨rfl, of_eq_true (nestR_lit _ _ _ _ _ _ _)⟩, ⟨rfl, fun _ _ _ _ => rfl⟩, ⟨rfl, fun _ _ _ _ => rfl⟩, by simpa only [nsM_lit] using pre⟩
  have e1 : ∀ f : Nat → Nat → Int, ivf (fun i j => .int .i64 (f i j)) = f := fun _ => rfl
  simp only [nsM_lit, nsV_lit, e1, chE_ns, chC_ns, chN_ns, cAt_ns, psB_ns] at hc
  obtain ⟨b1, b2, b3⟩ := hc
  exact frame_calls b3 b1 (fun o => o = .ret _) (fun o h' e => by subst e; exact ⟨rfl, b2⟩) _
end Go.Eng
end

/- press: all numbers of compressors and a plan, one behind the other. -/
section
namespace Go.Eng
open Go Go.RowKit Go.Proofs
set_option maxRecDepth 100000
set_option maxHeartbeats 4000000
attribute [local irreducible] OwnT DefS
def gI (l : List Int) (i : Nat) : Int := l.getD i 0
def lvL (v : Nat → Nat → Int) : Nat → List Int
  | 0 => []
  | j + 1 => lvL v j ++ [v j 0, v j 1]
def prL (A : Nat → Nat → Int) (M : Nat → Nat) (V : Nat → Nat → Nat → Int) : Nat → List Int
  | 0 => []
  | i + 1 => prL A M V i ++ [A i 1, A i 2, A i 3, A i 4] ++ lvL (V i) (M i)
def rwL (a : Nat → Nat → Int) (n : Nat) : List Int := (List.range n).map fun i => a i 0
def plL (K : Nat → Nat) (W : Nat → Nat → Nat → Int) : Nat → List Int
  | 0 => []
  | i + 1 => plL K W i ++ rwL (W i) (K i)
def flL (n : Nat) (A : Nat → Nat → Int) (M : Nat → Nat) (V : Nat → Nat → Nat → Int) (h : Nat) (nd : Nat → Nat → Int) (q : Nat) (pr : Nat → Nat → Int) (m : Nat) (K : Nat → Nat) (W : Nat → Nat → Nat → Int) : List Int := (rwL nd h ++ rwL pr q) ++ prL A M V n ++ plL K W m
theorem rwL_len (a : Nat → Nat → Int) (n : Nat) : (rwL a n).length = n := by simp [rwL]
theorem rwL_at (a : Nat → Nat → Int) {n i : Nat} (h : i < n) : gI (rwL a n) i = a i 0 := by simp [gI, rwL, h]
def liV (v : Nat) (l : List Int) : Vc := .live v 3 1 l.length (fun i _ => .int .i64 (gI l i))
theorem gI_app1 {l r : List Int} {i : Nat} (h : i < l.length) : gI (l ++ r) i = gI l i := by simp [gI, List.getElem?_append_left h]
theorem gI_app2 {l r : List Int} {i : Nat} (h : ¬ i < l.length) : gI (l ++ r) i = gI r (i - l.length) := by simp [gI, List.getElem?_append_right (Nat.le_of_not_lt h)]
theorem liV_app {v k : Nat} {l r : List Int} {f : Nat → Nat → SV} (hk : k = r.length) (hf : ∀ i, i < k → f i 0 = .int .i64 (gI r i)) : subVk (.live v 3 1 (l.length + k) (catF l.length (fun i _ => .int .i64 (gI l i)) f)) (liV v (l ++ r)) :=
  ⟨rfl, rfl, rfl, by rw [List.length_append, hk], fun i j hi hj => by
    obtain rfl : j = 0 := by omega
    simp only [catF]
    split
    · rename_i h; rw [gI_app1 h]
    · rename_i h
      rw [List.length_append] at hi
      rw [gI_app2 h, hf _ (by omega)]⟩
theorem liV_app' {k : Nat} {l r : List Int} {f : Nat → Nat → SV} (hk : k = r.length) (hf : ∀ i, i < k → f i 0 = .int .i64 (gI r i)) : l.length + k = (l ++ r).length ∧ ∀ i, i < (l ++ r).length → catF l.length (fun i _ => .int .i64 (gI l i)) f i 0 = .int .i64 (gI (l ++ r) i) := by
  obtain ⟨_, _, _, h1, h2⟩ := liV_app (v := 0) hk hf
  exact ⟨h1, fun i hi => h2 i 0 hi Nat.zero_lt_one⟩
def flatBase : BaseF := fun args => match args with
  | [.rptr sz_1 c_1, .rptr sz_2 c_2] => (match c_1 0, c_1 1, c_1 2, c_1 3, c_1 4, c_1 5, c_1 6 with | .row n sz_A f_A, .row h sz_nd f_nd, .row q sz_pr f_pr, .int .i64 st, .int .i64 ro, .int .i64 pk, .int .i64 fr => (match c_2 0 with | .row m sz_B f_B => some ((sz_1 = 7) ∧ (sz_A = 5 ∧ NestR n 5 0 2 f_A) ∧ (sz_nd = 1 ∧ IntR h 1 f_nd) ∧ (sz_pr = 1 ∧ IntR q 1 f_pr) ∧ (sz_2 = 1) ∧ (sz_B = 1 ∧ NestR m 1 0 1 f_B) ∧ (n ≤ 6 ∧ (∀ i, i < n → (nsM 0 f_A) i ≤ 6) ∧ h ≤ 20 ∧ q ≤ 20 ∧ m ≤ 20 ∧ ∀ i, i < m → (nsM 0 f_B) i ≤ 8), .row (flL n (nsA f_A) (nsM 0 f_A) (nsV 0 f_A) h (ivf f_nd) q (ivf f_pr) m (nsM 0 f_B) (nsV 0 f_B)).length 1 (fun i _ => .int .i64 (gI (flL n (nsA f_A) (nsM 0 f_A) (nsV 0 f_A) h (ivf f_nd) q (ivf f_pr) m (nsM 0 f_B) (nsV 0 f_B)) i))) | _ => none) | _, _, _, _, _, _, _ => none)
  | _ => none
theorem flat_eq (sz_1 : Nat) (c_1 : Nat → SV) (sz_2 : Nat) (c_2 : Nat → SV) : flatBase [.rptr sz_1 c_1, .rptr sz_2 c_2] = (match c_1 0, c_1 1, c_1 2, c_1 3, c_1 4, c_1 5, c_1 6 with | .row n sz_A f_A, .row h sz_nd f_nd, .row q sz_pr f_pr, .int .i64 st, .int .i64 ro, .int .i64 pk, .int .i64 fr => (match c_2 0 with | .row m sz_B f_B => some ((sz_1 = 7) ∧ (sz_A = 5 ∧ NestR n 5 0 2 f_A) ∧ (sz_nd = 1 ∧ IntR h 1 f_nd) ∧ (sz_pr = 1 ∧ IntR q 1 f_pr) ∧ (sz_2 = 1) ∧ (sz_B = 1 ∧ NestR m 1 0 1 f_B) ∧ (n ≤ 6 ∧ (∀ i, i < n → (nsM 0 f_A) i ≤ 6) ∧ h ≤ 20 ∧ q ≤ 20 ∧ m ≤ 20 ∧ ∀ i, i < m → (nsM 0 f_B) i ≤ 8), .row (flL n (nsA f_A) (nsM 0 f_A) (nsV 0 f_A) h (ivf f_nd) q (ivf f_pr) m (nsM 0 f_B) (nsV 0 f_B)).length 1 (fun i _ => .int .i64 (gI (flL n (nsA f_A) (nsM 0 f_A) (nsV 0 f_A) h (ivf f_nd) q (ivf f_pr) m (nsM 0 f_B) (nsV 0 f_B)) i))) | _ => none) | _, _, _, _, _, _, _ => none) := rfl
theorem flat_base : BaseO Try.prog 29 3 flatBase := by
  intro args p v hq hp
  unfold flatBase at hq
  split at hq
  rotate_left
  · cases hq
  rename_i sz_1 c_1 sz_2 c_2
  split at hq
  rotate_left
  · cases hq
  rename_i n sz_A f_A h sz_nd f_nd q sz_pr f_pr st ro pk fr h_1_0 h_1_1 h_1_2 h_1_3 h_1_4 h_1_5 h_1_6
  split at hq
  rotate_left
  · cases hq
  rename_i m sz_B f_B h_2_0
  cases hq
  obtain ⟨rfl, ⟨rfl, i_A⟩, ⟨rfl, i_nd⟩, ⟨rfl, i_pr⟩, rfl, ⟨rfl, i_B⟩, pre⟩ := hp
  refine baseO_of (C := cx [] [] [] [(29, 1, p29_1)] none) (cx_ok trivial trivial) rfl (g := 29) (fn := Try.f29)
    (args' := [.rptr 7 (fun j => nth [.row n 5 (nestF 0 2 (nsA f_A) (nsM 0 f_A) (nsV 0 f_A)), .row h 1 (rowF .i64 (ivf f_nd)), .row q 1 (rowF .i64 (ivf f_pr)), .int .i64 st, .int .i64 ro, .int .i64 pk, .int .i64 fr] j), .rptr 1 (fun j => nth [.row m 1 (nestF 0 1 (nsA f_B) (nsM 0 f_B) (nsV 0 f_B))] j)]) (fn_29) rfl 1000 (by
    simp only [BdL, Bd, and_self, and_true, true_and]
    exact ⟨(fun j hj => by
      have hj : j = 0 ∨ j = 1 ∨ j = 2 ∨ j = 3 ∨ j = 4 ∨ j = 5 ∨ j = 6 := by omega
      rcases hj with rfl | rfl | rfl | rfl | rfl | rfl | rfl
      · rw [h_1_0]; simp only [BdL, Bd, and_self, and_true, true_and]; exact (fun i j hi hj => nest_bd i_A i j hi hj)
      · rw [h_1_1]; simp only [BdL, Bd, and_self, and_true, true_and]; exact (fun i j hi hj => by rw [i_nd i j hi hj]; trivial)
      · rw [h_1_2]; simp only [BdL, Bd, and_self, and_true, true_and]; exact (fun i j hi hj => by rw [i_pr i j hi hj]; trivial)
      · rw [h_1_3]; simp only [BdL, Bd, and_self, and_true, true_and]
      · rw [h_1_4]; simp only [BdL, Bd, and_self, and_true, true_and]
      · rw [h_1_5]; simp only [BdL, Bd, and_self, and_true, true_and]
      · rw [h_1_6]; simp only [BdL, Bd, and_self, and_true, true_and]), (fun j hj => by
      have hj : j = 0 := by omega
      rcases hj with rfl
      · rw [h_2_0]; simp only [BdL, Bd, and_self, and_true, true_and]; exact (fun i j hi hj => nest_bd i_B i j hi hj))⟩) ⟨SameD.rptr (fun j hj => by
      have hj : j = 0 ∨ j = 1 ∨ j = 2 ∨ j = 3 ∨ j = 4 ∨ j = 5 ∨ j = 6 := by omega
      rcases hj with rfl | rfl | rfl | rfl | rfl | rfl | rfl
      · rw [h_1_0]; exact SameD.nest i_A
      · rw [h_1_1]; exact SameD.int i_nd
      · rw [h_1_2]; exact SameD.int i_pr
      · rw [h_1_3]; exact SameD.rfl' _
      · rw [h_1_4]; exact SameD.rfl' _
      · rw [h_1_5]; exact SameD.rfl' _
      · rw [h_1_6]; exact SameD.rfl' _), SameD.rptr (fun j hj => by
      have hj : j = 0 := by omega
      rcases hj with rfl
      · rw [h_2_0]; exact SameD.nest i_B), trivial⟩ ?_
  generalize nsA f_A = A at *
  generalize nsM 0 f_A = M at *
  generalize nsV 0 f_A = V at *
  generalize ivf f_nd = nd at *
  generalize ivf f_pr = pr at *
  generalize nsA f_B = B at *
  generalize nsM 0 f_B = K at *
  generalize nsV 0 f_B = W at *
  simp only [rowF_eq]
  simp only [p29_1, nestF_eq, nestR_lit, nsM_lit, nsV_lit, Try.f29, go_sem, ↓reduceIte, Nat.reduceAdd, Nat.reduceSub, Nat.reduceMul, Nat.reduceEqDiff, Nat.reduceLT, Nat.reduceLeDiff, Int.reduceToNat, Int.reduceLE, Int.reduceLT, Int.reduceEq, Int.reduceNeg, reduceCtorEq]
  obtain ⟨p1, p2, p3, p4, p5, p6⟩ := pre
  refine ⟨⟨by kernel_rfl, by kernel_rfl⟩, ⟨by omega, by omega⟩, ⟨by omega, by omega⟩, ?_⟩
  generalize hF : flL n A M V h nd q pr m K W = F
  have ll : ∀ (v : Nat → Nat → Int) k, (lvL v k).length = 2 * k := fun v k => by induction k with | zero => rfl | succ k ih => simp only [lvL, List.length_append, ih, List.length_cons, List.length_nil]; omega
  have pl : ∀ k, k ≤ n → (prL A M V k).length ≤ 16 * k := fun k => by
    induction k with
    | zero => intro _; simp [prL]
    | succ k ih =>
      intro hk
      have h1 := ih (by omega)
      have h2 := p2 k (by omega)
      simp only [prL, List.length_append, ll, List.length_cons, List.length_nil]
      omega
  have kl : ∀ k, k ≤ m → (plL K W k).length ≤ 8 * k := fun k => by
    induction k with
    | zero => intro _; simp [plL]
    | succ k ih =>
      intro hk
      have h1 := ih (by omega)
      have h2 := p6 k (by omega)
      simp only [plL, List.length_append, rwL_len]
      omega
  have hrw : (rwL nd h ++ rwL pr q).length = h + q := by simp only [List.length_append, rwL_len]
  have h0 : subVk (.live 2 3 1 (h + q) (catF h (catF 0 (fun _ _ => .any) fun i j => .int .i64 (nd i j)) fun i j => .int .i64 (pr i j))) (liV 2 ((rwL nd h ++ rwL pr q) ++ [])) := by
    refine ⟨rfl, rfl, rfl, by rw [List.append_nil, hrw], fun a b ha hb => ?_⟩
    rw [List.append_nil, hrw] at ha
    rw [List.append_nil]
    obtain rfl : b = 0 := by omega
    simp only [catF]
    split
    · rename_i hlt
      rw [if_neg (Nat.not_lt_zero _), gI_app1 (by rw [rwL_len]; exact hlt), rwL_at _ hlt, Nat.sub_zero]
    · rename_i hge
      rw [gI_app2 (by rw [rwL_len]; exact hge), rwL_len, rwL_at _ (by omega)]
  simp only [flL] at hF
  generalize rwL nd h ++ rwL pr q = G at *
  have bdR : Bd 0 2 (nth [SV.row m 1 (nestF 0 1 B K W)] 0) := nestF_bd _ _ _ _ _ _ _ _ _
  have bdR4 : Bd 1 4 (nth [SV.row m 1 (nestF 0 1 B K W)] 0) := nestF_bd _ _ _ _ _ _ _ _ _
  have bdl : ∀ L M v l, bdV L M [liV v l] := fun _ _ _ _ => ⟨fun _ _ _ _ => trivial, trivial⟩
  refine loop_ofH { x : Nat × Nat // x.1 ≤ n } (fun x => [(20, .int .i64 (x.1.1 : Int)), (19, .int .i64 (n : Int)), (18, .row n 5 (nestF 0 2 A M V)), (3, .vec 1 x.1.2), (1, .rptr 1 fun j => nth [.row m 1 (nestF 0 1 B K W)] j)])
    (fun h0 x => ⟨h0.blks, setV h0.vecs 1 (liV x.1.2 (G ++ prL A M V x.1.1))⟩) (fun x => n - x.1.1) (fun _ => ⟨rfl, rfl⟩) ⟨(0, 2), Nat.zero_le n⟩ ?_ ?_
  · apply sub_of <;> simp only [go_sem, ↓reduceIte, Nat.reduceAdd, Nat.reduceSub, Nat.reduceMul, Nat.reduceEqDiff, Nat.reduceLT, Nat.reduceLeDiff, Int.reduceToNat, Int.reduceLE, Int.reduceLT, Int.reduceEq, Int.reduceNeg, reduceCtorEq] <;> (try simp)
    · exact h0
    · exact ⟨fun i j _ _ => nestF_bd1 _ _ _ _ _ _ _ i j, bdR⟩
    · exact bdl _ _ _ _
  rintro ⟨⟨i, v⟩, hi⟩
  simp only at hi ⊢
  by_cases ik : i < n
  · have e1 : decide ((i : Int) < (n : Int)) = true := decide_eq_true (by omega)
    have hl := pl i hi
    have hMi := p2 i ik
    simp only [e1, liV, Int.toNat_natCast, p29_1, nestF_eq, nestR_lit, nsM_lit, nsV_lit, Try.f29, go_sem, ↓reduceIte, Nat.reduceAdd, Nat.reduceSub, Nat.reduceMul, Nat.reduceEqDiff, Nat.reduceLT, Nat.reduceLeDiff, Int.reduceToNat, Int.reduceLE, Int.reduceLT, Int.reduceEq, Int.reduceNeg, reduceCtorEq]
    refine ⟨⟨by omega, by omega⟩, ⟨by simp only [List.length_append]; omega, by simp only [List.length_append]; omega⟩, ?_⟩
    refine loop_ofH { x : Nat × Nat // x.1 ≤ M i } (fun x => [(38, .int .i64 (x.1.1 : Int)), (37, .int .i64 (M i : Int)), (36, .row (M i) 2 fun a b => .int .i64 (V i a b)), (20, .int .i64 (i : Int)), (19, .int .i64 (n : Int)), (18, .row n 5 (nestF 0 2 A M V)), (3, .vec 1 x.1.2), (1, .rptr 1 fun j => nth [.row m 1 (nestF 0 1 B K W)] j)])
      (fun h0 x => ⟨h0.blks, setV h0.vecs 1 (liV x.1.2 (((G ++ prL A M V i) ++ [A i 1, A i 2, A i 3, A i 4]) ++ lvL (V i) x.1.1))⟩) (fun x => M i - x.1.1) (fun _ => ⟨rfl, rfl⟩) ⟨(0, v + 1), Nat.zero_le _⟩ ?_ ?_
    · apply sub_of <;> simp only [lvL, List.append_nil, go_sem, ↓reduceIte, Nat.reduceAdd, Nat.reduceSub, Nat.reduceMul, Nat.reduceEqDiff, Nat.reduceLT, Nat.reduceLeDiff, Int.reduceToNat, Int.reduceLE, Int.reduceLT, Int.reduceEq, Int.reduceNeg, reduceCtorEq] <;> (try simp [-List.append_assoc, -List.length_append])
      · exact liV_app (l := G ++ prL A M V i) (r := [A i 1, A i 2, A i 3, A i 4]) rfl (fun x hx => by rcases (by omega : x = 0 ∨ x = 1 ∨ x = 2 ∨ x = 3) with rfl | rfl | rfl | rfl <;> rfl)
      · exact ⟨fun i j _ _ => nestF_bd1 _ _ _ _ _ _ _ i j, bdR4⟩
      · exact ⟨fun _ _ _ _ => trivial, fun _ _ _ _ => trivial, fun x y hx hy => by
          obtain rfl : y = 0 := by omega
          rcases (by omega : x = 0 ∨ x = 1 ∨ x = 2 ∨ x = 3) with rfl | rfl | rfl | rfl <;> trivial, trivial⟩
    rintro ⟨⟨j, v⟩, hj⟩
    simp only at hj ⊢
    by_cases jk : j < M i
    · have e2 : decide ((j : Int) < (M i : Int)) = true := decide_eq_true (by omega)
      simp only [e2, liV, Int.toNat_natCast, p29_1, nestF_eq, nestR_lit, nsM_lit, nsV_lit, Try.f29, go_sem, ↓reduceIte, Nat.reduceAdd, Nat.reduceSub, Nat.reduceMul, Nat.reduceEqDiff, Nat.reduceLT, Nat.reduceLeDiff, Int.reduceToNat, Int.reduceLE, Int.reduceLT, Int.reduceEq, Int.reduceNeg, reduceCtorEq]
      refine ⟨⟨by omega, by omega⟩, ⟨by simp only [List.length_append, ll, List.length_cons, List.length_nil]; omega, by simp only [List.length_append, ll, List.length_cons, List.length_nil]; omega⟩, ⟨(j + 1, v + 1), by simp only []; omega⟩, by simp only []; omega, ?_⟩
      have e4 : G ++ prL A M V i ++ [A i 1, A i 2, A i 3, A i 4] ++ lvL (V i) (j + 1) = (G ++ prL A M V i ++ [A i 1, A i 2, A i 3, A i 4] ++ lvL (V i) j) ++ [V i j 0, V i j 1] := by simp only [lvL, List.append_assoc]
      apply sub_of <;> simp only [wrap_s jk (show M i ≤ 1000000 by omega), e4, go_sem, ↓reduceIte, Nat.reduceAdd, Nat.reduceSub, Nat.reduceMul, Nat.reduceEqDiff, Nat.reduceLT, Nat.reduceLeDiff, Int.reduceToNat, Int.reduceLE, Int.reduceLT, Int.reduceEq, Int.reduceNeg, reduceCtorEq] <;> (try simp [-List.append_assoc, -List.length_append])
      · exact liV_app' (l := G ++ prL A M V i ++ [A i 1, A i 2, A i 3, A i 4] ++ lvL (V i) j) (r := [V i j 0, V i j 1]) rfl (fun x hx => by rcases (by omega : x = 0 ∨ x = 1) with rfl | rfl <;> rfl)
      · exact ⟨fun i j _ _ => nestF_bd1 _ _ _ _ _ _ _ i j, bdR4⟩
      · intro x hx
        rcases (by omega : x = 0 ∨ x = 1 ∨ x = 2 ∨ x = 3) with rfl | rfl | rfl | rfl <;> trivial
    · obtain rfl : j = M i := by omega
      have e2 : decide ((M i : Int) < (M i : Int)) = false := decide_eq_false (by omega)
      simp only [e2, liV, Int.toNat_natCast, p29_1, nestF_eq, nestR_lit, nsM_lit, nsV_lit, Try.f29, go_sem, ↓reduceIte, Nat.reduceAdd, Nat.reduceSub, Nat.reduceMul, Nat.reduceEqDiff, Nat.reduceLT, Nat.reduceLeDiff, Int.reduceToNat, Int.reduceLE, Int.reduceLT, Int.reduceEq, Int.reduceNeg, reduceCtorEq]
      refine ⟨⟨(i + 1, v), by simp only []; omega⟩, by simp only []; omega, ?_⟩
      have e3 : G ++ prL A M V i ++ [A i 1, A i 2, A i 3, A i 4] ++ lvL (V i) (M i) = G ++ prL A M V (i + 1) := by simp only [prL, List.append_assoc]
      apply sub_of <;> simp only [wrap_s ik (show n ≤ 1000000 by omega), e3, go_sem, ↓reduceIte, Nat.reduceAdd, Nat.reduceSub, Nat.reduceMul, Nat.reduceEqDiff, Nat.reduceLT, Nat.reduceLeDiff, Int.reduceToNat, Int.reduceLE, Int.reduceLT, Int.reduceEq, Int.reduceNeg, reduceCtorEq] <;> (try simp [-List.append_assoc, -List.length_append])
      · exact ⟨fun i j _ _ => nestF_bd1 _ _ _ _ _ _ _ i j, bdR⟩
  · obtain rfl : i = n := by omega
    have e1 : decide ((i : Int) < (i : Int)) = false := decide_eq_false (by omega)
    have hl := pl i hi
    simp only [e1, liV, Int.toNat_natCast, p29_1, nestF_eq, nestR_lit, nsM_lit, nsV_lit, Try.f29, go_sem, ↓reduceIte, Nat.reduceAdd, Nat.reduceSub, Nat.reduceMul, Nat.reduceEqDiff, Nat.reduceLT, Nat.reduceLeDiff, Int.reduceToNat, Int.reduceLE, Int.reduceLT, Int.reduceEq, Int.reduceNeg, reduceCtorEq]
    refine loop_ofH { x : Nat × Nat // x.1 ≤ m } (fun x => [(53, .int .i64 (x.1.1 : Int)), (52, .int .i64 (m : Int)), (51, .row m 1 (nestF 0 1 B K W)), (3, .vec 1 x.1.2)])
      (fun h0 x => ⟨h0.blks, setV h0.vecs 1 (liV x.1.2 ((G ++ prL A M V i) ++ plL K W x.1.1))⟩) (fun x => m - x.1.1) (fun _ => ⟨rfl, rfl⟩) ⟨(0, v), Nat.zero_le _⟩ ?_ ?_
    · apply sub_of <;> simp only [plL, List.append_nil, go_sem, ↓reduceIte, Nat.reduceAdd, Nat.reduceSub, Nat.reduceMul, Nat.reduceEqDiff, Nat.reduceLT, Nat.reduceLeDiff, Int.reduceToNat, Int.reduceLE, Int.reduceLT, Int.reduceEq, Int.reduceNeg, reduceCtorEq] <;> (try simp [-List.append_assoc, -List.length_append])
      · exact subVk_rfl _
      · exact fun x hx => nestF_bd1 _ _ _ _ _ _ _ _ _
      · exact bdl _ _ _ _
    rintro ⟨⟨j, v⟩, hj⟩
    simp only at hj ⊢
    by_cases jk : j < m
    · have e2 : decide ((j : Int) < (m : Int)) = true := decide_eq_true (by omega)
      simp only [e2, liV, Int.toNat_natCast, p29_1, nestF_eq, nestR_lit, nsM_lit, nsV_lit, Try.f29, go_sem, ↓reduceIte, Nat.reduceAdd, Nat.reduceSub, Nat.reduceMul, Nat.reduceEqDiff, Nat.reduceLT, Nat.reduceLeDiff, Int.reduceToNat, Int.reduceLE, Int.reduceLT, Int.reduceEq, Int.reduceNeg, reduceCtorEq]
      have hk := kl j hj
      have hKj := p6 j jk
      have e4 : G ++ prL A M V i ++ plL K W (j + 1) = (G ++ prL A M V i ++ plL K W j) ++ rwL (W j) (K j) := by simp only [plL, List.append_assoc]
      refine ⟨⟨by omega, by omega⟩, ⟨by simp only [List.length_append]; omega, by simp only [List.length_append]; omega⟩, ⟨(j + 1, v + 1), by simp only []; omega⟩, by simp only []; omega, ?_⟩
      apply sub_of <;> simp only [wrap_s jk (show m ≤ 1000000 by omega), e4, go_sem, ↓reduceIte, Nat.reduceAdd, Nat.reduceSub, Nat.reduceMul, Nat.reduceEqDiff, Nat.reduceLT, Nat.reduceLeDiff, Int.reduceToNat, Int.reduceLE, Int.reduceLT, Int.reduceEq, Int.reduceNeg, reduceCtorEq] <;> (try simp [-List.append_assoc, -List.length_append])
      · exact liV_app' (l := G ++ prL A M V i ++ plL K W j) (r := rwL (W j) (K j)) (rwL_len _ _).symm (fun x hx => by rw [rwL_at _ hx])
      all_goals exact fun x hx => nestF_bd1 _ _ _ _ _ _ _ _ _
    · obtain rfl : j = m := by omega
      have e2 : decide ((j : Int) < (j : Int)) = false := decide_eq_false (by omega)
      simp only [e2, liV, Int.toNat_natCast, p29_1, nestF_eq, nestR_lit, nsM_lit, nsV_lit, Try.f29, go_sem, ↓reduceIte, Nat.reduceAdd, Nat.reduceSub, Nat.reduceMul, Nat.reduceEqDiff, Nat.reduceLT, Nat.reduceLeDiff, Int.reduceToNat, Int.reduceLE, Int.reduceLT, Int.reduceEq, Int.reduceNeg, reduceCtorEq]
      subst hF
      exact ⟨rfl, fun _ _ _ _ => rfl⟩
end Go.Eng
end

/- press: the reference checks plans. -/
section
namespace Go.Eng
open Go Go.RowKit Go.Proofs
set_option maxRecDepth 100000
set_option maxHeartbeats 4000000
attribute [local irreducible] OwnT DefS
structure CR where
  (e : Int) (hr : Nat) (s : RS)
end Go.Eng
end

/- press: what is left behind some hours. -/
section
namespace Go.Eng
open Go Go.RowKit Go.Proofs
set_option maxRecDepth 100000
set_option maxHeartbeats 4000000
attribute [local irreducible] OwnT DefS
def bhE (D : PD) (b : Bool) (m : Nat) (K : Nat → Nat) (W : Nat → Nat → Nat → Int) : Int :=
  if b then (if m ≤ D.h ∧ rdB D.n D.M m K W = true then (plM D (fun i => chT D.n (W i)) m).e else 2) else 1
def bhP (D : PD) (m : Nat) (s : PS) : PD :=
  { D with A := fun i j => if j = 4 then s.on.get i else D.A i j, h := D.h - m, nd := fun i j => D.nd (m + i) j, pr := fun i j => D.pr (m + i) j, st := s.sto }
def pd0 : PD := ⟨0, fun _ _ => 0, fun _ => 0, fun _ _ _ => 0, 0, fun _ _ => 0, fun _ _ => 0, 0, 0, 0, 0⟩
def bhX (D : PD) (b : Bool) (m : Nat) (K : Nat → Nat) (W : Nat → Nat → Nat → Int) : PD :=
  if bhE D b m K W = 0 then bhP D m (plM D (fun i => chT D.n (W i)) m).s else pd0
theorem catF_nil (F G : Nat → Nat → SV) : catF 0 F G = G := by
  funext i j; simp only [catF, Nat.not_lt_zero, if_false, Nat.sub_zero]
/-- The compressors, of which the first k have run as is told. -/
def bhA (A : Nat → Nat → Int) (on : Nat → Int) (k : Nat) : Nat → Nat → Int := fun i j => if j = 4 ∧ i < k then on i else A i j
theorem bhA_0 (A : Nat → Nat → Int) (on : Nat → Int) : bhA A on 0 = A := by
  funext i j; simp only [bhA, Nat.not_lt_zero, and_false, if_false]
theorem bhA_next {A : Nat → Nat → Int} {M : Nat → Nat} {V : Nat → Nat → Nat → Int} {on : Nat → Int} {k n : Nat} (i j : Nat) (_ : i < n) (hj : j < 5) : (if i = k ∧ 4 ≤ j ∧ j < 5 then nth [.int .i64 (on k)] (j - 4) else nestF 0 2 (bhA A on k) M V i j) = nestF 0 2 (bhA A on (k + 1)) M V i j := by
  by_cases h4 : j = 4
  · subst h4
    by_cases hi : i = k
    · subst hi
      rw [if_pos ⟨rfl, by omega, by omega⟩]
      simp only [nth, nestF, bhA, Nat.lt_succ_self, and_self, if_true]
      rfl
    · rw [if_neg (fun h => hi h.1)]
      have : bhA A on k i 4 = bhA A on (k + 1) i 4 := by
        simp only [bhA, true_and]
        by_cases hk : i < k
        · rw [if_pos hk, if_pos (by omega)]
        · rw [if_neg hk, if_neg (by omega)]
      simp only [nestF, this]
  · rw [if_neg (fun h => h4 (by omega))]
    simp only [nestF, bhA, h4, false_and, if_false]
end Go.Eng
end

/- press: the program's rest behind some hours. -/
section
namespace Go.Eng
open Go Go.RowKit Go.Proofs
set_option maxRecDepth 100000
set_option maxHeartbeats 4000000
attribute [local irreducible] OwnT DefS
def cloneIBase : BaseF := fun args => match args with
  | [.row n sz_a f_a] => some ((sz_a = 1 ∧ IntR n 1 f_a) ∧ (n ≤ 1000000), .row n 1 (fun i j => .int .i64 ((ivf f_a) i j)))
  | _ => none
theorem cloneI_eq (n : Nat) (sz_a : Nat) (f_a : Nat → Nat → SV) : cloneIBase [.row n sz_a f_a] = some ((sz_a = 1 ∧ IntR n 1 f_a) ∧ (n ≤ 1000000), .row n 1 (fun i j => .int .i64 ((ivf f_a) i j))) := rfl
theorem cloneI_base : NB Try.prog 36 cloneIBase := by
  intro args p v hq hp
  unfold cloneIBase at hq
  split at hq
  rotate_left
  · cases hq
  rename_i n sz_a f_a
  cases hq
  obtain ⟨⟨rfl, i_a⟩, pre⟩ := hp
  refine nb_of (C := cx [] [] [] [] none) (cx_ok trivial trivial) rfl (g := 36) (fn := Try.f36)
    (args' := [.row n 1 (rowF .i64 (ivf f_a))]) (fn_36) rfl 1000 (by
    simp only [BdL, Bd, and_self, and_true, true_and]
    exact (fun i j hi hj => by rw [i_a i j hi hj]; trivial)) ⟨SameD.int i_a, trivial⟩ (by simp only [Bd, BdL, and_self, implies_true]) ?_
  generalize ivf f_a = a at *
  simp only [rowF_eq]
  simp only [catF_nil, Try.f36, go_sem, ↓reduceIte, Nat.reduceAdd, Nat.reduceSub, Nat.reduceMul, Nat.reduceEqDiff, Nat.reduceLT, Nat.reduceLeDiff, Int.reduceToNat, Int.reduceLE, Int.reduceLT, Int.reduceEq, Int.reduceNeg, reduceCtorEq]
  refine ⟨fun e => ?_, ⟨by omega, by omega⟩, fun _ _ _ _ => trivial, SameD.rfl' _⟩
  subst e
  exact ⟨fun _ _ _ _ => trivial, SameD.row0⟩
def cloneLBase : BaseF := fun args => match args with
  | [.row n sz_a f_a] => some ((sz_a = 2 ∧ IntR n 2 f_a) ∧ (n ≤ 1000000), .row n 2 (fun i j => .int .i64 ((ivf f_a) i j)))
  | _ => none
theorem cloneL_eq (n : Nat) (sz_a : Nat) (f_a : Nat → Nat → SV) : cloneLBase [.row n sz_a f_a] = some ((sz_a = 2 ∧ IntR n 2 f_a) ∧ (n ≤ 1000000), .row n 2 (fun i j => .int .i64 ((ivf f_a) i j))) := rfl
theorem cloneL_base : NB Try.prog 49 cloneLBase := by
  intro args p v hq hp
  unfold cloneLBase at hq
  split at hq
  rotate_left
  · cases hq
  rename_i n sz_a f_a
  cases hq
  obtain ⟨⟨rfl, i_a⟩, pre⟩ := hp
  refine nb_of (C := cx [] [] [] [] none) (cx_ok trivial trivial) rfl (g := 49) (fn := Try.f49)
    (args' := [.row n 2 (rowF .i64 (ivf f_a))]) (fn_49) rfl 1000 (by
    simp only [BdL, Bd, and_self, and_true, true_and]
    exact (fun i j hi hj => by rw [i_a i j hi hj]; trivial)) ⟨SameD.int i_a, trivial⟩ (by simp only [Bd, BdL, and_self, implies_true]) ?_
  generalize ivf f_a = a at *
  simp only [rowF_eq]
  simp only [catF_nil, Try.f49, go_sem, ↓reduceIte, Nat.reduceAdd, Nat.reduceSub, Nat.reduceMul, Nat.reduceEqDiff, Nat.reduceLT, Nat.reduceLeDiff, Int.reduceToNat, Int.reduceLE, Int.reduceLT, Int.reduceEq, Int.reduceNeg, reduceCtorEq]
  refine ⟨fun e => ?_, ⟨by omega, by omega⟩, fun _ _ _ _ => trivial, SameD.rfl' _⟩
  subst e
  exact ⟨fun _ _ _ _ => trivial, SameD.row0⟩
theorem chF_bd (n : Nat) (W : Nat → Nat → Nat → Int) (L K i j : Nat) : Bd L K (chF n W i j) := by simp only [chF, Bd]
def behindBase : BaseF := fun args => match args with
  | [.agg [.row n sz_A f_A, .row h sz_nd f_nd, .row q sz_pr f_pr, .int .i64 st, .int .i64 ro, .int .i64 pk, .int .i64 fr], .row m sz_B f_B] => some ((sz_A = 5 ∧ NestR n 5 0 2 f_A) ∧ (sz_nd = 1 ∧ IntR h 1 f_nd) ∧ (sz_pr = 1 ∧ IntR q 1 f_pr) ∧ (sz_B = 1 ∧ NestR m 1 0 1 f_B) ∧ (((n ≤ 1000000 ∧ ∀ i, i < n → (nsM 0 f_A) i ≤ 1000000) ∧ h ≤ 1000000 ∧ q ≤ 1000000) ∧ m ≤ 1000000 ∧ ∀ i, i < m → (nsM 0 f_B) i ≤ 1000000), .tup [.agg (prC (bhX ⟨n, (nsA f_A), (nsM 0 f_A), (nsV 0 f_A), h, (ivf f_nd), (ivf f_pr), st, ro, pk, fr⟩ (psB n (nsA f_A) (nsM 0 f_A) (nsV 0 f_A) h (ivf f_nd) q (ivf f_pr) st ro pk fr) m (nsM 0 f_B) (nsV 0 f_B))), .int .i64 (bhE ⟨n, (nsA f_A), (nsM 0 f_A), (nsV 0 f_A), h, (ivf f_nd), (ivf f_pr), st, ro, pk, fr⟩ (psB n (nsA f_A) (nsM 0 f_A) (nsV 0 f_A) h (ivf f_nd) q (ivf f_pr) st ro pk fr) m (nsM 0 f_B) (nsV 0 f_B))])
  | _ => none
theorem behind_eq (n : Nat) (sz_A : Nat) (f_A : Nat → Nat → SV) (h : Nat) (sz_nd : Nat) (f_nd : Nat → Nat → SV) (q : Nat) (sz_pr : Nat) (f_pr : Nat → Nat → SV) (st : Int) (ro : Int) (pk : Int) (fr : Int) (m : Nat) (sz_B : Nat) (f_B : Nat → Nat → SV) : behindBase [.agg [.row n sz_A f_A, .row h sz_nd f_nd, .row q sz_pr f_pr, .int .i64 st, .int .i64 ro, .int .i64 pk, .int .i64 fr], .row m sz_B f_B] = some ((sz_A = 5 ∧ NestR n 5 0 2 f_A) ∧ (sz_nd = 1 ∧ IntR h 1 f_nd) ∧ (sz_pr = 1 ∧ IntR q 1 f_pr) ∧ (sz_B = 1 ∧ NestR m 1 0 1 f_B) ∧ (((n ≤ 1000000 ∧ ∀ i, i < n → (nsM 0 f_A) i ≤ 1000000) ∧ h ≤ 1000000 ∧ q ≤ 1000000) ∧ m ≤ 1000000 ∧ ∀ i, i < m → (nsM 0 f_B) i ≤ 1000000), .tup [.agg (prC (bhX ⟨n, (nsA f_A), (nsM 0 f_A), (nsV 0 f_A), h, (ivf f_nd), (ivf f_pr), st, ro, pk, fr⟩ (psB n (nsA f_A) (nsM 0 f_A) (nsV 0 f_A) h (ivf f_nd) q (ivf f_pr) st ro pk fr) m (nsM 0 f_B) (nsV 0 f_B))), .int .i64 (bhE ⟨n, (nsA f_A), (nsM 0 f_A), (nsV 0 f_A), h, (ivf f_nd), (ivf f_pr), st, ro, pk, fr⟩ (psB n (nsA f_A) (nsM 0 f_A) (nsV 0 f_A) h (ivf f_nd) q (ivf f_pr) st ro pk fr) m (nsM 0 f_B) (nsV 0 f_B))]) := rfl
theorem behind_base : NB Try.prog 24 behindBase := by
  intro args p v hq hp
  unfold behindBase at hq
  split at hq
  rotate_left
  · cases hq
  rename_i n sz_A f_A h sz_nd f_nd q sz_pr f_pr st ro pk fr m sz_B f_B
  cases hq
  obtain ⟨⟨rfl, i_A⟩, ⟨rfl, i_nd⟩, ⟨rfl, i_pr⟩, ⟨rfl, i_B⟩, pre⟩ := hp
  refine nb_of (C := cxn [] [(36, cloneIBase), (49, cloneLBase)] [(43, 63, readBase)] [(31, arePsBase), (44, playBase)] [(24, 13, p24_13), (24, 16, p24_16)] none) (cxn_ok ⟨cloneI_base, cloneL_base, trivial⟩ ⟨read_base, trivial⟩ ⟨arePs_base, play_base, trivial⟩) rfl (g := 24) (fn := Try.f24)
    (args' := [.agg [.row n 5 (nestF 0 2 (nsA f_A) (nsM 0 f_A) (nsV 0 f_A)), .row h 1 (rowF .i64 (ivf f_nd)), .row q 1 (rowF .i64 (ivf f_pr)), .int .i64 st, .int .i64 ro, .int .i64 pk, .int .i64 fr], .row m 1 (nestF 0 1 (nsA f_B) (nsM 0 f_B) (nsV 0 f_B))]) (fn_24) rfl 1000 (by
    simp only [BdL, Bd, and_self, and_true, true_and]
    exact ⟨⟨(fun i j hi hj => nest_bd i_A i j hi hj), (fun i j hi hj => by rw [i_nd i j hi hj]; trivial), (fun i j hi hj => by rw [i_pr i j hi hj]; trivial)⟩, (fun i j hi hj => nest_bd i_B i j hi hj)⟩) ⟨SameD.agg ⟨SameD.nest i_A, SameD.int i_nd, SameD.int i_pr, SameD.rfl' _, SameD.rfl' _, SameD.rfl' _, SameD.rfl' _, trivial⟩, SameD.nest i_B, trivial⟩ (by simp only [Bd, BdL, and_true]; exact prC_bd _ _ _) ?_
  generalize nsA f_A = A at *
  generalize nsM 0 f_A = M at *
  generalize nsV 0 f_A = V at *
  generalize ivf f_nd = nd at *
  generalize ivf f_pr = pr at *
  generalize nsA f_B = B at *
  generalize nsM 0 f_B = K at *
  generalize nsV 0 f_B = W at *
  simp only [rowF_eq]
  simp only [arePs_eq, play_eq, cloneI_eq, cloneL_eq, read_eq, p24_13, p24_16, Try.f48, catF_nil, nestF_eq, nestR_lit, nsM_lit, nsV_lit, psS, onI_ns, psB_ns, chF, chT_eta, plM_ns, plO_ns, Ok_ns, Try.f24, go_sem, ↓reduceIte, Nat.reduceAdd, Nat.reduceSub, Nat.reduceMul, Nat.reduceEqDiff, Nat.reduceLT, Nat.reduceLeDiff, Int.reduceToNat, Int.reduceLE, Int.reduceLT, Int.reduceEq, Int.reduceNeg, reduceCtorEq]
  obtain ⟨pre, pm, pK⟩ := pre
  generalize hb : psB n A M V h nd q pr st ro pk fr = b
  have bad : ∀ {D : PD} {m : Nat} {K : Nat → Nat} {W : Nat → Nat → Nat → Int} {e : Int}, e ≠ 0 → bhE D b m K W = e → SameD (.tup [.agg [.row 0 5 fun _ _ => .any, .row 0 1 fun _ _ => .any, .row 0 1 fun _ _ => .any, .int .i64 0, .int .i64 0, .int .i64 0, .int .i64 0], .int .i64 e]) (.tup [.agg (prC (bhX D b m K W)), .int .i64 (bhE D b m K W)]) := fun h0 h => by
    rw [bhX, h, if_neg h0]
    apply SameD.tup
    exact ⟨SameD.agg ⟨SameD.row0, SameD.row0, SameD.row0, SameD.rfl' _, SameD.rfl' _, SameD.rfl' _, SameD.rfl' _, trivial⟩, SameD.rfl' _, trivial⟩
  refine ⟨pre, fun c1 => ?_, fun c1 => ?_⟩
  · obtain rfl : b = false := by simpa using c1
    exact ⟨⟨fun _ _ _ _ => trivial, fun _ _ _ _ => trivial⟩, bad (by decide) rfl⟩
  obtain rfl : b = true := by simpa using c1
  obtain ⟨rfl, hOk⟩ := psB_iff.1 hb
  generalize hD : (⟨n, A, M, V, q, nd, pr, st, ro, pk, fr⟩ : PD) = D at hOk ⊢
  have d0 : n = D.n := by rw [← hD]
  have d1 : A = D.A := by rw [← hD]
  have d2 : M = D.M := by rw [← hD]
  have d3 : V = D.V := by rw [← hD]
  have d4 : q = D.h := by rw [← hD]
  have d5 : nd = D.nd := by rw [← hD]
  have d6 : pr = D.pr := by rw [← hD]
  have d7 : st = D.st := by rw [← hD]
  have d8 : ro = D.ro := by rw [← hD]
  have d9 : pk = D.pk := by rw [← hD]
  have d10 : fr = D.fr := by rw [← hD]
  clear hD
  subst d0 d1 d2 d3 d4 d5 d6 d7 d8 d9 d10
  have hn := hOk.n
  have hh := hOk.h
  refine ⟨⟨by omega, by omega, pm, pK⟩, fun c2 => ?_, fun c2 => ⟨fun c3 => ?_, fun c3 => ?_⟩⟩
  · exact ⟨⟨fun _ _ _ _ => trivial, fun _ _ _ _ => trivial⟩, bad (by decide) (by simp only [Bool.not_eq_true'] at c2; simp only [bhE, if_true, c2]; simp)⟩
  · exact ⟨⟨fun _ _ _ _ => trivial, fun _ _ _ _ => trivial⟩, bad (by decide) (by simp only [decide_eq_true_eq] at c3; simp only [bhE, if_true]; rw [if_neg (by omega)])⟩
  simp only [Bool.not_eq_false', decide_eq_false_iff_not] at c2 c3
  have hmh : m ≤ D.h := by omega
  have hch : ∀ i, i < m → chOk D (chT D.n (W i)) := fun i hi => chT_ok hOk c2 hi
  have hE : bhE D true m K W = (plM D (fun i => chT D.n (W i)) m).e := by simp only [bhE, if_true]; rw [if_pos ⟨hmh, c2⟩]
  have hpl := plM_ok hOk (C := fun i => chT D.n (W i)) m hmh hch
  have hbad := plM_bad (D := D) (C := fun i => chT D.n (W i)) m
  simp only [c2, if_true]
  refine ⟨⟨trivial, hOk, hmh, fun i hi => hch i hi⟩, ?_⟩
  have hX : (plM D (fun i => chT D.n (W i)) m).e = 0 → bhX D true m K W = bhP D m (plM D (fun i => chT D.n (W i)) m).s := fun h => by rw [bhX, hE, if_pos h]
  generalize plM D (fun i => chT D.n (W i)) m = r at hE hX hpl hbad ⊢
  by_cases he : r.e = 0
  rotate_left
  · obtain ⟨b1, b2, b3⟩ := hbad he
    simp only [plO, if_neg he, arePs_eq, play_eq, cloneI_eq, cloneL_eq, read_eq, p24_13, p24_16, Try.f48, catF_nil, nestF_eq, nestR_lit, nsM_lit, nsV_lit, psS, onI_ns, psB_ns, chF, chT_eta, plM_ns, plO_ns, Ok_ns, Try.f24, go_sem, ↓reduceIte, Nat.reduceAdd, Nat.reduceSub, Nat.reduceMul, Nat.reduceEqDiff, Nat.reduceLT, Nat.reduceLeDiff, Int.reduceToNat, Int.reduceLE, Int.reduceLT, Int.reduceEq, Int.reduceNeg, reduceCtorEq]
    have hd : decide (r.e = 0) = false := decide_eq_false he
    simp only [hd, go_sem, ↓reduceIte, Nat.reduceAdd, Nat.reduceSub, Nat.reduceMul, Nat.reduceEqDiff, Nat.reduceLT, Nat.reduceLeDiff, Int.reduceToNat, Int.reduceLE, Int.reduceLT, Int.reduceEq, Int.reduceNeg, reduceCtorEq]
    exact ⟨⟨fun _ _ _ _ => trivial, fun _ _ _ _ => trivial⟩, bad he hE⟩
  rw [hX he, hE, he]
  obtain ⟨p1, _, _⟩ := hpl he
  simp only [plO, he, if_true, arePs_eq, play_eq, cloneI_eq, cloneL_eq, read_eq, p24_13, p24_16, Try.f48, catF_nil, nestF_eq, nestR_lit, nsM_lit, nsV_lit, psS, onI_ns, psB_ns, chF, chT_eta, plM_ns, plO_ns, Ok_ns, Try.f24, go_sem, ↓reduceIte, Nat.reduceAdd, Nat.reduceSub, Nat.reduceMul, Nat.reduceEqDiff, Nat.reduceLT, Nat.reduceLeDiff, Int.reduceToNat, Int.reduceLE, Int.reduceLT, Int.reduceEq, Int.reduceNeg, reduceCtorEq]
  refine ⟨fun h0 => absurd h0 (by omega), ⟨by omega, by omega⟩, ?_⟩
  refine loop_ofH { k : Nat // k ≤ D.n } (fun k => [(51, .int .i64 (k.1 : Int)), (50, .int .i64 (D.n : Int)), (8, .ptr 2 0), (4, .ptr 1 0), (2, .ptr 0 0), (1, .row m 1 (nestF 0 1 B K W))])
    (fun h k => ⟨h.blks, setV h.vecs 5 (.live 1 46 5 D.n (nestF 0 2 (bhA D.A r.s.on.get k.1) D.M D.V))⟩) (fun k => D.n - k.1) (fun _ => ⟨rfl, by simp only [lenV_set]⟩) ⟨0, by omega⟩ (by simp only [bhA_0]; (apply sub_of <;> simp only [go_sem, ↓reduceIte, Nat.reduceAdd, Nat.reduceSub, Nat.reduceMul, Nat.reduceEqDiff, Nat.reduceLT, Nat.reduceLeDiff, Int.reduceToNat, Int.reduceLE, Int.reduceLT, Int.reduceEq, Int.reduceNeg, reduceCtorEq] <;> (try simp [catF])); all_goals (repeat' first | assumption | exact nestF_bd _ _ _ _ _ _ _ _ _ | exact nestF_bd1 _ _ _ _ _ _ _ _ _ | exact fun _ _ => nestF_bd1 _ _ _ _ _ _ _ _ _ | exact fun _ _ _ _ => nestF_bd1 _ _ _ _ _ _ _ _ _ | exact fun x hx => catF_one _ hx | refine And.intro ?_ ?_); all_goals exact fun i j _ _ => chF_bd _ _ _ _ i j) ?_
  rintro ⟨k, hk⟩
  rcases Nat.lt_or_ge k D.n with hkn | hkn
  · have n5 := fun y z => T3.nth5 r.s.on y z (show k < 3 by omega)
    simp only [n5, arePs_eq, play_eq, cloneI_eq, cloneL_eq, read_eq, p24_13, p24_16, Try.f48, catF_nil, nestF_eq, nestR_lit, nsM_lit, nsV_lit, psS, onI_ns, psB_ns, chF, chT_eta, plM_ns, plO_ns, Ok_ns, Try.f24, go_sem, ↓reduceIte, Nat.reduceAdd, Nat.reduceSub, Nat.reduceMul, Nat.reduceEqDiff, Nat.reduceLT, Nat.reduceLeDiff, Int.reduceToNat, Int.reduceLE, Int.reduceLT, Int.reduceEq, Int.reduceNeg, reduceCtorEq]
    have hw3 : IntKind.i64.wrap ((k : Int) + 1) = ((k + 1 : Nat) : Int) := by rw [wrap_id (by omega) (by omega)]; omega
    refine ⟨fun e1 => ?_, fun e1 => absurd (of_decide_eq_false e1) (by omega)⟩
    have hM := (hOk.M k hkn).2
    refine ⟨⟨by kernel_rfl, by kernel_rfl⟩, ⟨by omega, by omega⟩, by omega, ⟨by omega, by omega⟩, by omega, by omega, ⟨by omega, by omega⟩, by omega, ⟨by omega, by omega⟩, by omega, ⟨k + 1, by omega⟩, by simp only []; omega, ?_⟩
    apply sub_of <;> simp only [hw3, go_sem, ↓reduceIte, Nat.reduceAdd, Nat.reduceSub, Nat.reduceMul, Nat.reduceEqDiff, Nat.reduceLT, Nat.reduceLeDiff, Int.reduceToNat, Int.reduceLE, Int.reduceLT, Int.reduceEq, Int.reduceNeg, reduceCtorEq] <;> (try simp)
    · intro i j hi hj
      by_cases h0 : i = k ∧ j = 0
      · obtain ⟨rfl, rfl⟩ := h0
        rw [if_pos ⟨rfl, rfl⟩]
        simp only [nestF, nth, if_true]
      · rw [if_neg h0]
        exact bhA_next i j hi hj
    all_goals (repeat' first | assumption | exact nestF_bd _ _ _ _ _ _ _ _ _ | exact nestF_bd1 _ _ _ _ _ _ _ _ _ | exact fun _ _ => nestF_bd1 _ _ _ _ _ _ _ _ _ | exact fun _ _ _ _ => nestF_bd1 _ _ _ _ _ _ _ _ _ | exact fun x hx => catF_one _ hx | refine And.intro ?_ ?_)
    all_goals first | exact fun i j _ _ => chF_bd _ _ _ _ i j | exact ⟨fun i j _ _ => chF_bd _ _ _ _ i j, fun i j _ _ => nestF_bd1 _ _ _ _ _ _ _ i j⟩
  · obtain rfl : k = D.n := by omega
    have hd : decide ((D.n : Int) < (D.n : Int)) = false := decide_eq_false (by omega)
    simp only [hd, arePs_eq, play_eq, cloneI_eq, cloneL_eq, read_eq, p24_13, p24_16, Try.f48, catF_nil, nestF_eq, nestR_lit, nsM_lit, nsV_lit, psS, onI_ns, psB_ns, chF, chT_eta, plM_ns, plO_ns, Ok_ns, Try.f24, go_sem, ↓reduceIte, Nat.reduceAdd, Nat.reduceSub, Nat.reduceMul, Nat.reduceEqDiff, Nat.reduceLT, Nat.reduceLeDiff, Int.reduceToNat, Int.reduceLE, Int.reduceLT, Int.reduceEq, Int.reduceNeg, reduceCtorEq]
    refine ⟨⟨by kernel_rfl, by kernel_rfl⟩, ⟨by omega, by omega⟩, by omega, ⟨by omega, by omega⟩, by omega, ⟨fun i j _ _ => ?_, fun _ _ _ _ => trivial⟩, ?_⟩
    · exact nestF_bd1 0 0 0 2 (bhA D.A r.s.on.get D.n) D.M D.V i j
    · apply SameD.tup
      refine ⟨SameD.agg ⟨SameD.rowD fun i j hi hj => ?_, SameD.rfl' _, SameD.rfl' _, SameD.rfl' _, SameD.rfl' _, SameD.rfl' _, SameD.rfl' _, trivial⟩, SameD.rfl' _, trivial⟩
      have e : (if j = 0 then SV.row (D.M i) 2 fun a b => .int .i64 (D.V i a b) else .int .i64 (bhA D.A r.s.on.get D.n i j)) = nestF 0 2 (bhP D m r.s).A D.M D.V i j := by
        have : bhA D.A r.s.on.get D.n i j = (bhP D m r.s).A i j := by
          simp only [bhA, bhP]
          by_cases h4 : j = 4
          · rw [if_pos ⟨h4, hi⟩, if_pos h4]
          · rw [if_neg (fun h => h4 h.1), if_neg h4]
        simp only [nestF, this]
      rw [e]
      exact SameD.rfl' _
end Go.Eng
end

/- press: the rest behind some hours, the caller's own. -/
section
namespace Go.Eng
open Go Go.RowKit Go.Proofs
set_option maxRecDepth 100000
set_option maxHeartbeats 4000000
attribute [local irreducible] OwnT DefS
def cloIOBase : BaseF := fun args => match args with
  | [.row n sz_a f_a] => some ((sz_a = 1 ∧ IntR n 1 f_a) ∧ (n ≤ 1000000), .row n 1 (fun i j => .int .i64 ((ivf f_a) i j)))
  | _ => none
theorem cloIO_eq (n : Nat) (sz_a : Nat) (f_a : Nat → Nat → SV) : cloIOBase [.row n sz_a f_a] = some ((sz_a = 1 ∧ IntR n 1 f_a) ∧ (n ≤ 1000000), .row n 1 (fun i j => .int .i64 ((ivf f_a) i j))) := rfl
theorem cloIO_base : BaseO Try.prog 36 3 cloIOBase := by
  intro args p v hq hp
  unfold cloIOBase at hq
  split at hq
  rotate_left
  · cases hq
  rename_i n sz_a f_a
  cases hq
  obtain ⟨⟨rfl, i_a⟩, pre⟩ := hp
  refine baseO_of (C := cx [] [] [] [] none) (cx_ok trivial trivial) rfl (g := 36) (fn := Try.f36)
    (args' := [.row n 1 (rowF .i64 (ivf f_a))]) (fn_36) rfl 1000 (by
    simp only [BdL, Bd, and_self, and_true, true_and]
    exact (fun i j hi hj => by rw [i_a i j hi hj]; trivial)) ⟨SameD.int i_a, trivial⟩ ?_
  generalize ivf f_a = a at *
  simp only [rowF_eq]
  simp only [Try.f36, go_sem, ↓reduceIte, Nat.reduceAdd, Nat.reduceSub, Nat.reduceMul, Nat.reduceEqDiff, Nat.reduceLT, Nat.reduceLeDiff, Int.reduceToNat, Int.reduceLE, Int.reduceLT, Int.reduceEq, Int.reduceNeg, reduceCtorEq]
  refine ⟨fun e => ⟨e.symm, fun i j hi => by omega⟩, ⟨by omega, by omega⟩, fun i j hi hj => by simp [catF]⟩
def cloLOBase : BaseF := fun args => match args with
  | [.row n sz_a f_a] => some ((sz_a = 2 ∧ IntR n 2 f_a) ∧ (n ≤ 1000000), .row n 2 (fun i j => .int .i64 ((ivf f_a) i j)))
  | _ => none
theorem cloLO_eq (n : Nat) (sz_a : Nat) (f_a : Nat → Nat → SV) : cloLOBase [.row n sz_a f_a] = some ((sz_a = 2 ∧ IntR n 2 f_a) ∧ (n ≤ 1000000), .row n 2 (fun i j => .int .i64 ((ivf f_a) i j))) := rfl
theorem cloLO_base : BaseO Try.prog 49 55 cloLOBase := by
  intro args p v hq hp
  unfold cloLOBase at hq
  split at hq
  rotate_left
  · cases hq
  rename_i n sz_a f_a
  cases hq
  obtain ⟨⟨rfl, i_a⟩, pre⟩ := hp
  refine baseO_of (C := cx [] [] [] [] none) (cx_ok trivial trivial) rfl (g := 49) (fn := Try.f49)
    (args' := [.row n 2 (rowF .i64 (ivf f_a))]) (fn_49) rfl 1000 (by
    simp only [BdL, Bd, and_self, and_true, true_and]
    exact (fun i j hi hj => by rw [i_a i j hi hj]; trivial)) ⟨SameD.int i_a, trivial⟩ ?_
  generalize ivf f_a = a at *
  simp only [rowF_eq]
  simp only [Try.f49, go_sem, ↓reduceIte, Nat.reduceAdd, Nat.reduceSub, Nat.reduceMul, Nat.reduceEqDiff, Nat.reduceLT, Nat.reduceLeDiff, Int.reduceToNat, Int.reduceLE, Int.reduceLT, Int.reduceEq, Int.reduceNeg, reduceCtorEq]
  refine ⟨fun e => ⟨e.symm, fun i j hi => by omega⟩, ⟨by omega, by omega⟩, fun i j hi hj => by simp [catF]⟩
def q24_13 : Plan := .quiet 0 (.quiet 1 (.quiet 2 (.quiet 3 (.quiet 4 (.quiet 5 (.quiet 6 (.quiet 7 (.quiet 8 (.quiet 9 (.quiet 10 (.quiet 11 (.quiet 12 (.quiet 13 (.quiet 14 (.quiet 15 (.loud 16 [0, 1, 3, 4, 7, 8, 9] (.quiet 17 (.quiet 18 (.loud 19 [] (.quiet 20 (.quiet 21 (.loud 22 [] (.done)))))))))))))))))))))))
def q24_16 : Plan := .quiet 0 (.quiet 1 (.quiet 2 (.quiet 3 (.quiet 4 (.quiet 6 (.quiet 7 (.quiet 8 (.quiet 9 (.quiet 10 (.loud 5 [6, 7, 9, 10] (.loud 11 [] (.quiet 12 (.loud 13 [] (.quiet 14 (.loud 15 [] (.done))))))))))))))))
/-- Compressors of which the first k have levels of their own. -/
def bwF (D : PD) (g : Nat → Int) (b k : Nat) : Nat → Nat → SV := fun i j => if j = 0 ∧ i < k then .vec (fI b i) 0 else nestF 0 2 (bhA D.A g k) D.M D.V i j
theorem bwF_at (D : PD) (g : Nat → Int) (b k : Nat) : bwF D g b k k 0 = .row (D.M k) 2 (fun i j => .int .i64 (D.V k i j)) := by
  simp [bwF, nestF]
theorem bwF_st (D : PD) (g : Nat → Int) (b k i j : Nat) (hj : j < 5) : updF (updF (bwF D g b k) k 4 1 [.int .i64 (g k)]) k 0 1 [.vec (fP b k 0) 0] i j = bwF D g b (k + 1) i j := by
  simp only [updF, bwF]
  by_cases h : i = k
  · subst h
    rcases (by omega : j = 0 ∨ j = 1 ∨ j = 2 ∨ j = 3 ∨ j = 4) with rfl | rfl | rfl | rfl | rfl <;> simp [nth, nestF, bhA, fI, fP]
  · have e1 : (i < k + 1) = (i < k) := by apply propext; omega
    rw [if_neg (by omega), if_neg (by omega)]
    simp only [e1]
    split
    · rfl
    · simp only [nestF, bhA, e1]
theorem bwF_bd (D : PD) (g : Nat → Int) (k : Nat) {b L K : Nat} (h : b + k ≤ K) {i j : Nat} : Bd L K (bwF D g b k i j) := by
  simp only [bwF]
  split
  · simp only [Bd, fI]; omega
  · exact nestF_bd1 _ _ _ _ _ _ _ i j
theorem behind_run {D : PD} (hOk : D.Ok) {m : Nat} {B : Nat → Nat → Int} {K : Nat → Nat} {W : Nat → Nat → Nat → Int} (pm : m ≤ 1000000) (pK : ∀ i, i < m → K i ≤ 1000000) (hE0 : bhE D true m K W = 0) :
    CallsS Try.prog 24 [.agg (prC D), .row m 1 (nestF 0 1 B K W)] ⟨[], []⟩ (fun o h' => ∃ s v0 v1 v2 v3 v4 x y z V Bs, bhX D true m K W = bhP D m s ∧ o = .ret (.tup [.agg [.vec 5 z, .vec (fP 6 D.n 0) x, .vec (fP 6 D.n 1) y, .int .i64 s.sto, .int .i64 D.ro, .int .i64 D.pk, .int .i64 D.fr], .int .i64 0]) ∧
      h' = ⟨Bs, fam [v0, v1, v2, v3, v4, .live z 46 5 D.n (bwF D s.on.get 6 D.n)] D.n (fun a => .live 0 55 2 (D.M a) (fun i j => .int .i64 (D.V a i j))) (.live x 3 1 (D.h - m) (fun i j => .int .i64 (D.nd (m + i) j)) :: .live y 3 1 (D.h - m) (fun i j => .int .i64 (D.pr (m + i) j)) :: V)⟩) := by
  have hn := hOk.n
  have hh := hOk.h
  have hb : psB D.n D.A D.M D.V D.h D.nd D.h D.pr D.st D.ro D.pk D.fr = true := psB_iff.2 ⟨rfl, hOk⟩
  have pre : (D.n ≤ 1000000 ∧ ∀ i, i < D.n → D.M i ≤ 1000000) ∧ D.h ≤ 1000000 ∧ D.h ≤ 1000000 := ⟨⟨by omega, fun i hi => by have := (hOk.M i hi).2; omega⟩, by omega, by omega⟩
  have hE := hE0
  simp only [bhE, if_true] at hE
  have hmf : m ≤ D.h ∧ rdB D.n D.M m K W = true := by
    refine Decidable.byContradiction fun hc => ?_
    rw [if_neg hc] at hE
    exact absurd hE (by decide)
  obtain ⟨hmh, c2⟩ := hmf
  refine calls_of_run (C := cx [] [(36, 3, cloIOBase), (49, 55, cloLOBase), (43, 63, readBase)] [(31, arePsBase), (44, playBase)] [(24, 13, q24_13), (24, 16, q24_16)] none) (cx_ok ⟨cloIO_base, cloLO_base, read_base, trivial⟩ ⟨arePs_base, play_base, trivial⟩) rfl (g := 24) (fn := Try.f24) (fn_24) rfl 1000 ?_
  have hch : ∀ i, i < m → chOk D (chT D.n (W i)) := fun i hi => chT_ok hOk c2 hi
  rw [if_pos ⟨hmh, c2⟩] at hE
  have hpl := plM_ok hOk (C := fun i => chT D.n (W i)) m hmh hch
  have f3 : decide ((D.h : Int) < (m : Int)) = false := decide_eq_false (by omega)
  simp only [prC, cloIO_eq, cloLO_eq, read_eq, arePs_eq, play_eq, q24_13, q24_16, Try.f48, catF_nil, nestF_eq, nestR_lit, nsM_lit, nsV_lit, psS, onI_ns, psB_ns, chF, chT_eta, plM_ns, plO_ns, Ok_ns, Try.f24, hb, c2, f3, if_true, go_sem, ↓reduceIte, Nat.reduceAdd, Nat.reduceSub, Nat.reduceMul, Nat.reduceEqDiff, Nat.reduceLT, Nat.reduceLeDiff, Int.reduceToNat, Int.reduceLE, Int.reduceLT, Int.reduceEq, Int.reduceNeg, reduceCtorEq]
  have hX : bhX D true m K W = bhP D m (plM D (fun i => chT D.n (W i)) m).s := by rw [bhX, hE0, if_pos rfl]
  rw [hX]
  generalize plM D (fun i => chT D.n (W i)) m = r at hE hpl ⊢
  obtain ⟨p1, _, _⟩ := hpl hE
  simp only [plO, hE, if_true, prC, cloIO_eq, cloLO_eq, read_eq, arePs_eq, play_eq, q24_13, q24_16, Try.f48, catF_nil, nestF_eq, nestR_lit, nsM_lit, nsV_lit, psS, onI_ns, psB_ns, chF, chT_eta, plM_ns, plO_ns, Ok_ns, Try.f24, go_sem, ↓reduceIte, Nat.reduceAdd, Nat.reduceSub, Nat.reduceMul, Nat.reduceEqDiff, Nat.reduceLT, Nat.reduceLeDiff, Int.reduceToNat, Int.reduceLE, Int.reduceLT, Int.reduceEq, Int.reduceNeg, reduceCtorEq]
  refine ⟨⟨pre.1, pre.2.1⟩, ⟨by omega, by omega, pm, pK⟩, ⟨hOk, hmh, fun i hi => hch i hi⟩, fun h0 => absurd h0 (by omega), ⟨by omega, by omega⟩, ?_⟩
  refine loop_ofG { k : Nat // k ≤ D.n } (fun k => [(51, .int .i64 (k.1 : Int)), (50, .int .i64 (D.n : Int)), (8, .ptr 2 0), (4, .ptr 1 0), (2, .ptr 0 0), (1, .row m 1 (nestF 0 1 B K W))])
    (fun h k => ⟨h.blks, fam [.live 0 46 5 0 fun _ _ => .any, .live 0 3 1 0 fun _ _ => .any, .live 0 3 1 0 fun _ _ => .any, .live 0 63 3 m (chF D.n W), .live 0 46 5 0 fun _ _ => .any, .live 1 46 5 D.n (bwF D r.s.on.get 6 k.1)] k.1 (fun a => .live 0 55 2 (D.M a) (fun i j => .int .i64 (D.V a i j))) []⟩) (fun k => D.n - k.1) (fun k => ⟨Nat.le_refl _, by simp only [fam_lenV, fP, lenV]; omega⟩) ⟨0, by omega⟩ ?_ ?_
  · simp only [fam_zero, List.append_nil]
    apply sub_of <;> simp only [go_sem, ↓reduceIte, Nat.reduceAdd, Nat.reduceSub, Nat.reduceMul, Nat.reduceEqDiff, Nat.reduceLT, Nat.reduceLeDiff, Int.reduceToNat, Int.reduceLE, Int.reduceLT, Int.reduceEq, Int.reduceNeg, reduceCtorEq] <;> (try simp)
    · intro i j hi hj; simp [bwF, bhA_0]
    · exact fun i hi => nestF_bd1 _ _ _ _ _ _ _ _ _
    · exact ⟨fun i j _ _ => chF_bd _ _ _ _ i j, fun i j _ _ => by simp only [bwF]; rw [if_neg (by omega)]; exact nestF_bd1 _ _ _ _ _ _ _ i j⟩
  rintro ⟨k, hk⟩
  rcases Nat.lt_or_ge k D.n with hkn | hkn
  · have n5 := fun y z => T3.nth5 r.s.on y z (show k < 3 by omega)
    have e1 : decide ((k : Int) < (D.n : Int)) = true := decide_eq_true (by omega)
    have hkN : (k : Int) < (D.n : Int) := by omega
    have hk0 : (0 : Int) ≤ (k : Int) := by omega
    have hM := (hOk.M k hkn).2
    simp only [n5, e1, hkn, hkN, hk0, bwF_at, Int.toNat_natCast, prC, cloIO_eq, cloLO_eq, read_eq, arePs_eq, play_eq, q24_13, q24_16, Try.f48, catF_nil, nestF_eq, nestR_lit, nsM_lit, nsV_lit, psS, onI_ns, psB_ns, chF, chT_eta, plM_ns, plO_ns, Ok_ns, Try.f24, getV_fL, setV_fL, getV_fI, setV_fI, getV_fP, setV_fP, snocV_fam', fam_lenV, updV_same, updV_upd, go_sem, ↓reduceIte, Nat.reduceAdd, Nat.reduceSub, Nat.reduceMul, Nat.reduceEqDiff, Nat.reduceLT, Nat.reduceLeDiff, Int.reduceToNat, Int.reduceLE, Int.reduceLT, Int.reduceEq, Int.reduceNeg, reduceCtorEq]
    have hw3 : IntKind.i64.wrap ((k : Int) + 1) = ((k + 1 : Nat) : Int) := by rw [wrap_id (by omega) (by omega)]; omega
    refine ⟨⟨by kernel_rfl, by kernel_rfl⟩, by omega, by omega, by omega, ⟨by omega, by omega⟩, ⟨k + 1, by omega⟩, by simp only []; omega, ?_⟩
    apply sub_of <;> simp only [hw3, getV_fL, setV_fL, getV_fI, setV_fI, getV_fP, setV_fP, snocV_fam', fam_lenV, updV_same, updV_upd, go_sem, ↓reduceIte, Nat.reduceAdd, Nat.reduceSub, Nat.reduceMul, Nat.reduceEqDiff, Nat.reduceLT, Nat.reduceLeDiff, Int.reduceToNat, Int.reduceLE, Int.reduceLT, Int.reduceEq, Int.reduceNeg, reduceCtorEq]
    · exact fun _ _ _ _ => trivial
    · exact fun _ _ _ _ => trivial
    · rw [fam_growV]
      exact subV_famI rfl ⟨subVk_rfl _, subVk_rfl _, subVk_rfl _, subVk_rfl _, subVk_rfl _, ⟨rfl, rfl, rfl, rfl, fun i j _ hj => bwF_st D r.s.on.get 6 k i j hj⟩, trivial⟩ (updV_sub (subVk_rfl _) (fun _ _ _ => subVk_rfl _)) trivial
    · exact fun _ _ _ _ => nestF_bd1 _ _ _ _ _ _ _ _ _
    · exact ⟨⟨by simp only [fP]; omega, fun _ _ _ _ => trivial⟩, by simp only [fP]; omega, by simp only [fP]; omega, by simp only [fP]; omega⟩
    · exact bdV_famI ⟨fun _ _ _ _ => trivial, fun _ _ _ _ => trivial, fun _ _ _ _ => trivial, fun i j _ _ => chF_bd _ _ _ _ i j, fun _ _ _ _ => trivial, fun i j _ _ => bwF_bd _ _ _ (by simp only [fP]; omega), trivial⟩ (fun _ _ => ⟨fun _ _ _ _ => trivial, trivial⟩) trivial
  · obtain rfl : k = D.n := by omega
    have hd : decide ((D.n : Int) < (D.n : Int)) = false := decide_eq_false (by omega)
    simp only [hd, prC, cloIO_eq, cloLO_eq, read_eq, arePs_eq, play_eq, q24_13, q24_16, Try.f48, catF_nil, nestF_eq, nestR_lit, nsM_lit, nsV_lit, psS, onI_ns, psB_ns, chF, chT_eta, plM_ns, plO_ns, Ok_ns, Try.f24, getV_fL, setV_fL, getV_fI, setV_fI, getV_fP, setV_fP, snocV_fam', fam_lenV, updV_same, updV_upd, go_sem, ↓reduceIte, Nat.reduceAdd, Nat.reduceSub, Nat.reduceMul, Nat.reduceEqDiff, Nat.reduceLT, Nat.reduceLeDiff, Int.reduceToNat, Int.reduceLE, Int.reduceLT, Int.reduceEq, Int.reduceNeg, reduceCtorEq]
    refine ⟨⟨by kernel_rfl, by kernel_rfl⟩, ⟨by omega, by omega⟩, ⟨by omega, by omega⟩, by omega, ⟨by omega, by omega⟩, by omega, ?_⟩
    exact ⟨r.s, _, _, _, _, _, _, _, _, _, _, rfl, rfl, rfl⟩
theorem subB_nilc (B : List Blk) : subB B [] := by cases B <;> exact trivial
theorem subV_nilc (V : List Vc) : subV V [] := by cases V <;> exact trivial
def neV (D : PD) (m v : Nat) : Vc := .live v 3 1 (D.h - m) (fun i j => .int .i64 (D.nd (m + i) j))
def prV (D : PD) (m v : Nat) : Vc := .live v 3 1 (D.h - m) (fun i j => .int .i64 (D.pr (m + i) j))
def lvV (D : PD) (a : Nat) : Vc := .live 0 55 2 (D.M a) (fun i j => .int .i64 (D.V a i j))
theorem lvV_bd {D : PD} {a L K : Nat} : bdV L K [lvV D a] := ⟨fun _ _ _ _ => trivial, trivial⟩
def bhO (D : PD) (s : PS) (b x y z : Nat) : Out := .ret (.tup [.agg [.vec (b + 5) z, .vec (fP (b + 6) D.n 0) x, .vec (fP (b + 6) D.n 1) y, .int .i64 s.sto, .int .i64 D.ro, .int .i64 D.pk, .int .i64 D.fr], .int .i64 0])
theorem behind_trim {D : PD} (hOk : D.Ok) {m : Nat} {B : Nat → Nat → Int} {K : Nat → Nat} {W : Nat → Nat → Nat → Int} (pm : m ≤ 1000000) (pK : ∀ i, i < m → K i ≤ 1000000) (hE0 : bhE D true m K W = 0) :
    CallsS Try.prog 24 [.agg (prC D), .row m 1 (nestF 0 1 B K W)] ⟨[], []⟩ (fun o h' => ∃ s x y z, bhX D true m K W = bhP D m s ∧ o = bhO D s 0 x y z ∧
      h' = ⟨[], fam [.dead, .dead, .dead, .dead, .dead, .live z 46 5 D.n (bwF D s.on.get 6 D.n)] D.n (lvV D) [neV D m x, prV D m y]⟩) := by
  refine calls_trim2 (behind_run hOk pm pK hE0) ?_
  rintro o h' ⟨s, v0, v1, v2, v3, v4, x, y, z, V, Bs, hx, rfl, rfl⟩
  refine ⟨_, _, bhO D s 0 x y z, ⟨[], fam [.dead, .dead, .dead, .dead, .dead, .live z 46 5 D.n (bwF D s.on.get 6 D.n)] D.n (lvV D) [neV D m x, prV D m y]⟩, .inl ⟨rfl, rfl⟩, ⟨s, x, y, z, hx, rfl, rfl⟩, ⟨⟨rfl, trivial⟩, subB_nilc _, ?_, ⟨?_, trivial⟩, trivial, ?_⟩, ⟨Nat.le_refl _, Nat.zero_le _⟩, ⟨Nat.zero_le _, ?_⟩⟩
  · refine subV_famI rfl ?_ (fun _ _ => subVk_rfl _) ⟨subVk_rfl _, subVk_rfl _, subV_nilc _⟩
    exact ⟨trivial, trivial, trivial, trivial, trivial, subVk_rfl _, trivial⟩
  · simp only [Bd, BdL, fam_lenV, fP, lenV, and_true, true_and]; omega
  · exact bdV_famI ⟨fun i j _ _ => bwF_bd _ _ _ (by simp only [fam_lenV, fP, lenV]; omega), trivial⟩ (fun _ _ => lvV_bd) ⟨fun _ _ _ _ => trivial, fun _ _ _ _ => trivial, trivial⟩
  · simp only [fam_lenV, fP, lenV]; omega
theorem appV_nilc (b v : Nat → Nat) : ∀ k : List Vc, appV b v [] k = k.map (renC b v)
  | [] => by simp [appV]
  | x :: k => by simp [appV, appV_nilc b v k]
theorem appV_eq (b v : Nat → Nat) (k : List Vc) : ∀ l : List Vc, appV b v l k = l ++ k.map (renC b v)
  | [] => by rw [appV_nilc]; rfl
  | x :: l => by rw [appV, appV_eq b v k l]; rfl
theorem appB_nilc (b v : Nat → Nat) : ∀ l : List Blk, appB b v l [] = l
  | [] => by simp [appB]
  | x :: l => by simp only [appB, appB_nilc b v l]
/-- Behind, over any memory. -/
theorem behind_at {D : PD} (hOk : D.Ok) {m : Nat} {B : Nat → Nat → Int} {K : Nat → Nat} {W : Nat → Nat → Nat → Int} (pm : m ≤ 1000000) (pK : ∀ i, i < m → K i ≤ 1000000) (hE0 : bhE D true m K W = 0) (B0 : List Blk) (V0 : List Vc) :
    CallsS Try.prog 24 [.agg (prC D), .row m 1 (nestF 0 1 B K W)] ⟨B0, V0⟩ (fun o h' => ∃ s x y z, bhX D true m K W = bhP D m s ∧ o = bhO D s (lenV V0) x y z ∧
      h' = ⟨B0, fam (V0 ++ [.dead, .dead, .dead, .dead, .dead, .live z 46 5 D.n (bwF D s.on.get (lenV V0 + 6) D.n)]) D.n (lvV D) [neV D m x, prV D m y]⟩) := by
  refine calls_mono ?_ (calls_grow (behind_trim hOk pm pK hE0) ?_ ?_ _)
  · rintro o h' ⟨o0, h0', ⟨s, x, y, z, hx, rfl, rfl⟩, rfl, rfl⟩
    refine ⟨s, x, y, z, hx, ?_, ?_⟩
    · have f0 : ∀ k, fP (0 + 6) D.n k + lenV V0 = fP (lenV V0 + 6) D.n k := fun k => by simp only [fP]; omega
      have f1 : 0 + 5 + lenV V0 = lenV V0 + 5 := by omega
      simp only [bhO, renO, renS, renL, f0, f1]
    · have e1 : renC (fun i => i + lenB B0) (fun i => i + lenV V0) (.live z 46 5 D.n (bwF D s.on.get 6 D.n)) = .live z 46 5 D.n (bwF D s.on.get (lenV V0 + 6) D.n) := by
        simp only [renC, Vc.live.injEq, true_and]
        funext i j
        simp only [bwF]
        split
        · simp only [renS, fI]; congr 1; omega
        · simp only [nestF]
          split <;> simp only [renS]
      have e2 : ∀ i, renC (fun i => i + lenB B0) (fun i => i + lenV V0) (lvV D i) = lvV D i := fun i => by simp [lvV, renC, renS]
      have e3 : renC (fun i => i + lenB B0) (fun i => i + lenV V0) (neV D m x) = neV D m x := by simp [neV, renC, renS]
      have e4 : renC (fun i => i + lenB B0) (fun i => i + lenV V0) (prV D m y) = prV D m y := by simp [prV, renC, renS]
      have e5 : renC (fun i => i + lenB B0) (fun i => i + lenV V0) .dead = .dead := rfl
      simp only [appB_nilc, appV_eq, fam_map, List.map_cons, List.map_nil, e1, e2, e3, e4, e5]
      simp only [fam, List.append_assoc]
  · exact ⟨prC_bd D 0 0, nestF_bd _ _ _ _ _ _ _ _ _, trivial⟩
  · rintro o h' ⟨s, x, y, z, hx, rfl, rfl⟩
    refine ⟨trivial, bdV_famI ⟨fun i j _ _ => bwF_bd _ _ _ (by simp only [fam_lenV, fP, lenV]; omega), trivial⟩ (fun _ _ => lvV_bd) ⟨fun _ _ _ _ => trivial, fun _ _ _ _ => trivial, trivial⟩, ?_⟩
    simp only [bhO, bdO, Bd, BdL, fam_lenV, fP, lenV, and_true, true_and]; omega
end Go.Eng
end

/- press: Check and Behind are the document's. -/
section
namespace Go.Eng
open Go Go.RowKit Go.Proofs
set_option maxRecDepth 100000
set_option maxHeartbeats 4000000
attribute [local irreducible] OwnT DefS
theorem great_one (n a h b q c s1 : Nat) (fA fn fp f : Nat → Nat → SV) (st ro pk fr : Int) : greatBase [.agg [.row n a fA, .row h b fn, .row q c fp, .int .i64 st, .int .i64 ro, .int .i64 pk, .int .i64 fr], .row 1 s1 f] = great1Base [.agg [.row n a fA, .row h b fn, .row q c fp, .int .i64 st, .int .i64 ro, .int .i64 pk, .int .i64 fr], .row 1 s1 f] := rfl
theorem gr1_false {m : Nat} {K : Nat → Nat} (e : gr1 m K = false) : m ≤ 20 ∧ ∀ i, i < m → K i ≤ 8 := by
  simp only [gr1, Bool.or_eq_false_iff, Bool.not_eq_false', decide_eq_false_iff_not, allU_iff, decide_eq_true_eq] at e
  exact ⟨by omega, fun i hi => by have := e.2 i hi; omega⟩
end Go.Eng
end
