/-
  PressLess: for every input the law returns true, and each argument reads afterwards as it read before. No condition.
-/
import Derived.Test.YtdecicbgjkeefaaRows
import Derived.WalkKit
import Derived.Test.YtdecicbgjkeefaaP6
set_option linter.unusedSimpArgs false
set_option linter.unusedVariables false
/- press: with more room, lower prices or oil that lasts longer the cheapest plan costs no more. No program in sight. -/
section
namespace Go.Eng
open Go Go.RowKit Go.Proofs
set_option maxRecDepth 100000
set_option maxHeartbeats 4000000
attribute [local irreducible] OwnT DefS
/-- The second compressors can do all that the first ones can, and it costs no more. -/
structure LessP (D E : PD) : Prop where
  n : E.n = D.n
  M : E.M = D.M
  V : E.V = D.V
  h : E.h = D.h
  nd : E.nd = D.nd
  fr : E.fr = D.fr
  st : E.st = D.st
  least : ∀ i, i < D.n → E.A i 2 = D.A i 2
  on : ∀ i, i < D.n → E.A i 4 = D.A i 4
  oil : ∀ i, i < D.n → D.A i 3 ≤ E.A i 3
  start : ∀ i, i < D.n → E.A i 1 ≤ D.A i 1
  pr : ∀ i, i < D.h → E.pr i 0 ≤ D.pr i 0
  pk : E.pk ≤ D.pk
  ro : D.ro ≤ E.ro
theorem less_step {D E : PD} (hL : LessP D E) {on c : T3} {s : Int} : ∀ {i : Nat}, i ≤ D.n → ∀ {a : PA}, stepsP D on c s i = some a → ∃ b, stepsP E on c s i = some b ∧ b.on = a.on ∧ b.sto = a.sto ∧ b.pow = a.pow ∧ b.sta ≤ a.sta
  | 0, _, a, h => by cases h; exact ⟨_, rfl, rfl, rfl, rfl, Int.le_refl _⟩
  | i + 1, hi, a, h => by
    simp only [stepsP] at h ⊢
    split at h
    · rename_i a0 h0
      obtain ⟨b0, g1, g2, g3, g4, g5⟩ := less_step hL (by omega) h0
      have h1 := hL.least i (by omega)
      have h2 := hL.oil i (by omega)
      have h3 := hL.start i (by omega)
      rw [g1]
      simp only []
      unfold stepP at h ⊢
      split at h
      · rename_i hc
        rw [if_pos hc]
        split at h
        · rename_i ho
          cases h
          rw [if_pos (by omega)]
          exact ⟨_, rfl, g2, g3, g4, g5⟩
        · cases h
      · rename_i hc
        rw [if_neg hc]
        split at h
        · rename_i ho
          cases h
          rw [if_pos (by omega)]
          refine ⟨_, rfl, ?_, ?_, ?_, ?_⟩
          · simp only [g2]
          · simp only [g3, hL.V]
          · simp only [g4, hL.V]
          · simp only []
            split <;> omega
        · cases h
    · cases h
theorem less_hour {D E : PD} (hD : D.Ok) (hL : LessP D E) {s : PS} (hs : stOk D s) {hr : Nat} (hh : hr < D.h) {c : T3} (hc : chOk D c) (he : (hourP D s hr c).e = 0) :
    (hourP E s hr c).e = 0 ∧ (hourP E s hr c).s = (hourP D s hr c).s ∧ (hourP E s hr c).en ≤ (hourP D s hr c).en ∧ (hourP E s hr c).sta ≤ (hourP D s hr c).sta := by
  unfold hourP at he ⊢
  rw [hL.nd, hL.n]
  split at he
  · simp [badH] at he
  · rename_i a ha
    obtain ⟨b, g1, g2, g3, g4, g5⟩ := less_step hL (Nat.le_refl _) ha
    split at he
    · simp [badH] at he
    · split at he
      · simp [badH] at he
      · rename_i e1 e2
        have hro := hL.ro
        rw [g1]
        simp only [g3]
        rw [if_neg e1, if_neg (by omega), if_neg e1, if_neg e2]
        obtain ⟨b1, b2, b3, b4⟩ := stepsP_ok hD hs.1 hc (Nat.le_refl _) ha
        refine ⟨rfl, ?_, ?_, g5⟩
        · simp only [g2, g4, hL.fr]
        · simp only [g4]
          exact Int.mul_le_mul_of_nonneg_left (hL.pr hr hh) b3.1
theorem less_dig {D E : PD} (hL : LessP D E) (q : Nat) : dig E q = dig D q := by simp only [dig, rad, hL.n, hL.M]
theorem less_tot {D E : PD} (hL : LessP D E) : tot E = tot D := by simp only [tot, rad, hL.n, hL.M]
theorem less_best {D E : PD} (hD : D.Ok) (hL : LessP D E) : ∀ (k : Nat) (s : PS) (x : Int × T3), k ≤ D.h → stOk D s → bestM D k s = some x → ∃ y, bestM E k s = some y ∧ y.1 ≤ x.1
  | 0, s, x, _, hs, h => by
    cases h
    exact ⟨_, rfl, Int.mul_le_mul_of_nonneg_left hL.pk hs.2.2.1⟩
  | k + 1, s, x, hk, hs, h => by
    obtain ⟨q, h1, h2, h3⟩ := pickM_some (D := D) _ h
    obtain ⟨he, z, hz, hx⟩ := candM_some h3
    rw [h2] at he hz hx
    have hdg := dig_ok hD h1
    obtain ⟨g1, g2, g3, g4⟩ := less_hour hD hL hs (hr := D.h - (k + 1)) (by omega) hdg he
    obtain ⟨o1, _, _⟩ := hourP_ok hD hs hdg (hr := D.h - (k + 1)) (by omega) he
    obtain ⟨y, hy, hle⟩ := less_best hD hL k _ z (by omega) o1 hz
    obtain ⟨w, w1, w2, _⟩ := pickM_le (D := E) (f := candM E (bestM E k) s (E.h - (k + 1))) (tot E) (q := q) (v := (hourP E s (D.h - (k + 1)) (dig D q)).en + (hourP E s (D.h - (k + 1)) (dig D q)).sta + y.1) (by rw [less_tot hL]; exact h1) (by
      rw [less_dig hL, hL.h, candM, if_pos g1, g2, hy])
    exact ⟨w, w1, by omega⟩
theorem less_beg {D E : PD} (hD : D.Ok) (hL : LessP D E) : begP E = begP D := by
  have hn := hD.n
  have h0 := hL.on 0
  have h1 := hL.on 1
  have h2 := hL.on 2
  simp only [begP, onI, hL.n, hL.st]
  congr 2
  · split <;> simp_all
  · split <;> simp_all
  · split <;> simp_all
/-- And so is the cheapest plan. -/
theorem less_cheap {D E : PD} (hD : D.Ok) (hL : LessP D E) (hb : chE true D = 0) : chE true E = 0 ∧ chC true E ≤ chC true D := by
  have e0 := hb
  unfold chE at e0
  simp only [if_true] at e0
  cases hx : bestM D D.h (begP D) with
  | none => rw [hx] at e0; simp at e0
  | some x =>
    obtain ⟨y, hy, hle⟩ := less_best hD hL D.h (begP D) x (Nat.le_refl _) (begP_ok hD) hx
    rw [← less_beg hD hL, ← hL.h] at hy
    have e1 : chE true E = 0 := by simp only [chE, hy]; rfl
    refine ⟨e1, ?_⟩
    simp only [chC, e1, hb, if_true, hx, hy, wx_some]
    exact hle
end Go.Eng
end

/- press: five variables declared at once: all orders lead to one state, but for names. -/
section
namespace Go.Eng
open Go Go.RowKit Go.Proofs
set_option maxRecDepth 100000
set_option maxHeartbeats 4000000
attribute [local irreducible] OwnT DefS
set_option maxHeartbeats 20000000
noncomputable def findR (k : Nat) : Code → Array Oper → Array Oper
  | .region id ops _, d => if id = k then ops else d
  | .seq a b, d => findR k a (findR k b d)
  | _, d => d
noncomputable def ops9 : Array Oper := match Try.f5.body with
  | some c => findR 9 c #[]
  | none => #[]
/-- Five names, in any order. -/
def ok5 (a b c d e : Nat) : Bool := decide ((1 ≤ a ∧ a ≤ 5) ∧ (1 ≤ b ∧ b ≤ 5) ∧ (1 ≤ c ∧ c ≤ 5) ∧ (1 ≤ d ∧ d ≤ 5) ∧ (1 ≤ e ∧ e ≤ 5) ∧ (a ≠ b ∧ a ≠ c ∧ a ≠ d ∧ a ≠ e) ∧ (b ≠ c ∧ b ≠ d ∧ b ≠ e) ∧ (c ≠ d ∧ c ≠ e) ∧ d ≠ e)
theorem ok5_iff {a b c d e : Nat} (h : ok5 a b c d e = true) : (1 ≤ a ∧ a ≤ 5) ∧ (1 ≤ b ∧ b ≤ 5) ∧ (1 ≤ c ∧ c ≤ 5) ∧ (1 ≤ d ∧ d ≤ 5) ∧ (1 ≤ e ∧ e ≤ 5) ∧ (a ≠ b ∧ a ≠ c ∧ a ≠ d ∧ a ≠ e) ∧ (b ≠ c ∧ b ≠ d ∧ b ≠ e) ∧ (c ≠ d ∧ c ≠ e) ∧ d ≠ e := of_decide_eq_true h
theorem sw0 {n i j : Nat} {x y : SV} {l : List (Nat × SV)} (h : i < j) : setL n ((i, x) :: (j, y) :: l) = setL n ((j, y) :: (i, x) :: l) := by
  simp only [setL]
  exact (upd_comm _ _ _ _ _ (by omega)).symm
theorem sw1 {n i j k0 : Nat} {x y z0 : SV} {l : List (Nat × SV)} (h : i < j) : setL n ((k0, z0) :: (i, x) :: (j, y) :: l) = setL n ((k0, z0) :: (j, y) :: (i, x) :: l) := by
  have := sw0 (n := n) (x := x) (y := y) (l := l) h
  simp only [setL] at this ⊢
  rw [this]
theorem sw2 {n i j k0 k1 : Nat} {x y z0 z1 : SV} {l : List (Nat × SV)} (h : i < j) : setL n ((k0, z0) :: (k1, z1) :: (i, x) :: (j, y) :: l) = setL n ((k0, z0) :: (k1, z1) :: (j, y) :: (i, x) :: l) := by
  have := sw0 (n := n) (x := x) (y := y) (l := l) h
  simp only [setL] at this ⊢
  rw [this]
theorem sw3 {n i j k0 k1 k2 : Nat} {x y z0 z1 z2 : SV} {l : List (Nat × SV)} (h : i < j) : setL n ((k0, z0) :: (k1, z1) :: (k2, z2) :: (i, x) :: (j, y) :: l) = setL n ((k0, z0) :: (k1, z1) :: (k2, z2) :: (j, y) :: (i, x) :: l) := by
  have := sw0 (n := n) (x := x) (y := y) (l := l) h
  simp only [setL] at this ⊢
  rw [this]
section
/-- The declaration of five variables at once: what is left to do can be shown for the names in any order at once. -/
theorem rg9 {C : Ctx} (hT : C.T = tab) (hF : C.F = entB Try.prog) {R R0 : Rn} {X : List SV → SV → HS → Prop} {Q : Out → HS → Prop} {K : List It} {FS : List Fr} {rest : List (Nat × SV)} {c0 c1 c2 : Nat → Nat → SV} {m0 m1 m2 : Nat} {x3 x4 x5 x6 : Int} {V0 : Vc} (h3 : lookS 162 rest 3 = .ptr 0 0)
    (hR : ∀ a b c d e, ok5 a b c d e = true → R 5 K (setL 162 ((15, .ptr e 0) :: (14, .ptr d 0) :: (13, .ptr c 0) :: (12, .ptr b 0) :: (11, .ptr a 0) :: (52, .agg [.row m0 5 c0, .row m1 1 c1, .row m2 1 c2, .int .i64 x3, .int .i64 x4, .int .i64 x5, .int .i64 x6]) :: (51, .agg [.row m0 5 c0, .row m1 1 c1, .row m2 1 c2, .int .i64 x3, .int .i64 x4, .int .i64 x5, .int .i64 x6]) :: (50, .agg [.row m0 5 c0, .row m1 1 c1, .row m2 1 c2, .int .i64 x3, .int .i64 x4, .int .i64 x5, .int .i64 x6]) :: (49, .agg [.row m0 5 c0, .row m1 1 c1, .row m2 1 c2, .int .i64 x3, .int .i64 x4, .int .i64 x5, .int .i64 x6]) :: (48, .agg [.row m0 5 c0, .row m1 1 c1, .row m2 1 c2, .int .i64 x3, .int .i64 x4, .int .i64 x5, .int .i64 x6]) :: rest)) FS
      ⟨[.live 25 [.row m0 5 c0, .row m1 1 c1, .row m2 1 c2, .int .i64 x3, .int .i64 x4, .int .i64 x5, .int .i64 x6], .live 25 [.row m0 5 c0, .row m1 1 c1, .row m2 1 c2, .int .i64 x3, .int .i64 x4, .int .i64 x5, .int .i64 x6], .live 25 [.row m0 5 c0, .row m1 1 c1, .row m2 1 c2, .int .i64 x3, .int .i64 x4, .int .i64 x5, .int .i64 x6], .live 25 [.row m0 5 c0, .row m1 1 c1, .row m2 1 c2, .int .i64 x3, .int .i64 x4, .int .i64 x5, .int .i64 x6], .live 25 [.row m0 5 c0, .row m1 1 c1, .row m2 1 c2, .int .i64 x3, .int .i64 x4, .int .i64 x5, .int .i64 x6], .live 25 [.row m0 5 c0, .row m1 1 c1, .row m2 1 c2, .int .i64 x3, .int .i64 x4, .int .i64 x5, .int .i64 x6]], [V0, .live 0 46 5 0 (fun _ _ => .any), .live 0 3 1 0 (fun _ _ => .any), .live 0 3 1 0 (fun _ _ => .any), .live 0 46 5 0 (fun _ _ => .any), .live 0 3 1 0 (fun _ _ => .any), .live 0 3 1 0 (fun _ _ => .any), .live 0 46 5 0 (fun _ _ => .any), .live 0 3 1 0 (fun _ _ => .any), .live 0 3 1 0 (fun _ _ => .any), .live 0 46 5 0 (fun _ _ => .any), .live 0 3 1 0 (fun _ _ => .any), .live 0 3 1 0 (fun _ _ => .any), .live 0 46 5 0 (fun _ _ => .any), .live 0 3 1 0 (fun _ _ => .any), .live 0 3 1 0 (fun _ _ => .any)]⟩ Q) :
    planS C R R0 X Q 5 ops9 K FS p5_9 (setL 162 rest) ⟨[.live 25 [.row m0 5 c0, .row m1 1 c1, .row m2 1 c2, .int .i64 x3, .int .i64 x4, .int .i64 x5, .int .i64 x6]], [V0]⟩ := by
  simp only [ops9, Try.f5, findR, ↓reduceIte, Nat.reduceEqDiff, reduceCtorEq]
  simp (maxSteps := 8000000) only [p5_9, hT, hF, h3, sw0, sw1, sw2, sw3, go_sem, ↓reduceIte, Nat.reduceAdd, Nat.reduceSub, Nat.reduceMul, Nat.reduceEqDiff, Nat.reduceLT, Nat.reduceLeDiff, Int.reduceToNat, Int.reduceLE, Int.reduceLT, Int.reduceEq, Int.reduceNeg, reduceCtorEq]
  repeat' apply And.intro
  all_goals exact hR _ _ _ _ _ rfl
end
end Go.Eng
end

/- press: less to pay, with more room, lower prices or oil that lasts longer. -/
section
namespace Go.Eng
open Go Go.RowKit Go.Proofs
set_option maxRecDepth 100000
set_option maxHeartbeats 4000000
attribute [local irreducible] OwnT DefS
set_option maxHeartbeats 20000000
theorem splY {q : Bool} {A B : Prop} (h : q = true) (ha : A) : spl q A B := ⟨fun _ => ha, fun h' => (by rw [h] at h'; cases h')⟩
theorem splN {q : Bool} {A B : Prop} (h : q = false) (hb : B) : spl q A B := ⟨fun h' => (by rw [h] at h'; cases h'), fun _ => hb⟩
theorem getBS : ∀ (l : List Blk) (i j : Nat) (x : Blk), getB (setB l i x) j = if j = i then (if i < lenB l then x else getB l j) else getB l j
  | [], i, j, x => by cases i <;> simp [setB, getB, lenB]
  | y :: l, 0, 0, x => by simp [setB, getB, lenB]
  | y :: l, 0, j + 1, x => by simp [setB, getB]
  | y :: l, i + 1, 0, x => by simp [setB, getB]
  | y :: l, i + 1, j + 1, x => by
    simp only [setB, getB, getBS l i j x, lenB, Nat.add_lt_add_iff_right, Nat.succ.injEq]
def setA (A : Nat → Nat → Int) (i j : Nat) (v : Int) : Nat → Nat → Int := fun x y => if x = i ∧ y = j then v else A x y
theorem updF_nest {A : Nat → Nat → Int} {M : Nat → Nat} {V : Nat → Nat → Nat → Int} {i j : Nat} {v : Int} (hj : 0 < j) : updF (nestF 0 2 A M V) i j 1 [.int .i64 v] = nestF 0 2 (setA A i j v) M V := by
  funext x y
  simp only [updF, nestF, setA]
  by_cases h : x = i ∧ y = j
  · obtain ⟨rfl, rfl⟩ := h
    rw [if_pos ⟨rfl, by omega, by omega⟩, if_neg (by omega), if_pos ⟨rfl, rfl⟩, Nat.sub_self]
    rfl
  · rw [if_neg (fun g => h ⟨g.1, by omega⟩), if_neg h]
theorem updF_int {f : Nat → Nat → Int} {i : Nat} {v : Int} : updF (fun a b => .int .i64 (f a b)) i 0 1 [.int .i64 v] = fun a b => .int .i64 (setA f i 0 v a b) := by
  funext x y
  simp only [updF, setA]
  by_cases h : x = i ∧ y = 0
  · obtain ⟨rfl, rfl⟩ := h
    rw [if_pos ⟨rfl, by omega, by omega⟩, if_pos ⟨rfl, rfl⟩]
    rfl
  · rw [if_neg (fun g => h ⟨g.1, by omega⟩), if_neg h]
theorem subB_dd : ∀ (k : Nat) (l : List Blk), k ≤ lenB l → subB l (List.replicate k .dead)
  | 0, l, _ => by cases l <;> exact trivial
  | k + 1, [], h => by simp [lenB] at h
  | k + 1, x :: l, h => ⟨trivial, subB_dd k l (by simp only [lenB] at h; omega)⟩
/-- A cell that holds an own slice, given away. -/
def gV (id v n sz : Nat) (f : Nat → Nat → SV) : SV → SV
  | .vec a b => if a = id ∧ b = v then .row n sz f else .vec a b
  | x => x
theorem gV_or (id v n sz : Nat) (f : Nat → Nat → SV) (x : SV) : gV id v n sz f x = x ∨ (x = .vec id v ∧ gV id v n sz f x = .row n sz f) := by
  cases x <;> try exact .inl rfl
  rename_i a b
  by_cases h : a = id ∧ b = v
  · obtain ⟨rfl, rfl⟩ := h
    exact .inr ⟨rfl, by simp [gV]⟩
  · exact .inl (by simp only [gV, if_neg h])
def pressLessBase : BaseF := fun args => match args with
  | [.agg [.row n sz_A f_A, .row h sz_nd f_nd, .row q sz_pr f_pr, .int .i64 st, .int .i64 ro, .int .i64 pk, .int .i64 fr], .int .u8 wh, .int .u8 mo] => some ((sz_A = 5 ∧ NestR n 5 0 2 f_A) ∧ (sz_nd = 1 ∧ IntR h 1 f_nd) ∧ (sz_pr = 1 ∧ IntR q 1 f_pr) ∧ ((Lit.int .u8 wh).wf = true) ∧ ((Lit.int .u8 mo).wf = true), .bool true)
  | _ => none
theorem pressLess_eq (n : Nat) (sz_A : Nat) (f_A : Nat → Nat → SV) (h : Nat) (sz_nd : Nat) (f_nd : Nat → Nat → SV) (q : Nat) (sz_pr : Nat) (f_pr : Nat → Nat → SV) (st : Int) (ro : Int) (pk : Int) (fr : Int) (wh : Int) (mo : Int) : pressLessBase [.agg [.row n sz_A f_A, .row h sz_nd f_nd, .row q sz_pr f_pr, .int .i64 st, .int .i64 ro, .int .i64 pk, .int .i64 fr], .int .u8 wh, .int .u8 mo] = some ((sz_A = 5 ∧ NestR n 5 0 2 f_A) ∧ (sz_nd = 1 ∧ IntR h 1 f_nd) ∧ (sz_pr = 1 ∧ IntR q 1 f_pr) ∧ ((Lit.int .u8 wh).wf = true) ∧ ((Lit.int .u8 mo).wf = true), .bool true) := rfl
theorem pressLess_base : Base Try.prog 5 pressLessBase := by
  intro args p v hq hp
  unfold pressLessBase at hq
  split at hq
  rotate_left
  · cases hq
  rename_i n sz_A f_A h sz_nd f_nd q sz_pr f_pr st ro pk fr wh mo
  cases hq
  obtain ⟨⟨rfl, i_A⟩, ⟨rfl, i_nd⟩, ⟨rfl, i_pr⟩, wf_wh, wf_mo⟩ := hp
  refine base_of (C := cxn [] [(14, cheapestBase)] [] [(11, greatBase), (12, slowBase), (13, aliveBase), (17, pressesBase)] [(5, 9, p5_9), (5, 14, p5_14), (5, 16, p5_16), (5, 18, p5_18), (5, 19, p5_19)] none) (cxn_ok ⟨cheapest_base, trivial⟩ trivial ⟨great_base, slow_base, alive_base, presses_base, trivial⟩) rfl (g := 5) (fn := Try.f5)
    (args' := [.agg [.row n 5 (nestF 0 2 (nsA f_A) (nsM 0 f_A) (nsV 0 f_A)), .row h 1 (rowF .i64 (ivf f_nd)), .row q 1 (rowF .i64 (ivf f_pr)), .int .i64 st, .int .i64 ro, .int .i64 pk, .int .i64 fr], .int .u8 wh, .int .u8 mo]) (fn_5) rfl 1000 (by
    simp only [BdL, Bd, and_self, and_true, true_and]
    exact ⟨(fun i j hi hj => nest_bd i_A i j hi hj), (fun i j hi hj => by rw [i_nd i j hi hj]; trivial), (fun i j hi hj => by rw [i_pr i j hi hj]; trivial)⟩) ⟨SameD.agg ⟨SameD.nest i_A, SameD.int i_nd, SameD.int i_pr, SameD.rfl' _, SameD.rfl' _, SameD.rfl' _, SameD.rfl' _, trivial⟩, SameD.rfl' _, SameD.rfl' _, trivial⟩ ?_
  generalize nsA f_A = A
  generalize nsM 0 f_A = M
  generalize nsV 0 f_A = V
  generalize ivf f_nd = nd
  generalize ivf f_pr = pr
  simp only [rowF_eq]
  cases c1 : gr0 n M h q with
  | true => simp only [c1, slow_eq, alive_eq, presses_eq, cheapest_eq, p5_9, p5_14, p5_16, p5_18, p5_19, great_nil, great0_eq, chE_ns, chC_ns, chN_ns, cAt_ns, psB_ns, ckR_ns, planF, nestF_eq, nestR_lit, nsM_lit, nsV_lit, Try.f5, go_sem, ↓reduceIte, Nat.reduceAdd, Nat.reduceSub, Nat.reduceMul, Nat.reduceEqDiff, Nat.reduceLT, Nat.reduceLeDiff, Int.reduceToNat, Int.reduceLE, Int.reduceLT, Int.reduceEq, Int.reduceNeg, reduceCtorEq]
  | false =>
  obtain ⟨h1, h2, h3, h4⟩ := gr0_false c1
  have hm : ∀ i, i < n → M i ≤ 1000000 := fun i hi => by have := h2 i hi; omega
  have hsl : n ≤ 6 ∧ (∀ (i : Nat), i < n → M i ≤ 6) ∧ h ≤ 1000000 := ⟨h1, h2, by omega⟩
  have hch : (n ≤ 1000000 ∧ ∀ (i : Nat), i < n → M i ≤ 1000000) ∧ h ≤ 1000000 ∧ q ≤ 1000000 := ⟨⟨by omega, hm⟩, by omega, by omega⟩
  cases c2 : slowB n M h 20000 with
  | true => simp only [c1, c2, slow_eq, alive_eq, presses_eq, cheapest_eq, p5_9, p5_14, p5_16, p5_18, p5_19, great_nil, great0_eq, chE_ns, chC_ns, chN_ns, cAt_ns, psB_ns, ckR_ns, planF, nestF_eq, nestR_lit, nsM_lit, nsV_lit, Try.f5, go_sem, ↓reduceIte, Nat.reduceAdd, Nat.reduceSub, Nat.reduceMul, Nat.reduceEqDiff, Nat.reduceLT, Nat.reduceLeDiff, Int.reduceToNat, Int.reduceLE, Int.reduceLT, Int.reduceEq, Int.reduceNeg, reduceCtorEq]; exact hsl
  | false =>
  cases hb : psB n A M V h nd q pr st ro pk fr with
  | false =>
    have e1 : ∀ D, chE false D = 1 := fun _ => rfl
    have e3 : ∀ D, chC false D = 0 := fun _ => rfl
    simp only [c1, c2, hb, e1, e3, slow_eq, alive_eq, presses_eq, cheapest_eq, p5_9, p5_14, p5_16, p5_18, p5_19, great_nil, great0_eq, chE_ns, chC_ns, chN_ns, cAt_ns, psB_ns, ckR_ns, planF, nestF_eq, nestR_lit, nsM_lit, nsV_lit, Try.f5, go_sem, ↓reduceIte, Nat.reduceAdd, Nat.reduceSub, Nat.reduceMul, Nat.reduceEqDiff, Nat.reduceLT, Nat.reduceLeDiff, Int.reduceToNat, Int.reduceLE, Int.reduceLT, Int.reduceEq, Int.reduceNeg, reduceCtorEq]
    exact ⟨hsl, hch⟩
  | true =>
  by_cases he : chE true ⟨n, A, M, V, h, nd, pr, st, ro, pk, fr⟩ = 0
  rotate_left
  · have e3 : chC true ⟨n, A, M, V, h, nd, pr, st, ro, pk, fr⟩ = 0 := by simp only [chC, if_neg he]
    simp only [c1, c2, hb, he, e3, slow_eq, alive_eq, presses_eq, cheapest_eq, p5_9, p5_14, p5_16, p5_18, p5_19, great_nil, great0_eq, chE_ns, chC_ns, chN_ns, cAt_ns, psB_ns, ckR_ns, planF, nestF_eq, nestR_lit, nsM_lit, nsV_lit, Try.f5, go_sem, ↓reduceIte, Nat.reduceAdd, Nat.reduceSub, Nat.reduceMul, Nat.reduceEqDiff, Nat.reduceLT, Nat.reduceLeDiff, Int.reduceToNat, Int.reduceLE, Int.reduceLT, Int.reduceEq, Int.reduceNeg, reduceCtorEq]
    exact ⟨hsl, hch⟩
  obtain ⟨rfl, hOk⟩ := psB_iff.1 hb
  have k1 : decide (chE true ⟨n, A, M, V, q, nd, pr, st, ro, pk, fr⟩ = 0) = true := decide_eq_true he
  simp only [c1, c2, hb, k1, alive_eq, slow_eq, presses_eq, cheapest_eq, p5_14, p5_16, p5_18, p5_19, great_nil, great0_eq, chE_ns, chC_ns, chN_ns, cAt_ns, psB_ns, ckR_ns, planF, nestF_eq, nestR_lit, nsM_lit, nsV_lit, Try.f5, go_sem, ↓reduceIte, Nat.reduceAdd, Nat.reduceSub, Nat.reduceMul, Nat.reduceEqDiff, Nat.reduceLT, Nat.reduceLeDiff, Int.reduceToNat, Int.reduceLE, Int.reduceLT, Int.reduceEq, Int.reduceNeg, reduceCtorEq]
  refine ⟨⟨h1, h2, by omega⟩, ⟨⟨by omega, hm⟩, by omega⟩, ⟨⟨by omega, hm⟩, by omega⟩, ⟨by kernel_rfl, by kernel_rfl⟩, ?_⟩
  obtain ⟨o, ho⟩ : ∃ o, ops9 = o := ⟨_, rfl⟩
  have ho2 := ho
  simp only [ops9, Try.f5, findR, ↓reduceIte, Nat.reduceEqDiff, reduceCtorEq] at ho2
  rw [ho2, ← ho]
  clear ho ho2
  refine rg9 rfl rfl ?_ ?_
  · simp only [lookS, ↓reduceIte, Nat.reduceEqDiff, Nat.reduceLT]
  intro a b c d e hok
  obtain ⟨⟨a1, a2⟩, ⟨b1, b2⟩, ⟨g1, g2⟩, ⟨d1, d2⟩, ⟨f1, f2⟩, ⟨nab, nac, nad, nae⟩, ⟨nbc, nbd, nbe⟩, ⟨ncd, nce⟩, nde⟩ := ok5_iff hok
  obtain ⟨L0, hL0⟩ : ∃ L : List Blk, L = [.live 25 [.row n 5 (nestF 0 2 A M V), .row q 1 fun i j => .int .i64 (nd i j), .row q 1 fun i j => .int .i64 (pr i j), .int .i64 st, .int .i64 ro, .int .i64 pk, .int .i64 fr], .live 25 [.row n 5 (nestF 0 2 A M V), .row q 1 fun i j => .int .i64 (nd i j), .row q 1 fun i j => .int .i64 (pr i j), .int .i64 st, .int .i64 ro, .int .i64 pk, .int .i64 fr], .live 25 [.row n 5 (nestF 0 2 A M V), .row q 1 fun i j => .int .i64 (nd i j), .row q 1 fun i j => .int .i64 (pr i j), .int .i64 st, .int .i64 ro, .int .i64 pk, .int .i64 fr], .live 25 [.row n 5 (nestF 0 2 A M V), .row q 1 fun i j => .int .i64 (nd i j), .row q 1 fun i j => .int .i64 (pr i j), .int .i64 st, .int .i64 ro, .int .i64 pk, .int .i64 fr], .live 25 [.row n 5 (nestF 0 2 A M V), .row q 1 fun i j => .int .i64 (nd i j), .row q 1 fun i j => .int .i64 (pr i j), .int .i64 st, .int .i64 ro, .int .i64 pk, .int .i64 fr], .live 25 [.row n 5 (nestF 0 2 A M V), .row q 1 fun i j => .int .i64 (nd i j), .row q 1 fun i j => .int .i64 (pr i j), .int .i64 st, .int .i64 ro, .int .i64 pk, .int .i64 fr]] := ⟨_, rfl⟩
  rw [← hL0]
  have hg : ∀ j, j ≤ 5 → getB L0 j = .live 25 [.row n 5 (nestF 0 2 A M V), .row q 1 fun i j => .int .i64 (nd i j), .row q 1 fun i j => .int .i64 (pr i j), .int .i64 st, .int .i64 ro, .int .i64 pk, .int .i64 fr] := fun j hj => by
    rw [hL0]
    rcases (by omega : j = 0 ∨ j = 1 ∨ j = 2 ∨ j = 3 ∨ j = 4 ∨ j = 5) with rfl | rfl | rfl | rfl | rfl | rfl <;> rfl
  have hlen : lenB L0 = 6 := by rw [hL0]; rfl
  clear hL0 hok
  have ga := hg a a2
  have gb := hg b b2
  have gc := hg c g2
  have gd := hg d d2
  have ge := hg e f2
  have g0 := hg 0 (by omega)
  clear hg
  have la : (a < 6) = True := eq_true (by omega)
  have lb : (b < 6) = True := eq_true (by omega)
  have lc : (c < 6) = True := eq_true (by omega)
  have ld : (d < 6) = True := eq_true (by omega)
  have le : (e < 6) = True := eq_true (by omega)
  have z1 : (0 = a) = False := eq_false (by omega)
  have z2 : (0 = b) = False := eq_false (by omega)
  have z3 : (0 = c) = False := eq_false (by omega)
  have z4 : (0 = d) = False := eq_false (by omega)
  have z5 : (0 = e) = False := eq_false (by omega)
  have p1 : (b = a) = False := eq_false (by omega)
  have p2 : (c = a) = False := eq_false (by omega)
  have p3 : (c = b) = False := eq_false (by omega)
  have p4 : (d = a) = False := eq_false (by omega)
  have p5 : (d = b) = False := eq_false (by omega)
  have p6 : (d = c) = False := eq_false (by omega)
  have p7 : (e = a) = False := eq_false (by omega)
  have p8 : (e = b) = False := eq_false (by omega)
  have p9 : (e = c) = False := eq_false (by omega)
  have p10 : (e = d) = False := eq_false (by omega)
  have q1 : (a = b) = False := eq_false (by omega)
  have q2 : (a = c) = False := eq_false (by omega)
  have q3 : (b = c) = False := eq_false (by omega)
  have q4 : (a = d) = False := eq_false (by omega)
  have q5 : (b = d) = False := eq_false (by omega)
  have q6 : (c = d) = False := eq_false (by omega)
  have q7 : (a = e) = False := eq_false (by omega)
  have q8 : (b = e) = False := eq_false (by omega)
  have q9 : (c = e) = False := eq_false (by omega)
  have q10 : (d = e) = False := eq_false (by omega)
  have hn := hOk.n
  have hro := hOk.ro
  have hpk := hOk.pk
  simp only at hn hro hpk
  have hmo := wf_u8 wf_mo
  have hwh := wf_u8 wf_wh
  obtain ⟨w, rfl⟩ : ∃ c : Nat, wh = c := ⟨wh.toNat, by omega⟩
  have e1 : IntKind.i64.wrap mo = mo := wrap_id (by omega) (by omega)
  have e3 : (IntKind.i64.wrap (w : Int)).tmod (n : Int) = ((w % n : Nat) : Int) := by rw [wrap_id (by omega) (by omega)]; rfl
  have hkx : w % n < n := Nat.mod_lt _ (by omega)
  have e4 : IntKind.i64.wrap (ro + mo) = ro + mo := wrap_id (by omega) (by omega)
  have e5 : IntKind.i64.wrap (pk - mo) = pk - mo := wrap_id (by omega) (by omega)
  generalize w % n = kx at e3 hkx
  have hst := hOk.start kx hkx
  have hoi := hOk.oil kx hkx
  simp only at hst hoi
  have e6 : IntKind.i64.wrap (A kx 1 - mo) = A kx 1 - mo := wrap_id (by omega) (by omega)
  have e7 : IntKind.i64.wrap (A kx 3 + mo) = A kx 3 + mo := wrap_id (by omega) (by omega)
  rcases Nat.eq_zero_or_pos q with hq0 | hq0
  · obtain rfl : q = 0 := hq0
    have kq : decide (0 < ((0 : Nat) : Int)) = false := by decide
    simp only [updF_nest (show 0 < 1 by decide), updF_nest (show 0 < 3 by decide), updF_int, e1, e3, e4, e5, e6, e7, Int.toNat_natCast, kq, getBS, lenB_set, hlen, la, lb, lc, ld, le, z1, z2, z3, z4, z5, p1, p2, p3, p4, p5, p6, p7, p8, p9, p10, q1, q2, q3, q4, q5, q6, q7, q8, q9, q10, ga, gb, gc, gd, ge, g0, alive_eq, slow_eq, presses_eq, cheapest_eq, p5_14, p5_16, p5_18, p5_19, great_nil, great0_eq, chE_ns, chC_ns, chN_ns, cAt_ns, psB_ns, ckR_ns, planF, nestF_eq, nestR_lit, nsM_lit, nsV_lit, catF_nil, Try.f5, go_sem, ↓reduceIte, Nat.reduceAdd, Nat.reduceSub, Nat.reduceMul, Nat.reduceEqDiff, Nat.reduceLT, Nat.reduceLeDiff, Int.reduceToNat, Int.reduceLE, Int.reduceLT, Int.reduceEq, Int.reduceNeg, reduceCtorEq]
    have o0 : PD.Ok (⟨n, A, M, V, 0, nd, pr, st, (min 100 (ro + mo)), pk, fr⟩ : PD) := ⟨hOk.n, hOk.h, hOk.nd, hOk.pr, hOk.oil, hOk.least, hOk.on, hOk.start, hOk.M, hOk.pow, hOk.cold, by simp only []; omega, by have := hOk.st; simp only [] at this ⊢; omega, hOk.pk, hOk.fr⟩
    have Lp0 : LessP (⟨n, A, M, V, 0, nd, pr, st, ro, pk, fr⟩ : PD) (⟨n, A, M, V, 0, nd, pr, st, (min 100 (ro + mo)), pk, fr⟩ : PD) := ⟨rfl, rfl, rfl, rfl, rfl, rfl, rfl, fun _ _ => rfl, fun _ _ => rfl, fun _ _ => Int.le_refl _, fun _ _ => Int.le_refl _, fun _ _ => Int.le_refl _, Int.le_refl _, by simp only []; omega⟩
    have u0 : psB n A M V 0 nd 0 pr st (min 100 (ro + mo)) pk fr = true := psB_iff.2 ⟨rfl, o0⟩
    obtain ⟨v0, w0⟩ := less_cheap hOk Lp0 he
    replace v0 : decide (chE true (⟨n, A, M, V, 0, nd, pr, st, (min 100 (ro + mo)), pk, fr⟩ : PD) = 0) = true := decide_eq_true v0
    replace w0 : decide (chC true (⟨n, A, M, V, 0, nd, pr, st, ro, pk, fr⟩ : PD) < chC true (⟨n, A, M, V, 0, nd, pr, st, (min 100 (ro + mo)), pk, fr⟩ : PD)) = false := decide_eq_false (by omega)
    have u1 := hb
    have v1 : decide (chE true (⟨n, A, M, V, 0, nd, pr, st, ro, pk, fr⟩ : PD) = 0) = true := decide_eq_true he
    have w1 : decide (chC true (⟨n, A, M, V, 0, nd, pr, st, ro, pk, fr⟩ : PD) < chC true (⟨n, A, M, V, 0, nd, pr, st, ro, pk, fr⟩ : PD)) = false := decide_eq_false (by omega)
    have o2 : PD.Ok (⟨n, A, M, V, 0, nd, pr, st, ro, (max 0 (pk - mo)), fr⟩ : PD) := ⟨hOk.n, hOk.h, hOk.nd, hOk.pr, hOk.oil, hOk.least, hOk.on, hOk.start, hOk.M, hOk.pow, hOk.cold, hOk.ro, hOk.st, by simp only []; omega, hOk.fr⟩
    have Lp2 : LessP (⟨n, A, M, V, 0, nd, pr, st, ro, pk, fr⟩ : PD) (⟨n, A, M, V, 0, nd, pr, st, ro, (max 0 (pk - mo)), fr⟩ : PD) := ⟨rfl, rfl, rfl, rfl, rfl, rfl, rfl, fun _ _ => rfl, fun _ _ => rfl, fun _ _ => Int.le_refl _, fun _ _ => Int.le_refl _, fun _ _ => Int.le_refl _, by simp only []; omega, Int.le_refl _⟩
    have u2 : psB n A M V 0 nd 0 pr st ro (max 0 (pk - mo)) fr = true := psB_iff.2 ⟨rfl, o2⟩
    obtain ⟨v2, w2⟩ := less_cheap hOk Lp2 he
    replace v2 : decide (chE true (⟨n, A, M, V, 0, nd, pr, st, ro, (max 0 (pk - mo)), fr⟩ : PD) = 0) = true := decide_eq_true v2
    replace w2 : decide (chC true (⟨n, A, M, V, 0, nd, pr, st, ro, pk, fr⟩ : PD) < chC true (⟨n, A, M, V, 0, nd, pr, st, ro, (max 0 (pk - mo)), fr⟩ : PD)) = false := decide_eq_false (by omega)
    have o3 : PD.Ok (⟨n, (setA A kx 1 (max 0 (A kx 1 - mo))), M, V, 0, nd, pr, st, ro, pk, fr⟩ : PD) := ⟨hOk.n, hOk.h, hOk.nd, hOk.pr, fun i hi => by have := hOk.oil i hi; simp only [setA] at this ⊢; rw [if_neg (by omega)]; exact this, fun i hi => by have := hOk.least i hi; simp only [setA] at this ⊢; rw [if_neg (by omega), if_neg (by omega)]; exact this, fun i hi => by have := hOk.on i hi; simp only [setA] at this ⊢; rw [if_neg (by omega), if_neg (by omega)]; exact this, fun i hi => by have := hOk.start i hi; simp only [setA] at this ⊢; split <;> omega, hOk.M, hOk.pow, hOk.cold, hOk.ro, hOk.st, hOk.pk, hOk.fr⟩
    have Lp3 : LessP (⟨n, A, M, V, 0, nd, pr, st, ro, pk, fr⟩ : PD) (⟨n, (setA A kx 1 (max 0 (A kx 1 - mo))), M, V, 0, nd, pr, st, ro, pk, fr⟩ : PD) := ⟨rfl, rfl, rfl, rfl, rfl, rfl, rfl, fun i hi => by simp only [setA]; rw [if_neg (by omega)], fun i hi => by simp only [setA]; rw [if_neg (by omega)], fun i hi => by simp only [setA]; rw [if_neg (by omega)]; exact Int.le_refl _, fun i hi => by have := hOk.start i hi; simp only [setA] at this ⊢; split; (rename_i g; rw [g.1]; omega); omega, fun _ _ => Int.le_refl _, Int.le_refl _, Int.le_refl _⟩
    have u3 : psB n (setA A kx 1 (max 0 (A kx 1 - mo))) M V 0 nd 0 pr st ro pk fr = true := psB_iff.2 ⟨rfl, o3⟩
    obtain ⟨v3, w3⟩ := less_cheap hOk Lp3 he
    replace v3 : decide (chE true (⟨n, (setA A kx 1 (max 0 (A kx 1 - mo))), M, V, 0, nd, pr, st, ro, pk, fr⟩ : PD) = 0) = true := decide_eq_true v3
    replace w3 : decide (chC true (⟨n, A, M, V, 0, nd, pr, st, ro, pk, fr⟩ : PD) < chC true (⟨n, (setA A kx 1 (max 0 (A kx 1 - mo))), M, V, 0, nd, pr, st, ro, pk, fr⟩ : PD)) = false := decide_eq_false (by omega)
    have o4 : PD.Ok (⟨n, (setA A kx 3 (min 12 (A kx 3 + mo))), M, V, 0, nd, pr, st, ro, pk, fr⟩ : PD) := ⟨hOk.n, hOk.h, hOk.nd, hOk.pr, fun i hi => by have := hOk.oil i hi; simp only [setA] at this ⊢; split <;> omega, fun i hi => by have := hOk.least i hi; simp only [setA] at this ⊢; rw [if_neg (by omega)]; split; (rename_i g; rw [g.1] at this ⊢; omega); omega, fun i hi => by have := hOk.on i hi; simp only [setA] at this ⊢; rw [if_neg (by omega)]; split; (rename_i g; rw [g.1] at this ⊢; omega); omega, fun i hi => by have := hOk.start i hi; simp only [setA] at this ⊢; rw [if_neg (by omega)]; exact this, hOk.M, hOk.pow, hOk.cold, hOk.ro, hOk.st, hOk.pk, hOk.fr⟩
    have Lp4 : LessP (⟨n, A, M, V, 0, nd, pr, st, ro, pk, fr⟩ : PD) (⟨n, (setA A kx 3 (min 12 (A kx 3 + mo))), M, V, 0, nd, pr, st, ro, pk, fr⟩ : PD) := ⟨rfl, rfl, rfl, rfl, rfl, rfl, rfl, fun i hi => by simp only [setA]; rw [if_neg (by omega)], fun i hi => by simp only [setA]; rw [if_neg (by omega)], fun i hi => by have := hOk.oil i hi; simp only [setA] at this ⊢; split; (rename_i g; rw [g.1] at this ⊢; omega); omega, fun i hi => by simp only [setA]; rw [if_neg (by omega)]; exact Int.le_refl _, fun _ _ => Int.le_refl _, Int.le_refl _, Int.le_refl _⟩
    have u4 : psB n (setA A kx 3 (min 12 (A kx 3 + mo))) M V 0 nd 0 pr st ro pk fr = true := psB_iff.2 ⟨rfl, o4⟩
    obtain ⟨v4, w4⟩ := less_cheap hOk Lp4 he
    replace v4 : decide (chE true (⟨n, (setA A kx 3 (min 12 (A kx 3 + mo))), M, V, 0, nd, pr, st, ro, pk, fr⟩ : PD) = 0) = true := decide_eq_true v4
    replace w4 : decide (chC true (⟨n, A, M, V, 0, nd, pr, st, ro, pk, fr⟩ : PD) < chC true (⟨n, (setA A kx 3 (min 12 (A kx 3 + mo))), M, V, 0, nd, pr, st, ro, pk, fr⟩ : PD)) = false := decide_eq_false (by omega)
    have b1 : ((0 : Nat) : Int) * 8 ≤ 140737488355328 ∧ ((0 : Nat) : Int) ≤ 9223372036854775807 := by omega
    have b2 : (n : Int) * 56 ≤ 140737488355328 ∧ (n : Int) ≤ 9223372036854775807 := by omega
    repeat' apply And.intro
    all_goals first | exact b1.1 | exact b1.2 | exact b2.1 | exact b2.2 | omega | kernel_rfl | skip
    all_goals
      refine loop_ofH { x : Nat // x ≤ 5 } (fun x => [(143, .int .i64 (x.1 : Int)), (142, .int .i64 ((5 : Nat) : Int)), (141, .vec 19 0), (8, .int .i64 (chC true ⟨n, A, M, V, 0, nd, pr, st, ro, pk, fr⟩))]) (fun h _ => ⟨[.dead, .dead, .dead, .dead, .dead, .dead], [.dead, .dead, .dead, .dead, .dead, .dead, .dead, .dead, .dead, .dead, .dead, .dead, .dead, .dead, .dead, .dead, .dead, .dead, .dead, .live 0 25 7 5 (cellAt [(.row n 5 (nestF 0 2 A M V)), (.row 0 1 fun i j => .int .i64 (nd i j)), (.row 0 1 fun i j => .int .i64 (pr i j)), (.int .i64 (st)), (.int .i64 (min 100 (ro + mo))), (.int .i64 (pk)), (.int .i64 (fr)), (.row n 5 (nestF 0 2 A M V)), (.row 0 1 fun i j => .int .i64 (nd i j)), (.row 0 1 fun i j => .int .i64 (pr i j)), (.int .i64 (st)), (.int .i64 (ro)), (.int .i64 (pk)), (.int .i64 (fr)), (.row n 5 (nestF 0 2 A M V)), (.row 0 1 fun i j => .int .i64 (nd i j)), (.row 0 1 fun i j => .int .i64 (pr i j)), (.int .i64 (st)), (.int .i64 (ro)), (.int .i64 (max 0 (pk - mo))), (.int .i64 (fr)), (.row n 5 (nestF 0 2 (setA A kx 1 (max 0 (A kx 1 - mo))) M V)), (.row 0 1 fun i j => .int .i64 (nd i j)), (.row 0 1 fun i j => .int .i64 (pr i j)), (.int .i64 (st)), (.int .i64 (ro)), (.int .i64 (pk)), (.int .i64 (fr)), (.row n 5 (nestF 0 2 (setA A kx 3 (min 12 (A kx 3 + mo))) M V)), (.row 0 1 fun i j => .int .i64 (nd i j)), (.row 0 1 fun i j => .int .i64 (pr i j)), (.int .i64 (st)), (.int .i64 (ro)), (.int .i64 (pk)), (.int .i64 (fr))] 7)]⟩) (fun x => 5 - x.1) (fun _ => ⟨by simp only [lenB_set, hlen, lenB], rfl⟩) ⟨0, by omega⟩ ?_ ?_
      · refine sub_fz 16 19 (fun i j => gV 16 1 _ _ _ _) rfl rfl (by decide) (fun i j _ _ => gV_or _ _ _ _ _ _) ?_
        refine sub_fz 17 19 (fun i j => gV 17 1 _ _ _ _) rfl rfl (by decide) (fun i j _ _ => gV_or _ _ _ _ _ _) ?_
        refine sub_fz 18 19 (fun i j => gV 18 1 _ _ _ _) rfl rfl (by decide) (fun i j _ _ => gV_or _ _ _ _ _ _) ?_
        refine sub_of ?_ (subB_dd 6 _ (by simp only [lenB_set, hlen]; omega)) ?_ ?_ ?_ ?_
        · simp only [go_sem, ↓reduceIte, Nat.reduceAdd, Nat.reduceSub, Nat.reduceMul, Nat.reduceEqDiff, Nat.reduceLT, Nat.reduceLeDiff, Int.reduceToNat, Int.reduceLE, Int.reduceLT, Int.reduceEq, Int.reduceNeg, reduceCtorEq] <;> (try simp) <;> (try exact fun j _ => Bd_nth (by simp [BdL, Bd]) j) <;> (try exact bd_setL (by simp [bdAs, BdL, Bd])) <;> (try exact nestF_bd _ _ _ _ _ _ _ _ _)
        · refine ⟨trivial, trivial, trivial, trivial, trivial, trivial, trivial, trivial, trivial, trivial, trivial, trivial, trivial, trivial, trivial, trivial, trivial, trivial, trivial, ⟨rfl, rfl, rfl, rfl, fun i j hi hj => ?_⟩, trivial⟩
          rcases (by omega : i = 0 ∨ i = 1 ∨ i = 2 ∨ i = 3 ∨ i = 4) with rfl | rfl | rfl | rfl | rfl <;> rcases (by omega : j = 0 ∨ j = 1 ∨ j = 2 ∨ j = 3 ∨ j = 4 ∨ j = 5 ∨ j = 6) with rfl | rfl | rfl | rfl | rfl | rfl | rfl <;> rfl
        · simp only [go_sem, ↓reduceIte, Nat.reduceAdd, Nat.reduceSub, Nat.reduceMul, Nat.reduceEqDiff, Nat.reduceLT, Nat.reduceLeDiff, Int.reduceToNat, Int.reduceLE, Int.reduceLT, Int.reduceEq, Int.reduceNeg, reduceCtorEq] <;> (try simp) <;> (try exact fun j _ => Bd_nth (by simp [BdL, Bd]) j) <;> (try exact bd_setL (by simp [bdAs, BdL, Bd])) <;> (try exact nestF_bd _ _ _ _ _ _ _ _ _)
        · simp only [go_sem, ↓reduceIte, Nat.reduceAdd, Nat.reduceSub, Nat.reduceMul, Nat.reduceEqDiff, Nat.reduceLT, Nat.reduceLeDiff, Int.reduceToNat, Int.reduceLE, Int.reduceLT, Int.reduceEq, Int.reduceNeg, reduceCtorEq]
        · simp only [cellAt, go_sem, ↓reduceIte, Nat.reduceAdd, Nat.reduceSub, Nat.reduceMul, Nat.reduceEqDiff, Nat.reduceLT, Nat.reduceLeDiff, Int.reduceToNat, Int.reduceLE, Int.reduceLT, Int.reduceEq, Int.reduceNeg, reduceCtorEq]
          intro i j _ _
          refine Bd_nth ?_ _
          simp only [BdL, Bd, and_self, and_true, true_and, implies_true]
          (repeat' apply And.intro) <;> exact nestF_bd _ _ _ _ _ _ _ _ _
      · clear ga gb gc gd ge g0 hlen
        rintro ⟨x, hx5⟩
        have pre1 : (n ≤ 1000000 ∧ ∀ (i : Nat), i < n → M i ≤ 1000000) ∧ 0 ≤ 1000000 := ⟨⟨by omega, hm⟩, by omega⟩
        rcases (by omega : x = 0 ∨ x = 1 ∨ x = 2 ∨ x = 3 ∨ x = 4 ∨ x = 5) with rfl | rfl | rfl | rfl | rfl | rfl
        · have dx : decide (((0 : Nat) : Int) < ((5 : Nat) : Int)) = true := by decide
          have wx : IntKind.i64.wrap (((0 : Nat) : Int) + 1) = ((0 + 1 : Nat) : Int) := by decide
          simp only [dx, wx, u0, v0, w0, cellAt, Int.toNat_natCast, alive_eq, slow_eq, presses_eq, cheapest_eq, great_nil, great0_eq, chE_ns, chC_ns, chN_ns, cAt_ns, psB_ns, ckR_ns, planF, nestF_eq, nestR_lit, nsM_lit, nsV_lit, catF_nil, Try.f5, go_sem, ↓reduceIte, Nat.reduceAdd, Nat.reduceSub, Nat.reduceMul, Nat.reduceEqDiff, Nat.reduceLT, Nat.reduceLeDiff, Int.reduceToNat, Int.reduceLE, Int.reduceLT, Int.reduceEq, Int.reduceNeg, reduceCtorEq]
          refine ⟨by omega, pre1.1, ⟨0 + 1, by omega⟩, by simp only []; omega, ?_⟩
          apply sub_of <;> simp only [wx, cellAt, go_sem, ↓reduceIte, Nat.reduceAdd, Nat.reduceSub, Nat.reduceMul, Nat.reduceEqDiff, Nat.reduceLT, Nat.reduceLeDiff, Int.reduceToNat, Int.reduceLE, Int.reduceLT, Int.reduceEq, Int.reduceNeg, reduceCtorEq] <;> (try simp) <;> (try exact fun j _ => Bd_nth (by simp [BdL, Bd]) j) <;> (try exact bd_setL (by simp [bdAs, BdL, Bd])) <;> (try exact nestF_bd _ _ _ _ _ _ _ _ _)
          all_goals first
            | rfl
            | (intro i j _ _
               refine Bd_nth ?_ _
               simp only [BdL, Bd, and_self, and_true, true_and, implies_true]
               (repeat' apply And.intro) <;> exact nestF_bd _ _ _ _ _ _ _ _ _)
        · have dx : decide (((1 : Nat) : Int) < ((5 : Nat) : Int)) = true := by decide
          have wx : IntKind.i64.wrap (((1 : Nat) : Int) + 1) = ((1 + 1 : Nat) : Int) := by decide
          simp only [dx, wx, u1, v1, w1, cellAt, Int.toNat_natCast, alive_eq, slow_eq, presses_eq, cheapest_eq, great_nil, great0_eq, chE_ns, chC_ns, chN_ns, cAt_ns, psB_ns, ckR_ns, planF, nestF_eq, nestR_lit, nsM_lit, nsV_lit, catF_nil, Try.f5, go_sem, ↓reduceIte, Nat.reduceAdd, Nat.reduceSub, Nat.reduceMul, Nat.reduceEqDiff, Nat.reduceLT, Nat.reduceLeDiff, Int.reduceToNat, Int.reduceLE, Int.reduceLT, Int.reduceEq, Int.reduceNeg, reduceCtorEq]
          refine ⟨by omega, pre1.1, ⟨1 + 1, by omega⟩, by simp only []; omega, ?_⟩
          apply sub_of <;> simp only [wx, cellAt, go_sem, ↓reduceIte, Nat.reduceAdd, Nat.reduceSub, Nat.reduceMul, Nat.reduceEqDiff, Nat.reduceLT, Nat.reduceLeDiff, Int.reduceToNat, Int.reduceLE, Int.reduceLT, Int.reduceEq, Int.reduceNeg, reduceCtorEq] <;> (try simp) <;> (try exact fun j _ => Bd_nth (by simp [BdL, Bd]) j) <;> (try exact bd_setL (by simp [bdAs, BdL, Bd])) <;> (try exact nestF_bd _ _ _ _ _ _ _ _ _)
          all_goals first
            | rfl
            | (intro i j _ _
               refine Bd_nth ?_ _
               simp only [BdL, Bd, and_self, and_true, true_and, implies_true]
               (repeat' apply And.intro) <;> exact nestF_bd _ _ _ _ _ _ _ _ _)
        · have dx : decide (((2 : Nat) : Int) < ((5 : Nat) : Int)) = true := by decide
          have wx : IntKind.i64.wrap (((2 : Nat) : Int) + 1) = ((2 + 1 : Nat) : Int) := by decide
          simp only [dx, wx, u2, v2, w2, cellAt, Int.toNat_natCast, alive_eq, slow_eq, presses_eq, cheapest_eq, great_nil, great0_eq, chE_ns, chC_ns, chN_ns, cAt_ns, psB_ns, ckR_ns, planF, nestF_eq, nestR_lit, nsM_lit, nsV_lit, catF_nil, Try.f5, go_sem, ↓reduceIte, Nat.reduceAdd, Nat.reduceSub, Nat.reduceMul, Nat.reduceEqDiff, Nat.reduceLT, Nat.reduceLeDiff, Int.reduceToNat, Int.reduceLE, Int.reduceLT, Int.reduceEq, Int.reduceNeg, reduceCtorEq]
          refine ⟨by omega, pre1.1, ⟨2 + 1, by omega⟩, by simp only []; omega, ?_⟩
          apply sub_of <;> simp only [wx, cellAt, go_sem, ↓reduceIte, Nat.reduceAdd, Nat.reduceSub, Nat.reduceMul, Nat.reduceEqDiff, Nat.reduceLT, Nat.reduceLeDiff, Int.reduceToNat, Int.reduceLE, Int.reduceLT, Int.reduceEq, Int.reduceNeg, reduceCtorEq] <;> (try simp) <;> (try exact fun j _ => Bd_nth (by simp [BdL, Bd]) j) <;> (try exact bd_setL (by simp [bdAs, BdL, Bd])) <;> (try exact nestF_bd _ _ _ _ _ _ _ _ _)
          all_goals first
            | rfl
            | (intro i j _ _
               refine Bd_nth ?_ _
               simp only [BdL, Bd, and_self, and_true, true_and, implies_true]
               (repeat' apply And.intro) <;> exact nestF_bd _ _ _ _ _ _ _ _ _)
        · have dx : decide (((3 : Nat) : Int) < ((5 : Nat) : Int)) = true := by decide
          have wx : IntKind.i64.wrap (((3 : Nat) : Int) + 1) = ((3 + 1 : Nat) : Int) := by decide
          simp only [dx, wx, u3, v3, w3, cellAt, Int.toNat_natCast, alive_eq, slow_eq, presses_eq, cheapest_eq, great_nil, great0_eq, chE_ns, chC_ns, chN_ns, cAt_ns, psB_ns, ckR_ns, planF, nestF_eq, nestR_lit, nsM_lit, nsV_lit, catF_nil, Try.f5, go_sem, ↓reduceIte, Nat.reduceAdd, Nat.reduceSub, Nat.reduceMul, Nat.reduceEqDiff, Nat.reduceLT, Nat.reduceLeDiff, Int.reduceToNat, Int.reduceLE, Int.reduceLT, Int.reduceEq, Int.reduceNeg, reduceCtorEq]
          refine ⟨by omega, pre1.1, ⟨3 + 1, by omega⟩, by simp only []; omega, ?_⟩
          apply sub_of <;> simp only [wx, cellAt, go_sem, ↓reduceIte, Nat.reduceAdd, Nat.reduceSub, Nat.reduceMul, Nat.reduceEqDiff, Nat.reduceLT, Nat.reduceLeDiff, Int.reduceToNat, Int.reduceLE, Int.reduceLT, Int.reduceEq, Int.reduceNeg, reduceCtorEq] <;> (try simp) <;> (try exact fun j _ => Bd_nth (by simp [BdL, Bd]) j) <;> (try exact bd_setL (by simp [bdAs, BdL, Bd])) <;> (try exact nestF_bd _ _ _ _ _ _ _ _ _)
          all_goals first
            | rfl
            | (intro i j _ _
               refine Bd_nth ?_ _
               simp only [BdL, Bd, and_self, and_true, true_and, implies_true]
               (repeat' apply And.intro) <;> exact nestF_bd _ _ _ _ _ _ _ _ _)
        · have dx : decide (((4 : Nat) : Int) < ((5 : Nat) : Int)) = true := by decide
          have wx : IntKind.i64.wrap (((4 : Nat) : Int) + 1) = ((4 + 1 : Nat) : Int) := by decide
          simp only [dx, wx, u4, v4, w4, cellAt, Int.toNat_natCast, alive_eq, slow_eq, presses_eq, cheapest_eq, great_nil, great0_eq, chE_ns, chC_ns, chN_ns, cAt_ns, psB_ns, ckR_ns, planF, nestF_eq, nestR_lit, nsM_lit, nsV_lit, catF_nil, Try.f5, go_sem, ↓reduceIte, Nat.reduceAdd, Nat.reduceSub, Nat.reduceMul, Nat.reduceEqDiff, Nat.reduceLT, Nat.reduceLeDiff, Int.reduceToNat, Int.reduceLE, Int.reduceLT, Int.reduceEq, Int.reduceNeg, reduceCtorEq]
          refine ⟨by omega, pre1.1, ⟨4 + 1, by omega⟩, by simp only []; omega, ?_⟩
          apply sub_of <;> simp only [wx, cellAt, go_sem, ↓reduceIte, Nat.reduceAdd, Nat.reduceSub, Nat.reduceMul, Nat.reduceEqDiff, Nat.reduceLT, Nat.reduceLeDiff, Int.reduceToNat, Int.reduceLE, Int.reduceLT, Int.reduceEq, Int.reduceNeg, reduceCtorEq] <;> (try simp) <;> (try exact fun j _ => Bd_nth (by simp [BdL, Bd]) j) <;> (try exact bd_setL (by simp [bdAs, BdL, Bd])) <;> (try exact nestF_bd _ _ _ _ _ _ _ _ _)
          all_goals first
            | rfl
            | (intro i j _ _
               refine Bd_nth ?_ _
               simp only [BdL, Bd, and_self, and_true, true_and, implies_true]
               (repeat' apply And.intro) <;> exact nestF_bd _ _ _ _ _ _ _ _ _)
        · have dx : decide (((5 : Nat) : Int) < ((5 : Nat) : Int)) = false := by decide
          simp only [dx, alive_eq, slow_eq, presses_eq, cheapest_eq, great_nil, great0_eq, chE_ns, chC_ns, chN_ns, cAt_ns, psB_ns, ckR_ns, planF, nestF_eq, nestR_lit, nsM_lit, nsV_lit, catF_nil, Try.f5, go_sem, ↓reduceIte, Nat.reduceAdd, Nat.reduceSub, Nat.reduceMul, Nat.reduceEqDiff, Nat.reduceLT, Nat.reduceLeDiff, Int.reduceToNat, Int.reduceLE, Int.reduceLT, Int.reduceEq, Int.reduceNeg, reduceCtorEq]
  have e2 : (IntKind.i64.wrap (w : Int)).tmod (q : Int) = ((w % q : Nat) : Int) := by rw [wrap_id (by omega) (by omega)]; rfl
  have hhx : w % q < q := Nat.mod_lt _ hq0
  generalize w % q = hx at e2 hhx
  have hpr := hOk.pr hx hhx
  simp only at hpr
  have e8 : IntKind.i64.wrap (pr hx 0 - mo) = pr hx 0 - mo := wrap_id (by omega) (by omega)
  have kq : decide (0 < (q : Int)) = true := decide_eq_true (by omega)
  simp only [updF_nest (show 0 < 1 by decide), updF_nest (show 0 < 3 by decide), updF_int, e1, e2, e3, e4, e5, e6, e7, e8, Int.toNat_natCast, kq, getBS, lenB_set, hlen, la, lb, lc, ld, le, z1, z2, z3, z4, z5, p1, p2, p3, p4, p5, p6, p7, p8, p9, p10, q1, q2, q3, q4, q5, q6, q7, q8, q9, q10, ga, gb, gc, gd, ge, g0, alive_eq, slow_eq, presses_eq, cheapest_eq, p5_14, p5_16, p5_18, p5_19, great_nil, great0_eq, chE_ns, chC_ns, chN_ns, cAt_ns, psB_ns, ckR_ns, planF, nestF_eq, nestR_lit, nsM_lit, nsV_lit, catF_nil, Try.f5, go_sem, ↓reduceIte, Nat.reduceAdd, Nat.reduceSub, Nat.reduceMul, Nat.reduceEqDiff, Nat.reduceLT, Nat.reduceLeDiff, Int.reduceToNat, Int.reduceLE, Int.reduceLT, Int.reduceEq, Int.reduceNeg, reduceCtorEq]
  have o0 : PD.Ok (⟨n, A, M, V, q, nd, pr, st, (min 100 (ro + mo)), pk, fr⟩ : PD) := ⟨hOk.n, hOk.h, hOk.nd, hOk.pr, hOk.oil, hOk.least, hOk.on, hOk.start, hOk.M, hOk.pow, hOk.cold, by simp only []; omega, by have := hOk.st; simp only [] at this ⊢; omega, hOk.pk, hOk.fr⟩
  have Lp0 : LessP (⟨n, A, M, V, q, nd, pr, st, ro, pk, fr⟩ : PD) (⟨n, A, M, V, q, nd, pr, st, (min 100 (ro + mo)), pk, fr⟩ : PD) := ⟨rfl, rfl, rfl, rfl, rfl, rfl, rfl, fun _ _ => rfl, fun _ _ => rfl, fun _ _ => Int.le_refl _, fun _ _ => Int.le_refl _, fun _ _ => Int.le_refl _, Int.le_refl _, by simp only []; omega⟩
  have u0 : psB n A M V q nd q pr st (min 100 (ro + mo)) pk fr = true := psB_iff.2 ⟨rfl, o0⟩
  obtain ⟨v0, w0⟩ := less_cheap hOk Lp0 he
  replace v0 : decide (chE true (⟨n, A, M, V, q, nd, pr, st, (min 100 (ro + mo)), pk, fr⟩ : PD) = 0) = true := decide_eq_true v0
  replace w0 : decide (chC true (⟨n, A, M, V, q, nd, pr, st, ro, pk, fr⟩ : PD) < chC true (⟨n, A, M, V, q, nd, pr, st, (min 100 (ro + mo)), pk, fr⟩ : PD)) = false := decide_eq_false (by omega)
  have o1 : PD.Ok (⟨n, A, M, V, q, nd, (setA pr hx 0 (max 0 (pr hx 0 - mo))), st, ro, pk, fr⟩ : PD) := ⟨hOk.n, hOk.h, hOk.nd, fun i hi => by have := hOk.pr i hi; simp only [setA] at this ⊢; split <;> omega, hOk.oil, hOk.least, hOk.on, hOk.start, hOk.M, hOk.pow, hOk.cold, hOk.ro, hOk.st, hOk.pk, hOk.fr⟩
  have Lp1 : LessP (⟨n, A, M, V, q, nd, pr, st, ro, pk, fr⟩ : PD) (⟨n, A, M, V, q, nd, (setA pr hx 0 (max 0 (pr hx 0 - mo))), st, ro, pk, fr⟩ : PD) := ⟨rfl, rfl, rfl, rfl, rfl, rfl, rfl, fun _ _ => rfl, fun _ _ => rfl, fun _ _ => Int.le_refl _, fun _ _ => Int.le_refl _, fun i hi => by have := hOk.pr i hi; simp only [setA] at this ⊢; split; (rename_i g; rw [g.1]; omega); omega, Int.le_refl _, Int.le_refl _⟩
  have u1 : psB n A M V q nd q (setA pr hx 0 (max 0 (pr hx 0 - mo))) st ro pk fr = true := psB_iff.2 ⟨rfl, o1⟩
  obtain ⟨v1, w1⟩ := less_cheap hOk Lp1 he
  replace v1 : decide (chE true (⟨n, A, M, V, q, nd, (setA pr hx 0 (max 0 (pr hx 0 - mo))), st, ro, pk, fr⟩ : PD) = 0) = true := decide_eq_true v1
  replace w1 : decide (chC true (⟨n, A, M, V, q, nd, pr, st, ro, pk, fr⟩ : PD) < chC true (⟨n, A, M, V, q, nd, (setA pr hx 0 (max 0 (pr hx 0 - mo))), st, ro, pk, fr⟩ : PD)) = false := decide_eq_false (by omega)
  have o2 : PD.Ok (⟨n, A, M, V, q, nd, pr, st, ro, (max 0 (pk - mo)), fr⟩ : PD) := ⟨hOk.n, hOk.h, hOk.nd, hOk.pr, hOk.oil, hOk.least, hOk.on, hOk.start, hOk.M, hOk.pow, hOk.cold, hOk.ro, hOk.st, by simp only []; omega, hOk.fr⟩
  have Lp2 : LessP (⟨n, A, M, V, q, nd, pr, st, ro, pk, fr⟩ : PD) (⟨n, A, M, V, q, nd, pr, st, ro, (max 0 (pk - mo)), fr⟩ : PD) := ⟨rfl, rfl, rfl, rfl, rfl, rfl, rfl, fun _ _ => rfl, fun _ _ => rfl, fun _ _ => Int.le_refl _, fun _ _ => Int.le_refl _, fun _ _ => Int.le_refl _, by simp only []; omega, Int.le_refl _⟩
  have u2 : psB n A M V q nd q pr st ro (max 0 (pk - mo)) fr = true := psB_iff.2 ⟨rfl, o2⟩
  obtain ⟨v2, w2⟩ := less_cheap hOk Lp2 he
  replace v2 : decide (chE true (⟨n, A, M, V, q, nd, pr, st, ro, (max 0 (pk - mo)), fr⟩ : PD) = 0) = true := decide_eq_true v2
  replace w2 : decide (chC true (⟨n, A, M, V, q, nd, pr, st, ro, pk, fr⟩ : PD) < chC true (⟨n, A, M, V, q, nd, pr, st, ro, (max 0 (pk - mo)), fr⟩ : PD)) = false := decide_eq_false (by omega)
  have o3 : PD.Ok (⟨n, (setA A kx 1 (max 0 (A kx 1 - mo))), M, V, q, nd, pr, st, ro, pk, fr⟩ : PD) := ⟨hOk.n, hOk.h, hOk.nd, hOk.pr, fun i hi => by have := hOk.oil i hi; simp only [setA] at this ⊢; rw [if_neg (by omega)]; exact this, fun i hi => by have := hOk.least i hi; simp only [setA] at this ⊢; rw [if_neg (by omega), if_neg (by omega)]; exact this, fun i hi => by have := hOk.on i hi; simp only [setA] at this ⊢; rw [if_neg (by omega), if_neg (by omega)]; exact this, fun i hi => by have := hOk.start i hi; simp only [setA] at this ⊢; split <;> omega, hOk.M, hOk.pow, hOk.cold, hOk.ro, hOk.st, hOk.pk, hOk.fr⟩
  have Lp3 : LessP (⟨n, A, M, V, q, nd, pr, st, ro, pk, fr⟩ : PD) (⟨n, (setA A kx 1 (max 0 (A kx 1 - mo))), M, V, q, nd, pr, st, ro, pk, fr⟩ : PD) := ⟨rfl, rfl, rfl, rfl, rfl, rfl, rfl, fun i hi => by simp only [setA]; rw [if_neg (by omega)], fun i hi => by simp only [setA]; rw [if_neg (by omega)], fun i hi => by simp only [setA]; rw [if_neg (by omega)]; exact Int.le_refl _, fun i hi => by have := hOk.start i hi; simp only [setA] at this ⊢; split; (rename_i g; rw [g.1]; omega); omega, fun _ _ => Int.le_refl _, Int.le_refl _, Int.le_refl _⟩
  have u3 : psB n (setA A kx 1 (max 0 (A kx 1 - mo))) M V q nd q pr st ro pk fr = true := psB_iff.2 ⟨rfl, o3⟩
  obtain ⟨v3, w3⟩ := less_cheap hOk Lp3 he
  replace v3 : decide (chE true (⟨n, (setA A kx 1 (max 0 (A kx 1 - mo))), M, V, q, nd, pr, st, ro, pk, fr⟩ : PD) = 0) = true := decide_eq_true v3
  replace w3 : decide (chC true (⟨n, A, M, V, q, nd, pr, st, ro, pk, fr⟩ : PD) < chC true (⟨n, (setA A kx 1 (max 0 (A kx 1 - mo))), M, V, q, nd, pr, st, ro, pk, fr⟩ : PD)) = false := decide_eq_false (by omega)
  have o4 : PD.Ok (⟨n, (setA A kx 3 (min 12 (A kx 3 + mo))), M, V, q, nd, pr, st, ro, pk, fr⟩ : PD) := ⟨hOk.n, hOk.h, hOk.nd, hOk.pr, fun i hi => by have := hOk.oil i hi; simp only [setA] at this ⊢; split <;> omega, fun i hi => by have := hOk.least i hi; simp only [setA] at this ⊢; rw [if_neg (by omega)]; split; (rename_i g; rw [g.1] at this ⊢; omega); omega, fun i hi => by have := hOk.on i hi; simp only [setA] at this ⊢; rw [if_neg (by omega)]; split; (rename_i g; rw [g.1] at this ⊢; omega); omega, fun i hi => by have := hOk.start i hi; simp only [setA] at this ⊢; rw [if_neg (by omega)]; exact this, hOk.M, hOk.pow, hOk.cold, hOk.ro, hOk.st, hOk.pk, hOk.fr⟩
  have Lp4 : LessP (⟨n, A, M, V, q, nd, pr, st, ro, pk, fr⟩ : PD) (⟨n, (setA A kx 3 (min 12 (A kx 3 + mo))), M, V, q, nd, pr, st, ro, pk, fr⟩ : PD) := ⟨rfl, rfl, rfl, rfl, rfl, rfl, rfl, fun i hi => by simp only [setA]; rw [if_neg (by omega)], fun i hi => by simp only [setA]; rw [if_neg (by omega)], fun i hi => by have := hOk.oil i hi; simp only [setA] at this ⊢; split; (rename_i g; rw [g.1] at this ⊢; omega); omega, fun i hi => by simp only [setA]; rw [if_neg (by omega)]; exact Int.le_refl _, fun _ _ => Int.le_refl _, Int.le_refl _, Int.le_refl _⟩
  have u4 : psB n (setA A kx 3 (min 12 (A kx 3 + mo))) M V q nd q pr st ro pk fr = true := psB_iff.2 ⟨rfl, o4⟩
  obtain ⟨v4, w4⟩ := less_cheap hOk Lp4 he
  replace v4 : decide (chE true (⟨n, (setA A kx 3 (min 12 (A kx 3 + mo))), M, V, q, nd, pr, st, ro, pk, fr⟩ : PD) = 0) = true := decide_eq_true v4
  replace w4 : decide (chC true (⟨n, A, M, V, q, nd, pr, st, ro, pk, fr⟩ : PD) < chC true (⟨n, (setA A kx 3 (min 12 (A kx 3 + mo))), M, V, q, nd, pr, st, ro, pk, fr⟩ : PD)) = false := decide_eq_false (by omega)
  have b1 : (q : Int) * 8 ≤ 140737488355328 ∧ (q : Int) ≤ 9223372036854775807 := by omega
  have b2 : (n : Int) * 56 ≤ 140737488355328 ∧ (n : Int) ≤ 9223372036854775807 := by omega
  repeat' apply And.intro
  all_goals first | exact b1.1 | exact b1.2 | exact b2.1 | exact b2.2 | omega | kernel_rfl | skip
  all_goals
    refine loop_ofH { x : Nat // x ≤ 5 } (fun x => [(143, .int .i64 (x.1 : Int)), (142, .int .i64 ((5 : Nat) : Int)), (141, .vec 19 0), (8, .int .i64 (chC true ⟨n, A, M, V, q, nd, pr, st, ro, pk, fr⟩))]) (fun h _ => ⟨[.dead, .dead, .dead, .dead, .dead, .dead], [.dead, .dead, .dead, .dead, .dead, .dead, .dead, .dead, .dead, .dead, .dead, .dead, .dead, .dead, .dead, .dead, .dead, .dead, .dead, .live 0 25 7 5 (cellAt [(.row n 5 (nestF 0 2 A M V)), (.row q 1 fun i j => .int .i64 (nd i j)), (.row q 1 fun i j => .int .i64 (pr i j)), (.int .i64 (st)), (.int .i64 (min 100 (ro + mo))), (.int .i64 (pk)), (.int .i64 (fr)), (.row n 5 (nestF 0 2 A M V)), (.row q 1 fun i j => .int .i64 (nd i j)), (.row q 1 fun i j => .int .i64 (setA pr hx 0 (max 0 (pr hx 0 - mo)) i j)), (.int .i64 (st)), (.int .i64 (ro)), (.int .i64 (pk)), (.int .i64 (fr)), (.row n 5 (nestF 0 2 A M V)), (.row q 1 fun i j => .int .i64 (nd i j)), (.row q 1 fun i j => .int .i64 (pr i j)), (.int .i64 (st)), (.int .i64 (ro)), (.int .i64 (max 0 (pk - mo))), (.int .i64 (fr)), (.row n 5 (nestF 0 2 (setA A kx 1 (max 0 (A kx 1 - mo))) M V)), (.row q 1 fun i j => .int .i64 (nd i j)), (.row q 1 fun i j => .int .i64 (pr i j)), (.int .i64 (st)), (.int .i64 (ro)), (.int .i64 (pk)), (.int .i64 (fr)), (.row n 5 (nestF 0 2 (setA A kx 3 (min 12 (A kx 3 + mo))) M V)), (.row q 1 fun i j => .int .i64 (nd i j)), (.row q 1 fun i j => .int .i64 (pr i j)), (.int .i64 (st)), (.int .i64 (ro)), (.int .i64 (pk)), (.int .i64 (fr))] 7)]⟩) (fun x => 5 - x.1) (fun _ => ⟨by simp only [lenB_set, hlen, lenB], rfl⟩) ⟨0, by omega⟩ ?_ ?_
    · refine sub_fz 16 19 (fun i j => gV 16 1 _ _ _ _) rfl rfl (by decide) (fun i j _ _ => gV_or _ _ _ _ _ _) ?_
      refine sub_fz 17 19 (fun i j => gV 17 1 _ _ _ _) rfl rfl (by decide) (fun i j _ _ => gV_or _ _ _ _ _ _) ?_
      refine sub_fz 18 19 (fun i j => gV 18 1 _ _ _ _) rfl rfl (by decide) (fun i j _ _ => gV_or _ _ _ _ _ _) ?_
      refine sub_of ?_ (subB_dd 6 _ (by simp only [lenB_set, hlen]; omega)) ?_ ?_ ?_ ?_
      · simp only [go_sem, ↓reduceIte, Nat.reduceAdd, Nat.reduceSub, Nat.reduceMul, Nat.reduceEqDiff, Nat.reduceLT, Nat.reduceLeDiff, Int.reduceToNat, Int.reduceLE, Int.reduceLT, Int.reduceEq, Int.reduceNeg, reduceCtorEq] <;> (try simp) <;> (try exact fun j _ => Bd_nth (by simp [BdL, Bd]) j) <;> (try exact bd_setL (by simp [bdAs, BdL, Bd])) <;> (try exact nestF_bd _ _ _ _ _ _ _ _ _)
      · refine ⟨trivial, trivial, trivial, trivial, trivial, trivial, trivial, trivial, trivial, trivial, trivial, trivial, trivial, trivial, trivial, trivial, trivial, trivial, trivial, ⟨rfl, rfl, rfl, rfl, fun i j hi hj => ?_⟩, trivial⟩
        rcases (by omega : i = 0 ∨ i = 1 ∨ i = 2 ∨ i = 3 ∨ i = 4) with rfl | rfl | rfl | rfl | rfl <;> rcases (by omega : j = 0 ∨ j = 1 ∨ j = 2 ∨ j = 3 ∨ j = 4 ∨ j = 5 ∨ j = 6) with rfl | rfl | rfl | rfl | rfl | rfl | rfl <;> rfl
      · simp only [go_sem, ↓reduceIte, Nat.reduceAdd, Nat.reduceSub, Nat.reduceMul, Nat.reduceEqDiff, Nat.reduceLT, Nat.reduceLeDiff, Int.reduceToNat, Int.reduceLE, Int.reduceLT, Int.reduceEq, Int.reduceNeg, reduceCtorEq] <;> (try simp) <;> (try exact fun j _ => Bd_nth (by simp [BdL, Bd]) j) <;> (try exact bd_setL (by simp [bdAs, BdL, Bd])) <;> (try exact nestF_bd _ _ _ _ _ _ _ _ _)
      · simp only [go_sem, ↓reduceIte, Nat.reduceAdd, Nat.reduceSub, Nat.reduceMul, Nat.reduceEqDiff, Nat.reduceLT, Nat.reduceLeDiff, Int.reduceToNat, Int.reduceLE, Int.reduceLT, Int.reduceEq, Int.reduceNeg, reduceCtorEq]
      · simp only [cellAt, go_sem, ↓reduceIte, Nat.reduceAdd, Nat.reduceSub, Nat.reduceMul, Nat.reduceEqDiff, Nat.reduceLT, Nat.reduceLeDiff, Int.reduceToNat, Int.reduceLE, Int.reduceLT, Int.reduceEq, Int.reduceNeg, reduceCtorEq]
        intro i j _ _
        refine Bd_nth ?_ _
        simp only [BdL, Bd, and_self, and_true, true_and, implies_true]
        (repeat' apply And.intro) <;> exact nestF_bd _ _ _ _ _ _ _ _ _
    · clear ga gb gc gd ge g0 hlen
      rintro ⟨x, hx5⟩
      have pre1 : (n ≤ 1000000 ∧ ∀ (i : Nat), i < n → M i ≤ 1000000) ∧ q ≤ 1000000 := ⟨⟨by omega, hm⟩, by omega⟩
      rcases (by omega : x = 0 ∨ x = 1 ∨ x = 2 ∨ x = 3 ∨ x = 4 ∨ x = 5) with rfl | rfl | rfl | rfl | rfl | rfl
      · have dx : decide (((0 : Nat) : Int) < ((5 : Nat) : Int)) = true := by decide
        have wx : IntKind.i64.wrap (((0 : Nat) : Int) + 1) = ((0 + 1 : Nat) : Int) := by decide
        simp only [dx, wx, u0, v0, w0, cellAt, Int.toNat_natCast, alive_eq, slow_eq, presses_eq, cheapest_eq, great_nil, great0_eq, chE_ns, chC_ns, chN_ns, cAt_ns, psB_ns, ckR_ns, planF, nestF_eq, nestR_lit, nsM_lit, nsV_lit, catF_nil, Try.f5, go_sem, ↓reduceIte, Nat.reduceAdd, Nat.reduceSub, Nat.reduceMul, Nat.reduceEqDiff, Nat.reduceLT, Nat.reduceLeDiff, Int.reduceToNat, Int.reduceLE, Int.reduceLT, Int.reduceEq, Int.reduceNeg, reduceCtorEq]
        refine ⟨by omega, pre1, ⟨0 + 1, by omega⟩, by simp only []; omega, ?_⟩
        apply sub_of <;> simp only [wx, cellAt, go_sem, ↓reduceIte, Nat.reduceAdd, Nat.reduceSub, Nat.reduceMul, Nat.reduceEqDiff, Nat.reduceLT, Nat.reduceLeDiff, Int.reduceToNat, Int.reduceLE, Int.reduceLT, Int.reduceEq, Int.reduceNeg, reduceCtorEq] <;> (try simp) <;> (try exact fun j _ => Bd_nth (by simp [BdL, Bd]) j) <;> (try exact bd_setL (by simp [bdAs, BdL, Bd])) <;> (try exact nestF_bd _ _ _ _ _ _ _ _ _)
        all_goals first
          | rfl
          | (intro i j _ _
             refine Bd_nth ?_ _
             simp only [BdL, Bd, and_self, and_true, true_and, implies_true]
             (repeat' apply And.intro) <;> exact nestF_bd _ _ _ _ _ _ _ _ _)
      · have dx : decide (((1 : Nat) : Int) < ((5 : Nat) : Int)) = true := by decide
        have wx : IntKind.i64.wrap (((1 : Nat) : Int) + 1) = ((1 + 1 : Nat) : Int) := by decide
        simp only [dx, wx, u1, v1, w1, cellAt, Int.toNat_natCast, alive_eq, slow_eq, presses_eq, cheapest_eq, great_nil, great0_eq, chE_ns, chC_ns, chN_ns, cAt_ns, psB_ns, ckR_ns, planF, nestF_eq, nestR_lit, nsM_lit, nsV_lit, catF_nil, Try.f5, go_sem, ↓reduceIte, Nat.reduceAdd, Nat.reduceSub, Nat.reduceMul, Nat.reduceEqDiff, Nat.reduceLT, Nat.reduceLeDiff, Int.reduceToNat, Int.reduceLE, Int.reduceLT, Int.reduceEq, Int.reduceNeg, reduceCtorEq]
        refine ⟨by omega, pre1, ⟨1 + 1, by omega⟩, by simp only []; omega, ?_⟩
        apply sub_of <;> simp only [wx, cellAt, go_sem, ↓reduceIte, Nat.reduceAdd, Nat.reduceSub, Nat.reduceMul, Nat.reduceEqDiff, Nat.reduceLT, Nat.reduceLeDiff, Int.reduceToNat, Int.reduceLE, Int.reduceLT, Int.reduceEq, Int.reduceNeg, reduceCtorEq] <;> (try simp) <;> (try exact fun j _ => Bd_nth (by simp [BdL, Bd]) j) <;> (try exact bd_setL (by simp [bdAs, BdL, Bd])) <;> (try exact nestF_bd _ _ _ _ _ _ _ _ _)
        all_goals first
          | rfl
          | (intro i j _ _
             refine Bd_nth ?_ _
             simp only [BdL, Bd, and_self, and_true, true_and, implies_true]
             (repeat' apply And.intro) <;> exact nestF_bd _ _ _ _ _ _ _ _ _)
      · have dx : decide (((2 : Nat) : Int) < ((5 : Nat) : Int)) = true := by decide
        have wx : IntKind.i64.wrap (((2 : Nat) : Int) + 1) = ((2 + 1 : Nat) : Int) := by decide
        simp only [dx, wx, u2, v2, w2, cellAt, Int.toNat_natCast, alive_eq, slow_eq, presses_eq, cheapest_eq, great_nil, great0_eq, chE_ns, chC_ns, chN_ns, cAt_ns, psB_ns, ckR_ns, planF, nestF_eq, nestR_lit, nsM_lit, nsV_lit, catF_nil, Try.f5, go_sem, ↓reduceIte, Nat.reduceAdd, Nat.reduceSub, Nat.reduceMul, Nat.reduceEqDiff, Nat.reduceLT, Nat.reduceLeDiff, Int.reduceToNat, Int.reduceLE, Int.reduceLT, Int.reduceEq, Int.reduceNeg, reduceCtorEq]
        refine ⟨by omega, pre1, ⟨2 + 1, by omega⟩, by simp only []; omega, ?_⟩
        apply sub_of <;> simp only [wx, cellAt, go_sem, ↓reduceIte, Nat.reduceAdd, Nat.reduceSub, Nat.reduceMul, Nat.reduceEqDiff, Nat.reduceLT, Nat.reduceLeDiff, Int.reduceToNat, Int.reduceLE, Int.reduceLT, Int.reduceEq, Int.reduceNeg, reduceCtorEq] <;> (try simp) <;> (try exact fun j _ => Bd_nth (by simp [BdL, Bd]) j) <;> (try exact bd_setL (by simp [bdAs, BdL, Bd])) <;> (try exact nestF_bd _ _ _ _ _ _ _ _ _)
        all_goals first
          | rfl
          | (intro i j _ _
             refine Bd_nth ?_ _
             simp only [BdL, Bd, and_self, and_true, true_and, implies_true]
             (repeat' apply And.intro) <;> exact nestF_bd _ _ _ _ _ _ _ _ _)
      · have dx : decide (((3 : Nat) : Int) < ((5 : Nat) : Int)) = true := by decide
        have wx : IntKind.i64.wrap (((3 : Nat) : Int) + 1) = ((3 + 1 : Nat) : Int) := by decide
        simp only [dx, wx, u3, v3, w3, cellAt, Int.toNat_natCast, alive_eq, slow_eq, presses_eq, cheapest_eq, great_nil, great0_eq, chE_ns, chC_ns, chN_ns, cAt_ns, psB_ns, ckR_ns, planF, nestF_eq, nestR_lit, nsM_lit, nsV_lit, catF_nil, Try.f5, go_sem, ↓reduceIte, Nat.reduceAdd, Nat.reduceSub, Nat.reduceMul, Nat.reduceEqDiff, Nat.reduceLT, Nat.reduceLeDiff, Int.reduceToNat, Int.reduceLE, Int.reduceLT, Int.reduceEq, Int.reduceNeg, reduceCtorEq]
        refine ⟨by omega, pre1, ⟨3 + 1, by omega⟩, by simp only []; omega, ?_⟩
        apply sub_of <;> simp only [wx, cellAt, go_sem, ↓reduceIte, Nat.reduceAdd, Nat.reduceSub, Nat.reduceMul, Nat.reduceEqDiff, Nat.reduceLT, Nat.reduceLeDiff, Int.reduceToNat, Int.reduceLE, Int.reduceLT, Int.reduceEq, Int.reduceNeg, reduceCtorEq] <;> (try simp) <;> (try exact fun j _ => Bd_nth (by simp [BdL, Bd]) j) <;> (try exact bd_setL (by simp [bdAs, BdL, Bd])) <;> (try exact nestF_bd _ _ _ _ _ _ _ _ _)
        all_goals first
          | rfl
          | (intro i j _ _
             refine Bd_nth ?_ _
             simp only [BdL, Bd, and_self, and_true, true_and, implies_true]
             (repeat' apply And.intro) <;> exact nestF_bd _ _ _ _ _ _ _ _ _)
      · have dx : decide (((4 : Nat) : Int) < ((5 : Nat) : Int)) = true := by decide
        have wx : IntKind.i64.wrap (((4 : Nat) : Int) + 1) = ((4 + 1 : Nat) : Int) := by decide
        simp only [dx, wx, u4, v4, w4, cellAt, Int.toNat_natCast, alive_eq, slow_eq, presses_eq, cheapest_eq, great_nil, great0_eq, chE_ns, chC_ns, chN_ns, cAt_ns, psB_ns, ckR_ns, planF, nestF_eq, nestR_lit, nsM_lit, nsV_lit, catF_nil, Try.f5, go_sem, ↓reduceIte, Nat.reduceAdd, Nat.reduceSub, Nat.reduceMul, Nat.reduceEqDiff, Nat.reduceLT, Nat.reduceLeDiff, Int.reduceToNat, Int.reduceLE, Int.reduceLT, Int.reduceEq, Int.reduceNeg, reduceCtorEq]
        refine ⟨by omega, pre1, ⟨4 + 1, by omega⟩, by simp only []; omega, ?_⟩
        apply sub_of <;> simp only [wx, cellAt, go_sem, ↓reduceIte, Nat.reduceAdd, Nat.reduceSub, Nat.reduceMul, Nat.reduceEqDiff, Nat.reduceLT, Nat.reduceLeDiff, Int.reduceToNat, Int.reduceLE, Int.reduceLT, Int.reduceEq, Int.reduceNeg, reduceCtorEq] <;> (try simp) <;> (try exact fun j _ => Bd_nth (by simp [BdL, Bd]) j) <;> (try exact bd_setL (by simp [bdAs, BdL, Bd])) <;> (try exact nestF_bd _ _ _ _ _ _ _ _ _)
        all_goals first
          | rfl
          | (intro i j _ _
             refine Bd_nth ?_ _
             simp only [BdL, Bd, and_self, and_true, true_and, implies_true]
             (repeat' apply And.intro) <;> exact nestF_bd _ _ _ _ _ _ _ _ _)
      · have dx : decide (((5 : Nat) : Int) < ((5 : Nat) : Int)) = false := by decide
        simp only [dx, alive_eq, slow_eq, presses_eq, cheapest_eq, great_nil, great0_eq, chE_ns, chC_ns, chN_ns, cAt_ns, psB_ns, ckR_ns, planF, nestF_eq, nestR_lit, nsM_lit, nsV_lit, catF_nil, Try.f5, go_sem, ↓reduceIte, Nat.reduceAdd, Nat.reduceSub, Nat.reduceMul, Nat.reduceEqDiff, Nat.reduceLT, Nat.reduceLeDiff, Int.reduceToNat, Int.reduceLE, Int.reduceLT, Int.reduceEq, Int.reduceNeg, reduceCtorEq]
end Go.Eng
end

/-
  PressLess: for every input the law returns true, and each argument reads afterwards as it read before. No condition.
-/
section
namespace Go.Proofs.Ytdecicbgjkeefaa.pressLess
open Go.ChangeShapes Go.WideShapes Go.ChangeAt Go.RowKit Go.Eng
set_option linter.unusedVariables false
theorem own : ownKnob Try.prog.godebug = none := by kernel_rfl
theorem laid : laidOutB Try.prog = true := by kernel_rfl
set_option maxRecDepth 100000 in
theorem lifted (os : Os) (started : os.Started) (H : Type) (enc : TypeId × Value → H) :
    ReturnsInHanded {} Try.checked os 5 .any (Rows.pressLessSpec.pre6 enc Try.prog Try.f5 Rows.pressLessRow.domain false) (Rows.pressLessSpec.post enc Try.prog Try.f5 false true false false) := by
  refine returnsInHanded_of_change (C := Try.checked) own started (by kernel_rfl) Try.func5
    (ChangeSpec.witness6 (enc := enc) (C := Try.checked) false ⟨#[], #[.agg #[.slice none 0 0, .slice none 0 0, .slice none 0 0, .int .i64 0, .int .i64 0, .int .i64 0, .int .i64 0], .int .u8 0, .int .u8 0], []⟩ 8 (by kernel_rfl) (by kernel_rfl) (by kernel_rfl) (by kernel_rfl)) ?_
  intro W base args ds gs before hval0 hW hcnd _
  have hval : ∀ (j : Nat) t v, Try.f5.params[j]? = some t → args[j]? = some v → Value.okWide Try.prog W .any base t v := hval0
  have hW' := hW
  obtain ⟨p, q, hA0, hV, rfl, hfz, hnd⟩ := hW
  have hA : DataW.TrodAll enc Try.prog W 0 (fun _ => true) true Try.f5.params.toList args.toList ds p := hA0
  rw [Try.params5] at hA hval
  obtain ⟨v0, vs0, d0, ds0, p0, q0, hargs, rfl, rfl, h0, r0⟩ := trodAll_cons hA
  obtain ⟨v1, vs1, d1, ds1, p1, q1, rfl, rfl, rfl, h1, r1⟩ := trodAll_cons r0
  obtain ⟨v2, vs2, d2, ds2, p2, q2, rfl, rfl, rfl, h2, r2⟩ := trodAll_cons r1
  obtain ⟨rfl, rfl, rfl⟩ := trodAll_nil r2
  obtain rfl : args = #[v0, v1, v2] := by cases args; simp_all
  obtain ⟨rfl, rfl⟩ := trodVars_none hV
  obtain ⟨xs0, e0, l0, t0⟩ := arg_agg (shs := [.sl [.sl [.int .i64, .int .i64], .int .i64, .int .i64, .int .i64, .int .i64], .sl [.int .i64], .sl [.int .i64], .int .i64, .int .i64, .int .i64, .int .i64]) Try.underlying25 (by kernel_rfl) (hval 0 25 v0 rfl rfl) h0
  obtain ⟨a0_0, a0_1, a0_2, a0_3, a0_4, a0_5, a0_6, rfl⟩ : ∃ a0_0 a0_1 a0_2 a0_3 a0_4 a0_5 a0_6, xs0 = [a0_0, a0_1, a0_2, a0_3, a0_4, a0_5, a0_6] := by
    match xs0, l0 with
    | [a0_0, a0_1, a0_2, a0_3, a0_4, a0_5, a0_6], _ => exact ⟨a0_0, a0_1, a0_2, a0_3, a0_4, a0_5, a0_6, rfl⟩
  obtain ⟨n0_0, f0_0, rfl, m0_0, s0_0⟩ := typ_sl (t0 0 _ _ rfl rfl)
  obtain ⟨i0_0, b0_0, c0_0, g0_0⟩ := nestR_typ (sz := 5) (k := 0) (s := 2) (by intro j hj hk; rcases (show j = 0 ∨ j = 1 ∨ j = 2 ∨ j = 3 ∨ j = 4 by omega) with rfl | rfl | rfl | rfl | rfl <;> first | rfl | exact absurd rfl hk) rfl s0_0
  obtain ⟨n0_1, f0_1, rfl, m0_1, s0_1⟩ := typ_sl (t0 1 _ _ rfl rfl)
  obtain ⟨i0_1, b0_1⟩ := intK_of_typ (k := .i64) (c := 1) rfl s0_1
  obtain ⟨n0_2, f0_2, rfl, m0_2, s0_2⟩ := typ_sl (t0 2 _ _ rfl rfl)
  obtain ⟨i0_2, b0_2⟩ := intK_of_typ (k := .i64) (c := 1) rfl s0_2
  obtain ⟨x0_3, rfl, w0_3⟩ := typ_int (t0 3 _ _ rfl rfl)
  obtain ⟨x0_4, rfl, w0_4⟩ := typ_int (t0 4 _ _ rfl rfl)
  obtain ⟨x0_5, rfl, w0_5⟩ := typ_int (t0 5 _ _ rfl rfl)
  obtain ⟨x0_6, rfl, w0_6⟩ := typ_int (t0 6 _ _ rfl rfl)
  obtain ⟨x1, rfl, rfl, rfl, w1⟩ := open_int Try.underlying5 (hval 1 5 v1 rfl rfl) h1
  obtain ⟨x2, rfl, rfl, rfl, w2⟩ := open_int Try.underlying5 (hval 2 5 v2 rfl rfl) h2
  have hd : DenL Env.emp W [.agg [.row n0_0 5 f0_0, .row n0_1 1 f0_1, .row n0_2 1 f0_2, .int .i64 x0_3, .int .i64 x0_4, .int .i64 x0_5, .int .i64 x0_6], .int .u8 x1, .int .u8 x2] [v0, .int .u8 x1, .int .u8 x2] := ⟨e0, .int _ _, .int _ _, trivial⟩
  refine (law_calls pressLess_base (args := [.agg [.row n0_0 5 f0_0, .row n0_1 1 f0_1, .row n0_2 1 f0_2, .int .i64 x0_3, .int .i64 x0_4, .int .i64 x0_5, .int .i64 x0_6], .int .u8 x1, .int .u8 x2]) rfl ⟨⟨rfl, i0_0⟩, ⟨rfl, fun i j hi hj => i0_1 i j hi hj⟩, ⟨rfl, fun i j hi hj => i0_2 i j hi hj⟩, w1, w2⟩ (denA_of hd)).mono fun e W' ⟨he, hb⟩ => ?_
  subst he
  exact ⟨_, rfl, law_end laid rfl Try.underlying4 (by kernel_rfl) rfl hW' rfl hb⟩
theorem over : Rows.pressLessRow.holds Try.pinned (OpenSpec.ofChange Rows.pressLessSpec) :=
  OpenClaim.holds_of_wide 5 Try.f5 rfl rfl rfl rfl rfl rfl rfl ⟨rfl, rfl, rfl, rfl, rfl⟩ rfl rfl rfl rfl rfl (by kernel_rfl) Try.func5 (by kernel_rfl)
    (of_decide_eq_true (by kernel_rfl)) (by unfold Func.isWrapper; first | (rw [if_pos (by decide +kernel)]; kernel_rfl) | (rw [if_neg (by decide +kernel)]; exact ⟨rfl, rfl⟩))
    (fun os started H enc _ => lifted os started H enc)
end Go.Proofs.Ytdecicbgjkeefaa.pressLess
namespace Go.Proofs.Ytdecicbgjkeefaa
/-- The given statement. -/
theorem pressLess_holds : Rows.PressLessSaid := pressLess.over
#print axioms pressLess_holds
end Go.Proofs.Ytdecicbgjkeefaa
end
