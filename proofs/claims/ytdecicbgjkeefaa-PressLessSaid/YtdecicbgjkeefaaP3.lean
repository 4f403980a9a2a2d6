/-
  A part of the symbolic machine, of its soundness, and of what functions compute. No condition.
-/
import Derived.Test.YtdecicbgjkeefaaP2
set_option linter.unusedSimpArgs false
set_option linter.unusedVariables false
/- press: the reference's hours. -/
section
namespace Go.Eng
open Go Go.RowKit Go.Proofs
set_option maxRecDepth 100000
set_option maxHeartbeats 4000000
attribute [local irreducible] OwnT DefS
theorem catF_one (F : Nat → SV) {i x : Nat} (hx : x < i + 1) : catF i (fun a _ => F a) (oneF [F i]) x 0 = F x := by
  rcases Nat.lt_or_ge x i with h | h
  · simp only [catF, if_pos h]
  · obtain rfl : x = i := by omega
    simp only [catF, if_neg (Nat.lt_irrefl _), oneF, nth]
/-- The reference's state: the runs, what is stored, what was paid, the greatest power. -/
structure RS where
  (on : Nat → Int) (sto en st pw : Int)
def rsS (n : Nat) (s : RS) : SV := .agg [.row n 1 (fun i _ => .int .i64 (s.on i)), .int .i64 s.sto, .int .i64 s.en, .int .i64 s.st, .int .i64 0, .int .i64 s.pw]
def beginRBase : BaseF := fun args => match args with
  | [.agg [.row n sz_A f_A, .row h sz_nd f_nd, .row q sz_pr f_pr, .int .i64 st, .int .i64 ro, .int .i64 pk, .int .i64 fr]] => some ((sz_A = 5 ∧ NestR n 5 0 2 f_A) ∧ (sz_nd = 1 ∧ IntR h 1 f_nd) ∧ (sz_pr = 1 ∧ IntR q 1 f_pr) ∧ (n ≤ 1000), rsS n ⟨fun i => (nsA f_A) i 4, st, 0, 0, 0⟩)
  | _ => none
theorem beginR_eq (n : Nat) (sz_A : Nat) (f_A : Nat → Nat → SV) (h : Nat) (sz_nd : Nat) (f_nd : Nat → Nat → SV) (q : Nat) (sz_pr : Nat) (f_pr : Nat → Nat → SV) (st : Int) (ro : Int) (pk : Int) (fr : Int) : beginRBase [.agg [.row n sz_A f_A, .row h sz_nd f_nd, .row q sz_pr f_pr, .int .i64 st, .int .i64 ro, .int .i64 pk, .int .i64 fr]] = some ((sz_A = 5 ∧ NestR n 5 0 2 f_A) ∧ (sz_nd = 1 ∧ IntR h 1 f_nd) ∧ (sz_pr = 1 ∧ IntR q 1 f_pr) ∧ (n ≤ 1000), rsS n ⟨fun i => (nsA f_A) i 4, st, 0, 0, 0⟩) := rfl
theorem beginR_base : NB Try.prog 39 beginRBase := by
  intro args p v hq hp
  unfold beginRBase at hq
  split at hq
  rotate_left
  · cases hq
  rename_i n sz_A f_A h sz_nd f_nd q sz_pr f_pr st ro pk fr
  cases hq
  obtain ⟨⟨rfl, i_A⟩, ⟨rfl, i_nd⟩, ⟨rfl, i_pr⟩, pre⟩ := hp
  refine nb_of (C := cx [] [] [] [(39, 5, p39_5)] none) (cx_ok trivial trivial) rfl (g := 39) (fn := Try.f39)
    (args' := [.agg [.row n 5 (nestF 0 2 (nsA f_A) (nsM 0 f_A) (nsV 0 f_A)), .row h 1 (rowF .i64 (ivf f_nd)), .row q 1 (rowF .i64 (ivf f_pr)), .int .i64 st, .int .i64 ro, .int .i64 pk, .int .i64 fr]]) (fn_39) rfl 1000 (by
    simp only [BdL, Bd, and_self, and_true, true_and]
    exact ⟨(fun i j hi hj => nest_bd i_A i j hi hj), (fun i j hi hj => by rw [i_nd i j hi hj]; trivial), (fun i j hi hj => by rw [i_pr i j hi hj]; trivial)⟩) ⟨SameD.agg ⟨SameD.nest i_A, SameD.int i_nd, SameD.int i_pr, SameD.rfl' _, SameD.rfl' _, SameD.rfl' _, SameD.rfl' _, trivial⟩, trivial⟩ (by simp only [rsS, Bd, BdL, and_true, implies_true]) ?_
  generalize nsA f_A = A at *
  generalize nsM 0 f_A = M at *
  generalize nsV 0 f_A = V at *
  generalize ivf f_nd = nd at *
  generalize ivf f_pr = pr at *
  simp only [rowF_eq]
  simp only [p39_5, nestF_eq, nestR_lit, nsM_lit, nsV_lit, Try.f39, go_sem, ↓reduceIte, Nat.reduceAdd, Nat.reduceSub, Nat.reduceMul, Nat.reduceEqDiff, Nat.reduceLT, Nat.reduceLeDiff, Int.reduceToNat, Int.reduceLE, Int.reduceLT, Int.reduceEq, Int.reduceNeg, reduceCtorEq]
  refine loop_ofH { i : Nat // i ≤ n } (fun i => [(4, .int .i64 (i.1 : Int)), (3, .ptr 2 0), (2, .ptr 1 0), (1, .ptr 0 0)])
    (fun h i => ⟨[getB h.blks 0, getB h.blks 1, .live 85 [.vec 2 i.1, .int .i64 st, .int .i64 0, .int .i64 0, .int .i64 0, .int .i64 0]], [getV h.vecs 0, getV h.vecs 1, .live i.1 3 1 i.1 (fun i _ => .int .i64 (A i 4))]⟩) (fun i => n - i.1) (fun _ => ⟨rfl, rfl⟩) ⟨0, by omega⟩ (by (apply sub_of <;> simp only [go_sem, ↓reduceIte, Nat.reduceAdd, Nat.reduceSub, Nat.reduceMul, Nat.reduceEqDiff, Nat.reduceLT, Nat.reduceLeDiff, Int.reduceToNat, Int.reduceLE, Int.reduceLT, Int.reduceEq, Int.reduceNeg, reduceCtorEq] <;> (try simp [catF])); all_goals (repeat' first | assumption | exact nestF_bd _ _ _ _ _ _ _ _ _ | exact nestF_bd1 _ _ _ _ _ _ _ _ _ | exact fun _ _ => nestF_bd1 _ _ _ _ _ _ _ _ _ | exact fun _ _ _ _ => nestF_bd1 _ _ _ _ _ _ _ _ _ | exact fun x hx => catF_one _ hx | refine And.intro ?_ ?_)) ?_
  rintro ⟨i, hi⟩
  simp only [p39_5, nestF_eq, nestR_lit, nsM_lit, nsV_lit, Try.f39, go_sem, ↓reduceIte, Nat.reduceAdd, Nat.reduceSub, Nat.reduceMul, Nat.reduceEqDiff, Nat.reduceLT, Nat.reduceLeDiff, Int.reduceToNat, Int.reduceLE, Int.reduceLT, Int.reduceEq, Int.reduceNeg, reduceCtorEq]
  have hw3 : IntKind.i64.wrap ((i : Int) + 1) = ((i + 1 : Nat) : Int) := by rw [wrap_id (by omega) (by omega)]; omega
  refine ⟨fun e1 => ?_, fun e1 => ?_⟩
  all_goals simp only [decide_eq_true_eq, decide_eq_false_iff_not] at e1
  · refine ⟨⟨by kernel_rfl, by kernel_rfl⟩, ⟨by omega, by omega⟩, ⟨by omega, by omega⟩, ⟨i + 1, by omega⟩, by simp only []; omega, ?_⟩
    apply sub_of <;> simp only [hw3, go_sem, ↓reduceIte, Nat.reduceAdd, Nat.reduceSub, Nat.reduceMul, Nat.reduceEqDiff, Nat.reduceLT, Nat.reduceLeDiff, Int.reduceToNat, Int.reduceLE, Int.reduceLT, Int.reduceEq, Int.reduceNeg, reduceCtorEq] <;> (try simp)
    · exact fun x hx => catF_one (fun a => .int .i64 (A a 4)) hx
    all_goals (repeat' first | assumption | exact nestF_bd _ _ _ _ _ _ _ _ _ | exact nestF_bd1 _ _ _ _ _ _ _ _ _ | exact fun _ _ => nestF_bd1 _ _ _ _ _ _ _ _ _ | exact fun _ _ _ _ => nestF_bd1 _ _ _ _ _ _ _ _ _ | exact fun x hx => catF_one _ hx | refine And.intro ?_ ?_)
  · obtain rfl : i = n := by omega
    exact ⟨fun _ _ _ _ => trivial, SameD.rfl' _⟩
def costRBase : BaseF := fun args => match args with
  | [.agg [.row n sz_A f_A, .row h sz_nd f_nd, .row q sz_pr f_pr, .int .i64 st, .int .i64 ro, .int .i64 pk, .int .i64 fr], .agg [.row k sz_on f_on, .int .i64 sto, .int .i64 en, .int .i64 sta, .int .i64 pc, .int .i64 pw]] => some ((sz_A = 5 ∧ NestR n 5 0 2 f_A) ∧ (sz_nd = 1 ∧ IntR h 1 f_nd) ∧ (sz_pr = 1 ∧ IntR q 1 f_pr) ∧ (sz_on = 1 ∧ IntR k 1 f_on) ∧ ((0 ≤ pw ∧ pw ≤ 3000) ∧ (0 ≤ fr ∧ fr ≤ 3000) ∧ (0 ≤ pk ∧ pk ≤ 10000)), .agg [.int .i64 en, .int .i64 sta, .int .i64 (max 0 (pw - fr) * pk)])
  | _ => none
theorem costR_eq (n : Nat) (sz_A : Nat) (f_A : Nat → Nat → SV) (h : Nat) (sz_nd : Nat) (f_nd : Nat → Nat → SV) (q : Nat) (sz_pr : Nat) (f_pr : Nat → Nat → SV) (st : Int) (ro : Int) (pk : Int) (fr : Int) (k : Nat) (sz_on : Nat) (f_on : Nat → Nat → SV) (sto : Int) (en : Int) (sta : Int) (pc : Int) (pw : Int) : costRBase [.agg [.row n sz_A f_A, .row h sz_nd f_nd, .row q sz_pr f_pr, .int .i64 st, .int .i64 ro, .int .i64 pk, .int .i64 fr], .agg [.row k sz_on f_on, .int .i64 sto, .int .i64 en, .int .i64 sta, .int .i64 pc, .int .i64 pw]] = some ((sz_A = 5 ∧ NestR n 5 0 2 f_A) ∧ (sz_nd = 1 ∧ IntR h 1 f_nd) ∧ (sz_pr = 1 ∧ IntR q 1 f_pr) ∧ (sz_on = 1 ∧ IntR k 1 f_on) ∧ ((0 ≤ pw ∧ pw ≤ 3000) ∧ (0 ≤ fr ∧ fr ≤ 3000) ∧ (0 ≤ pk ∧ pk ≤ 10000)), .agg [.int .i64 en, .int .i64 sta, .int .i64 (max 0 (pw - fr) * pk)]) := rfl
theorem costR_base : Base Try.prog 47 costRBase := by
  intro args p v hq hp
  unfold costRBase at hq
  split at hq
  rotate_left
  · cases hq
  rename_i n sz_A f_A h sz_nd f_nd q sz_pr f_pr st ro pk fr k sz_on f_on sto en sta pc pw
  cases hq
  obtain ⟨⟨rfl, i_A⟩, ⟨rfl, i_nd⟩, ⟨rfl, i_pr⟩, ⟨rfl, i_on⟩, pre⟩ := hp
  refine base_of (C := cx [] [] [] [] none) (cx_ok trivial trivial) rfl (g := 47) (fn := Try.f47)
    (args' := [.agg [.row n 5 (nestF 0 2 (nsA f_A) (nsM 0 f_A) (nsV 0 f_A)), .row h 1 (rowF .i64 (ivf f_nd)), .row q 1 (rowF .i64 (ivf f_pr)), .int .i64 st, .int .i64 ro, .int .i64 pk, .int .i64 fr], .agg [.row k 1 (rowF .i64 (ivf f_on)), .int .i64 sto, .int .i64 en, .int .i64 sta, .int .i64 pc, .int .i64 pw]]) (fn_47) rfl 1000 (by
    simp only [BdL, Bd, and_self, and_true, true_and]
    exact ⟨⟨(fun i j hi hj => nest_bd i_A i j hi hj), (fun i j hi hj => by rw [i_nd i j hi hj]; trivial), (fun i j hi hj => by rw [i_pr i j hi hj]; trivial)⟩, (fun i j hi hj => by rw [i_on i j hi hj]; trivial)⟩) ⟨SameD.agg ⟨SameD.nest i_A, SameD.int i_nd, SameD.int i_pr, SameD.rfl' _, SameD.rfl' _, SameD.rfl' _, SameD.rfl' _, trivial⟩, SameD.agg ⟨SameD.int i_on, SameD.rfl' _, SameD.rfl' _, SameD.rfl' _, SameD.rfl' _, SameD.rfl' _, trivial⟩, trivial⟩ ?_
  generalize nsA f_A = A at *
  generalize nsM 0 f_A = M at *
  generalize nsV 0 f_A = V at *
  generalize ivf f_nd = nd at *
  generalize ivf f_pr = pr at *
  generalize ivf f_on = on at *
  simp only [rowF_eq]
  simp only [nestF_eq, nestR_lit, nsM_lit, nsV_lit, Try.f47, go_sem, ↓reduceIte, Nat.reduceAdd, Nat.reduceSub, Nat.reduceMul, Nat.reduceEqDiff, Nat.reduceLT, Nat.reduceLeDiff, Int.reduceToNat, Int.reduceLE, Int.reduceLT, Int.reduceEq, Int.reduceNeg, reduceCtorEq]
  obtain ⟨h1, h2, h3⟩ := pre
  have q1 := mulB (x := max 0 (pw - fr)) (y := pk) (m := 3000) (k := 10000) (by omega) h3
  rw [wrap_id (x := pw - fr) (by omega) (by omega), wrap_id (by omega) (by omega)]
def doR (D : PD) (s : RS) (hr : Nat) (c : T3) : RS × Int :=
  match stepsP D (chT D.n fun a _ => s.on a) c (s.sto - D.nd hr 0) D.n with
  | none => (s, 11)
  | some a => if a.sto < 0 then (s, 10) else if D.ro < a.sto then (s, 9) else (⟨a.on.get, a.sto, s.en + a.pow * D.pr hr 0, s.st + a.sta, max s.pw a.pow⟩, 0)
theorem doR_ns {n : Nat} {A : Nat → Nat → Int} {M : Nat → Nat} {V : Nat → Nat → Nat → Int} {h : Nat} {nd pr : Nat → Nat → Int} {st ro pk fr : Int} (s : RS) (hr : Nat) (c : T3) :
    doR ⟨n, nsA (nestF 0 2 A M V), M, V, h, nd, pr, st, ro, pk, fr⟩ s hr c = doR ⟨n, A, M, V, h, nd, pr, st, ro, pk, fr⟩ s hr c := by
  simp only [doR, stepsP_ns]
/-- A state that can be. -/
def rsOk (n : Nat) (s : RS) : Prop := (∀ i, i < n → 0 ≤ s.on i ∧ s.on i ≤ 12) ∧ (0 ≤ s.sto ∧ s.sto ≤ 100) ∧ (0 ≤ s.pw ∧ s.pw ≤ 3000) ∧ (0 ≤ s.en ∧ s.en ≤ 1000000000) ∧ (0 ≤ s.st ∧ s.st ≤ 1000000000)
theorem stepsP_zero {D : PD} {on c : T3} {s : Int} : ∀ {i : Nat}, i ≤ 3 → ∀ {a : PA}, stepsP D on c s i = some a → ∀ x, i ≤ x → x < 3 → a.on.get x = 0
  | 0, _, a, h, x, _, hx => by
    cases h
    rcases (by omega : x = 0 ∨ x = 1 ∨ x = 2) with rfl | rfl | rfl <;> rfl
  | i + 1, hi, a, h, x, h1, h2 => by
    simp only [stepsP] at h
    split at h
    · rename_i b hb
      have ih := stepsP_zero (by omega) hb x (by omega) h2
      unfold stepP at h
      split at h
      · split at h
        · cases h; exact ih
        · cases h
      · split at h
        · cases h
          simp only []
          rw [T3.get_set _ _ _ _ (by omega) h2, if_neg (by omega)]
          exact ih
        · cases h
    · cases h
theorem catF_two (F G : Nat → SV) (y : SV) {i x : Nat} (hx : x < i + 1) (h1 : ∀ z, z < i → F z = G z) (h2 : y = G i) : catF i (fun a _ => F a) (oneF [y]) x 0 = G x := by
  rcases Nat.lt_or_ge x i with h | h
  · simp only [catF, if_pos h, h1 x h]
  · obtain rfl : x = i := by omega
    simp only [catF, if_neg (Nat.lt_irrefl _), oneF, nth, h2]
def doRefBase : BaseF := fun args => match args with
  | [.agg [.row n sz_A f_A, .row h sz_nd f_nd, .row q sz_pr f_pr, .int .i64 st, .int .i64 ro, .int .i64 pk, .int .i64 fr], .agg [.row k sz_on f_on, .int .i64 sto, .int .i64 en, .int .i64 sta, .int .i64 pc, .int .i64 pw], .int .i64 hr, .row m sz_l f_l] => some ((sz_A = 5 ∧ NestR n 5 0 2 f_A) ∧ (sz_nd = 1 ∧ IntR h 1 f_nd) ∧ (sz_pr = 1 ∧ IntR q 1 f_pr) ∧ (sz_on = 1 ∧ IntR k 1 f_on) ∧ (sz_l = 1 ∧ IntR m 1 f_l) ∧ (q = h ∧ PD.Ok ⟨n, (nsA f_A), (nsM 0 f_A), (nsV 0 f_A), h, (ivf f_nd), (ivf f_pr), st, ro, pk, fr⟩ ∧ k = n ∧ m = n ∧ pc = 0 ∧ (∀ i, i < n → 0 ≤ (ivf f_l) i 0 ∧ (ivf f_l) i 0 ≤ (nsM 0 f_A) i) ∧ rsOk n ⟨fun i => (ivf f_on) i 0, sto, en, sta, pw⟩ ∧ 0 ≤ hr ∧ hr < h), .tup [rsS n (doR ⟨n, (nsA f_A), (nsM 0 f_A), (nsV 0 f_A), h, (ivf f_nd), (ivf f_pr), st, ro, pk, fr⟩ ⟨fun i => (ivf f_on) i 0, sto, en, sta, pw⟩ hr.toNat (chT n (ivf f_l))).1, .int .i64 (doR ⟨n, (nsA f_A), (nsM 0 f_A), (nsV 0 f_A), h, (ivf f_nd), (ivf f_pr), st, ro, pk, fr⟩ ⟨fun i => (ivf f_on) i 0, sto, en, sta, pw⟩ hr.toNat (chT n (ivf f_l))).2])
  | _ => none
theorem doRef_eq (n : Nat) (sz_A : Nat) (f_A : Nat → Nat → SV) (h : Nat) (sz_nd : Nat) (f_nd : Nat → Nat → SV) (q : Nat) (sz_pr : Nat) (f_pr : Nat → Nat → SV) (st : Int) (ro : Int) (pk : Int) (fr : Int) (k : Nat) (sz_on : Nat) (f_on : Nat → Nat → SV) (sto : Int) (en : Int) (sta : Int) (pc : Int) (pw : Int) (hr : Int) (m : Nat) (sz_l : Nat) (f_l : Nat → Nat → SV) : doRefBase [.agg [.row n sz_A f_A, .row h sz_nd f_nd, .row q sz_pr f_pr, .int .i64 st, .int .i64 ro, .int .i64 pk, .int .i64 fr], .agg [.row k sz_on f_on, .int .i64 sto, .int .i64 en, .int .i64 sta, .int .i64 pc, .int .i64 pw], .int .i64 hr, .row m sz_l f_l] = some ((sz_A = 5 ∧ NestR n 5 0 2 f_A) ∧ (sz_nd = 1 ∧ IntR h 1 f_nd) ∧ (sz_pr = 1 ∧ IntR q 1 f_pr) ∧ (sz_on = 1 ∧ IntR k 1 f_on) ∧ (sz_l = 1 ∧ IntR m 1 f_l) ∧ (q = h ∧ PD.Ok ⟨n, (nsA f_A), (nsM 0 f_A), (nsV 0 f_A), h, (ivf f_nd), (ivf f_pr), st, ro, pk, fr⟩ ∧ k = n ∧ m = n ∧ pc = 0 ∧ (∀ i, i < n → 0 ≤ (ivf f_l) i 0 ∧ (ivf f_l) i 0 ≤ (nsM 0 f_A) i) ∧ rsOk n ⟨fun i => (ivf f_on) i 0, sto, en, sta, pw⟩ ∧ 0 ≤ hr ∧ hr < h), .tup [rsS n (doR ⟨n, (nsA f_A), (nsM 0 f_A), (nsV 0 f_A), h, (ivf f_nd), (ivf f_pr), st, ro, pk, fr⟩ ⟨fun i => (ivf f_on) i 0, sto, en, sta, pw⟩ hr.toNat (chT n (ivf f_l))).1, .int .i64 (doR ⟨n, (nsA f_A), (nsM 0 f_A), (nsV 0 f_A), h, (ivf f_nd), (ivf f_pr), st, ro, pk, fr⟩ ⟨fun i => (ivf f_on) i 0, sto, en, sta, pw⟩ hr.toNat (chT n (ivf f_l))).2]) := rfl
theorem doRef_base : NB Try.prog 61 doRefBase := by
  intro args p v hq hp
  unfold doRefBase at hq
  split at hq
  rotate_left
  · cases hq
  rename_i n sz_A f_A h sz_nd f_nd q sz_pr f_pr st ro pk fr k sz_on f_on sto en sta pc pw hr m sz_l f_l
  cases hq
  obtain ⟨⟨rfl, i_A⟩, ⟨rfl, i_nd⟩, ⟨rfl, i_pr⟩, ⟨rfl, i_on⟩, ⟨rfl, i_l⟩, pre⟩ := hp
  refine nb_of (C := cx [] [] [] [(61, 1, p61_1), (61, 6, p61_6), (61, 16, p61_16), (61, 17, p61_17), (61, 22, p61_22)] none) (cx_ok trivial trivial) rfl (g := 61) (fn := Try.f61)
    (args' := [.agg [.row n 5 (nestF 0 2 (nsA f_A) (nsM 0 f_A) (nsV 0 f_A)), .row h 1 (rowF .i64 (ivf f_nd)), .row q 1 (rowF .i64 (ivf f_pr)), .int .i64 st, .int .i64 ro, .int .i64 pk, .int .i64 fr], .agg [.row k 1 (rowF .i64 (ivf f_on)), .int .i64 sto, .int .i64 en, .int .i64 sta, .int .i64 pc, .int .i64 pw], .int .i64 hr, .row m 1 (rowF .i64 (ivf f_l))]) (fn_61) rfl 1000 (by
    simp only [BdL, Bd, and_self, and_true, true_and]
    exact ⟨⟨(fun i j hi hj => nest_bd i_A i j hi hj), (fun i j hi hj => by rw [i_nd i j hi hj]; trivial), (fun i j hi hj => by rw [i_pr i j hi hj]; trivial)⟩, (fun i j hi hj => by rw [i_on i j hi hj]; trivial), (fun i j hi hj => by rw [i_l i j hi hj]; trivial)⟩) ⟨SameD.agg ⟨SameD.nest i_A, SameD.int i_nd, SameD.int i_pr, SameD.rfl' _, SameD.rfl' _, SameD.rfl' _, SameD.rfl' _, trivial⟩, SameD.agg ⟨SameD.int i_on, SameD.rfl' _, SameD.rfl' _, SameD.rfl' _, SameD.rfl' _, SameD.rfl' _, trivial⟩, SameD.rfl' _, SameD.int i_l, trivial⟩ (by simp only [rsS, Bd, BdL, and_true, implies_true]) ?_
  generalize nsA f_A = A at *
  generalize nsM 0 f_A = M at *
  generalize nsV 0 f_A = V at *
  generalize ivf f_nd = nd at *
  generalize ivf f_pr = pr at *
  generalize ivf f_on = on at *
  generalize ivf f_l = l at *
  simp only [rowF_eq]
  simp only [p61_1, p61_6, p61_16, p61_17, p61_22, nestF_eq, nestR_lit, nsM_lit, nsV_lit, Try.f61, go_sem, ↓reduceIte, Nat.reduceAdd, Nat.reduceSub, Nat.reduceMul, Nat.reduceEqDiff, Nat.reduceLT, Nat.reduceLeDiff, Int.reduceToNat, Int.reduceLE, Int.reduceLT, Int.reduceEq, Int.reduceNeg, reduceCtorEq]
  obtain ⟨rfl, hOk, hkn, hmn, rfl, hl, hs, hh0, hh⟩ := pre
  obtain ⟨hr, rfl⟩ : ∃ k : Nat, hr = k := ⟨hr.toNat, by omega⟩
  simp only [Int.toNat_natCast]
  generalize hD : (⟨n, A, M, V, q, nd, pr, st, ro, pk, fr⟩ : PD) = D at hOk ⊢
  have d0 : n = D.n := by rw [← hD]
  have d1 : A = D.A := by rw [← hD]
  have d2 : M = D.M := by rw [← hD]
  have d3 : V = D.V := by rw [← hD]
  have d4 : q = D.h := by rw [← hD]
  have d5 : nd = D.nd := by rw [← hD]
  have d6 : pr = D.pr := by rw [← hD]
  have d7 : st = D.st := by rw [← hD]
  have d8 : ro = D.ro := by rw [← hD]
  have d9 : pk = D.pk := by rw [← hD]
  have d10 : fr = D.fr := by rw [← hD]
  clear hD
  subst d0 d1 d2 d3 d4 d5 d6 d7 d8 d9 d10
  subst hkn hmn
  have hn := hOk.n
  have hnd := hOk.nd hr (by omega)
  obtain ⟨hs1, hs2, hs3, hs4, hs5⟩ := hs
  simp only at hs1 hs2 hs3 hs4 hs5
  have ho : ∀ i, i < 3 → 0 ≤ (chT D.n on).get i ∧ (chT D.n on).get i ≤ 12 := fun i hi => by
    by_cases h : i < D.n
    · rw [chT_get h hi]; exact hs1 i h
    · rcases (by omega : i = 0 ∨ i = 1 ∨ i = 2) with rfl | rfl | rfl <;> simp [chT, T3.get, h]
  have hc : chOk D (chT D.n l) := fun i hi => by rw [chT_get hi (by omega)]; exact hl i hi
  have w0 : IntKind.i64.wrap (sto - D.nd hr 0) = sto - D.nd hr 0 := wrap_id (by omega) (by omega)
  rw [w0]
  have hdo : doR D ⟨fun i => on i 0, sto, en, sta, pw⟩ hr (chT D.n l) = match stepsP D (chT D.n on) (chT D.n l) (sto - D.nd hr 0) D.n with
      | none => (⟨fun i => on i 0, sto, en, sta, pw⟩, 11)
      | some a => if a.sto < 0 then (⟨fun i => on i 0, sto, en, sta, pw⟩, 10) else if D.ro < a.sto then (⟨fun i => on i 0, sto, en, sta, pw⟩, 9) else (⟨a.on.get, a.sto, en + a.pow * D.pr hr 0, sta + a.sta, max pw a.pow⟩, 0) := rfl
  generalize hs0 : sto - D.nd hr 0 = s0 at hdo
  refine ⟨⟨by kernel_rfl, by kernel_rfl⟩, by omega, by omega, ?_⟩
  refine loop_ofH { x : Nat × PA // x.1 ≤ D.n ∧ stepsP D (chT D.n on) (chT D.n l) s0 x.1 = some x.2 } (fun x => [(12, .int .i64 (x.1.1 : Int)), (11, .int .i64 x.1.2.pow), (10, .ptr 3 0), (8, .ptr 2 0), (5, .ptr 1 0), (4, .ptr 0 0), (3, .row D.n 1 fun i j => .int .i64 (l i j)), (2, .int .i64 (hr : Int))])
    (fun h x => ⟨[getB h.blks 0, getB h.blks 1, getB h.blks 2, .live 85 [.vec 2 x.1.1, .int .i64 x.1.2.sto, .int .i64 en, .int .i64 (sta + x.1.2.sta), .int .i64 0, .int .i64 0]], [getV h.vecs 0, getV h.vecs 1, .live x.1.1 3 1 x.1.1 (fun i _ => .int .i64 (x.1.2.on.get i))]⟩) (fun x => D.n - x.1.1) (fun _ => ⟨rfl, rfl⟩) ⟨(0, ⟨⟨0, 0, 0⟩, s0, 0, 0⟩), by simp only []; omega, rfl⟩ (by (apply sub_of <;> simp only [go_sem, ↓reduceIte, Nat.reduceAdd, Nat.reduceSub, Nat.reduceMul, Nat.reduceEqDiff, Nat.reduceLT, Nat.reduceLeDiff, Int.reduceToNat, Int.reduceLE, Int.reduceLT, Int.reduceEq, Int.reduceNeg, reduceCtorEq] <;> (try simp [catF])); all_goals (repeat' first | assumption | exact nestF_bd _ _ _ _ _ _ _ _ _ | exact nestF_bd1 _ _ _ _ _ _ _ _ _ | exact fun _ _ => nestF_bd1 _ _ _ _ _ _ _ _ _ | exact fun _ _ _ _ => nestF_bd1 _ _ _ _ _ _ _ _ _ | exact fun x hx => catF_one _ hx | refine And.intro ?_ ?_)) ?_
  rintro ⟨⟨i, a⟩, hi, ha⟩
  simp only at hi ha
  simp only [p61_1, p61_6, p61_16, p61_17, p61_22, nestF_eq, nestR_lit, nsM_lit, nsV_lit, Try.f61, go_sem, ↓reduceIte, Nat.reduceAdd, Nat.reduceSub, Nat.reduceMul, Nat.reduceEqDiff, Nat.reduceLT, Nat.reduceLeDiff, Int.reduceToNat, Int.reduceLE, Int.reduceLT, Int.reduceEq, Int.reduceNeg, reduceCtorEq]
  have err : ∀ e : Int, doR D ⟨fun i => on i 0, sto, en, sta, pw⟩ hr (chT D.n l) = (⟨fun i => on i 0, sto, en, sta, pw⟩, e) →
      (∀ (i j : Nat), i < D.n → j < 1 → True) ∧ SameD (.tup [.agg [.row D.n 1 fun i j => .int .i64 (on i j), .int .i64 sto, .int .i64 en, .int .i64 sta, .int .i64 0, .int .i64 pw], .int .i64 e]) (.tup [rsS D.n (doR D ⟨fun i => on i 0, sto, en, sta, pw⟩ hr (chT D.n l)).1, .int .i64 (doR D ⟨fun i => on i 0, sto, en, sta, pw⟩ hr (chT D.n l)).2]) := fun e he => by
    rw [he]
    refine ⟨fun _ _ _ _ => trivial, ?_⟩
    apply SameD.tup
    refine ⟨SameD.agg ⟨SameD.rowD fun x j _ hj => ?_, SameD.rfl' _, SameD.rfl' _, SameD.rfl' _, SameD.rfl' _, SameD.rfl' _, trivial⟩, SameD.rfl' _, trivial⟩
    obtain rfl : j = 0 := by omega
    exact SameD.rfl' _
  have hok := stepsP_ok hOk ho hc (by omega) ha
  obtain ⟨b1, b2, b3, b4⟩ := hok
  have hw3 : IntKind.i64.wrap ((i : Int) + 1) = ((i + 1 : Nat) : Int) := by rw [wrap_id (by omega) (by omega)]; omega
  refine ⟨fun e1 => ?_, fun e1 => ?_⟩
  all_goals simp only [decide_eq_true_eq, decide_eq_false_iff_not] at e1
  · have hin : i < D.n := by omega
    have h3 : i < 3 := by omega
    have gl : (chT D.n l).get i = l i 0 := chT_get hin h3 l
    have go : (chT D.n on).get i = on i 0 := chT_get hin h3 on
    have hM := hOk.M i hin
    have hst := hOk.start i hin
    have hle := hOk.least i hin
    have hli := hl i hin
    have hoi := hs1 i hin
    have hstep : stepsP D (chT D.n on) (chT D.n l) s0 (i + 1) = stepP D (chT D.n on) (chT D.n l) i a := by simp only [stepsP, ha]
    have bad : stepP D (chT D.n on) (chT D.n l) i a = none → doR D ⟨fun i => on i 0, sto, en, sta, pw⟩ hr (chT D.n l) = (⟨fun i => on i 0, sto, en, sta, pw⟩, 11) := fun h => by
      rw [hdo, stepsP_none (hstep.trans h) _ (by omega)]
    have hz := stepsP_zero (by omega) ha i (Nat.le_refl _) h3
    refine ⟨⟨by kernel_rfl, by kernel_rfl⟩, by omega, by omega, by omega, by omega, by omega, fun e2 => ?_, fun e2 => ?_⟩
    all_goals simp only [decide_eq_true_eq, decide_eq_false_iff_not] at e2
    · have same : stepP D (chT D.n on) (chT D.n l) i a = some a → ∀ {k : List It} {t : List SV} {h : HS}, True := fun _ {_ _ _} => trivial
      clear same
      refine ⟨fun e3 => ⟨fun e4 => err 11 (bad ?_), fun e4 => ⟨⟨by omega, by omega⟩, ?_⟩⟩, fun e3 => ⟨⟨by omega, by omega⟩, ?_⟩⟩
      all_goals simp only [decide_eq_true_eq, decide_eq_false_iff_not] at e3
      all_goals try simp only [decide_eq_true_eq, decide_eq_false_iff_not] at e4
      · simp only [stepP, gl, go, if_pos e2]
        rw [if_neg (by omega)]
      all_goals
        have hs1 : stepP D (chT D.n on) (chT D.n l) i a = some a := by
          simp only [stepP, gl, go, if_pos e2]
          rw [if_pos (by omega)]
        refine ⟨⟨(i + 1, a), by simp only []; omega, hstep.trans hs1⟩, by simp only []; omega, ?_⟩
        apply sub_of <;> simp only [hw3, go_sem, ↓reduceIte, Nat.reduceAdd, Nat.reduceSub, Nat.reduceMul, Nat.reduceEqDiff, Nat.reduceLT, Nat.reduceLeDiff, Int.reduceToNat, Int.reduceLE, Int.reduceLT, Int.reduceEq, Int.reduceNeg, reduceCtorEq] <;> (try simp)
        · exact fun x hx => catF_two (fun x => .int .i64 (a.on.get x)) (fun x => .int .i64 (a.on.get x)) (.int .i64 0) hx (fun _ _ => rfl) (by simp only [hz])
        all_goals (repeat' first | assumption | exact nestF_bd _ _ _ _ _ _ _ _ _ | exact nestF_bd1 _ _ _ _ _ _ _ _ _ | exact fun _ _ => nestF_bd1 _ _ _ _ _ _ _ _ _ | exact fun _ _ _ _ => nestF_bd1 _ _ _ _ _ _ _ _ _ | exact fun x hx => catF_one _ hx | refine And.intro ?_ ?_)
    · have hk : IntKind.i64.wrap (l i 0 - 1) = l i 0 - 1 := wrap_id (by omega) (by omega)
      have hpo := hOk.pow i (l i 0 - 1).toNat hin (by omega)
      have hco := hOk.cold i (l i 0 - 1).toNat hin (by omega)
      have w1 : IntKind.i64.wrap (on i 0 + 1) = on i 0 + 1 := wrap_id (by omega) (by omega)
      have w2 : IntKind.i64.wrap (a.sto + D.V i (l i 0 - 1).toNat 1) = a.sto + D.V i (l i 0 - 1).toNat 1 := wrap_id (by omega) (by omega)
      have w3 : IntKind.i64.wrap (a.pow + D.V i (l i 0 - 1).toNat 0) = a.pow + D.V i (l i 0 - 1).toNat 0 := wrap_id (by omega) (by omega)
      have w4 : IntKind.i64.wrap (sta + a.sta + D.A i 1) = sta + (a.sta + D.A i 1) := by rw [wrap_id (by omega) (by omega)]; omega
      rw [hk]
      refine ⟨fun e3 => err 11 (bad ?_), fun e3 => ⟨fun e4 => ⟨⟨by omega, by omega⟩, ⟨by kernel_rfl, by kernel_rfl⟩, by omega, ⟨by omega, by omega⟩, ⟨by kernel_rfl, by kernel_rfl⟩, by omega, ⟨by omega, by omega⟩, ?_⟩, fun e4 => ⟨⟨by omega, by omega⟩, ⟨by kernel_rfl, by kernel_rfl⟩, by omega, ⟨by omega, by omega⟩, ⟨by kernel_rfl, by kernel_rfl⟩, by omega, ⟨by omega, by omega⟩, ?_⟩⟩⟩
      all_goals simp only [decide_eq_true_eq, decide_eq_false_iff_not] at e3
      all_goals try simp only [decide_eq_true_eq, decide_eq_false_iff_not] at e4
      · simp only [stepP, gl, go, if_neg e2]
        rw [if_neg (by omega)]
      · have hs1 : stepP D (chT D.n on) (chT D.n l) i a = some ⟨a.on.set i (on i 0 + 1), a.sto + D.V i (l i 0 - 1).toNat 1, a.pow + D.V i (l i 0 - 1).toNat 0, a.sta + D.A i 1⟩ := by
          simp only [stepP, gl, go, if_neg e2]
          rw [if_pos (by omega), if_pos e4]
        refine ⟨⟨(i + 1, _), by simp only []; omega, hstep.trans hs1⟩, by simp only []; omega, ?_⟩
        apply sub_of <;> simp only [hw3, w1, w2, w3, w4, go_sem, ↓reduceIte, Nat.reduceAdd, Nat.reduceSub, Nat.reduceMul, Nat.reduceEqDiff, Nat.reduceLT, Nat.reduceLeDiff, Int.reduceToNat, Int.reduceLE, Int.reduceLT, Int.reduceEq, Int.reduceNeg, reduceCtorEq] <;> (try simp)
        · exact fun x hx => catF_two (fun x => .int .i64 (a.on.get x)) (fun x => .int .i64 ((a.on.set i (on i 0 + 1)).get x)) (.int .i64 (on i 0 + 1)) hx (fun z hz => by rw [T3.get_set _ _ _ _ h3 (by omega), if_neg (by omega)]) (by rw [T3.get_set _ _ _ _ h3 h3, if_pos rfl])
        all_goals (repeat' first | assumption | exact nestF_bd _ _ _ _ _ _ _ _ _ | exact nestF_bd1 _ _ _ _ _ _ _ _ _ | exact fun _ _ => nestF_bd1 _ _ _ _ _ _ _ _ _ | exact fun _ _ _ _ => nestF_bd1 _ _ _ _ _ _ _ _ _ | exact fun x hx => catF_one _ hx | refine And.intro ?_ ?_)
      · have hs1 : stepP D (chT D.n on) (chT D.n l) i a = some ⟨a.on.set i (on i 0 + 1), a.sto + D.V i (l i 0 - 1).toNat 1, a.pow + D.V i (l i 0 - 1).toNat 0, a.sta⟩ := by
          simp only [stepP, gl, go, if_neg e2]
          rw [if_pos (by omega), if_neg e4]
        refine ⟨⟨(i + 1, _), by simp only []; omega, hstep.trans hs1⟩, by simp only []; omega, ?_⟩
        apply sub_of <;> simp only [hw3, w1, w2, w3, w4, go_sem, ↓reduceIte, Nat.reduceAdd, Nat.reduceSub, Nat.reduceMul, Nat.reduceEqDiff, Nat.reduceLT, Nat.reduceLeDiff, Int.reduceToNat, Int.reduceLE, Int.reduceLT, Int.reduceEq, Int.reduceNeg, reduceCtorEq] <;> (try simp)
        · exact fun x hx => catF_two (fun x => .int .i64 (a.on.get x)) (fun x => .int .i64 ((a.on.set i (on i 0 + 1)).get x)) (.int .i64 (on i 0 + 1)) hx (fun z hz => by rw [T3.get_set _ _ _ _ h3 (by omega), if_neg (by omega)]) (by rw [T3.get_set _ _ _ _ h3 h3, if_pos rfl])
        all_goals (repeat' first | assumption | exact nestF_bd _ _ _ _ _ _ _ _ _ | exact nestF_bd1 _ _ _ _ _ _ _ _ _ | exact fun _ _ => nestF_bd1 _ _ _ _ _ _ _ _ _ | exact fun _ _ _ _ => nestF_bd1 _ _ _ _ _ _ _ _ _ | exact fun x hx => catF_one _ hx | refine And.intro ?_ ?_)
  · obtain rfl : i = D.n := by omega
    rw [ha] at hdo
    simp only [] at hdo
    have hpr := hOk.pr hr (by omega)
    have q1 := mulB (x := a.pow) (y := D.pr hr 0) (m := 3000) (k := 10000) (by omega) (by omega)
    have w1 : IntKind.i64.wrap (a.pow * D.pr hr 0) = a.pow * D.pr hr 0 := wrap_id (by omega) (by omega)
    have w2 : IntKind.i64.wrap (en + a.pow * D.pr hr 0) = en + a.pow * D.pr hr 0 := wrap_id (by omega) (by omega)
    rw [w1, w2]
    refine ⟨fun e2 => err 10 ?_, fun e2 => ⟨fun e3 => err 9 ?_, fun e3 => ⟨⟨by kernel_rfl, by kernel_rfl⟩, by omega, fun _ _ _ _ => trivial, ?_⟩⟩⟩
    all_goals simp only [decide_eq_true_eq, decide_eq_false_iff_not] at e2
    · rw [hdo, if_pos e2]
    all_goals simp only [decide_eq_true_eq, decide_eq_false_iff_not] at e3
    · rw [hdo, if_neg e2, if_pos e3]
    · rw [hdo, if_neg e2, if_neg e3]
      exact SameD.rfl' _
end Go.Eng
end

/- press: the reference's lists of choices. -/
section
namespace Go.Eng
open Go Go.RowKit Go.Proofs
set_option maxRecDepth 100000
set_option maxHeartbeats 4000000
attribute [local irreducible] OwnT DefS
def entF (k : Nat) (G : Nat → Nat → Int) : Nat → Nat → SV := fun i _ => .row k 1 (fun a _ => .int .i64 (G i a))
theorem entF_bd {k : Nat} {G : Nat → Nat → Int} {L M : Nat} (i j : Nat) : Bd L M (entF k G i j) := by simp only [entF, Bd, implies_true]
theorem entF_ren (b v : Nat → Nat) (k : Nat) (G : Nat → Nat → Int) : (fun i j => renS b v (entF k G i j)) = entF k G := by
  funext i j
  simp only [entF, renS]
def tjL (M : Nat → Nat) : Nat → Nat → Nat
  | 0, _ => 1
  | d + 1, j => (M j + 1) * tjL M d (j + 1)
def dgL (M : Nat → Nat) : Nat → Nat → Nat → Nat → Nat
  | 0, _, _, _ => 0
  | d + 1, j, e, a => if a = j then e / tjL M d (j + 1) else dgL M d (j + 1) (e % tjL M d (j + 1)) a
def addL (M : Nat → Nat) (m j d : Nat) (G : Nat → Nat → Int) (b : Nat → Int) : Nat → Nat → Int := fun i a => if i < m then G i a else if j ≤ a ∧ a < j + d then (dgL M d j (i - m) a : Nat) else b a
theorem tjL_pos (M : Nat → Nat) : ∀ d j, 0 < tjL M d j
  | 0, _ => by simp [tjL]
  | d + 1, j => Nat.mul_pos (by omega) (tjL_pos M d (j + 1))
theorem add_base {M : Nat → Nat} {m k : Nat} {G : Nat → Nat → Int} {b : Nat → Int} {x : Nat} (hx : x < m + 1) : catF m (entF k G) (oneF [.row k 1 (fun i _ => .int .i64 (b i))]) x 0 = entF k (addL M m k 0 G b) x 0 := by
  rcases Nat.lt_or_ge x m with h | h
  · simp only [catF, if_pos h, entF, addL]
  · obtain rfl : x = m := by omega
    simp only [catF, if_neg (Nat.lt_irrefl _), oneF, nth, entF, addL]
    congr 1; funext a _
    rw [if_neg (by omega)]
theorem add_last {M : Nat → Nat} {m j d n : Nat} {G : Nat → Nat → Int} {b b' : Nat → Int} (hb : ∀ a, b' a = if a = j then (n : Int) else b a) {i : Nat} (hi : i < m + (n + 1) * tjL M d (j + 1)) (a : Nat) :
    addL M (m + n * tjL M d (j + 1)) (j + 1) d (addL M m j (d + 1) G b) b' i a = addL M m j (d + 1) G b i a := by
  have hp := tjL_pos M d (j + 1)
  generalize hT : tjL M d (j + 1) = T at hi hp
  by_cases h1 : i < m + n * T
  · rw [addL, if_pos h1]
  · simp only [addL]
    rw [if_neg h1, if_neg (show ¬ i < m by omega)]
    obtain ⟨e, rfl⟩ : ∃ e, i = m + n * T + e := ⟨i - (m + n * T), by omega⟩
    have he : e < T := by rw [Nat.succ_mul] at hi; omega
    have e1 : m + n * T + e - m = e + T * n := by rw [Nat.mul_comm]; omega
    have e2 : m + n * T + e - (m + n * T) = e := by omega
    have e3 : (e + T * n) / T = n := by rw [Nat.add_mul_div_left _ _ hp, Nat.div_eq_of_lt he]; omega
    have e4 : (e + T * n) % T = e := by rw [Nat.add_mul_mod_self_left, Nat.mod_eq_of_lt he]
    rw [e1, e2]
    by_cases h2 : a = j
    · subst h2
      rw [if_neg (by omega), if_pos (by omega), hb, if_pos rfl, dgL, hT, if_pos rfl, e3]
    · by_cases h3 : j ≤ a ∧ a < j + (d + 1)
      · rw [if_pos (by omega), if_pos h3, dgL, if_neg h2, hT, e4]
      · rw [if_neg (by omega), if_neg h3, hb, if_neg h2]
theorem add_low {M : Nat → Nat} {m j d k : Nat} {G : Nat → Nat → Int} {b : Nat → Int} {i : Nat} (hi : i < m) : entF k G i 0 = entF k (addL M m j d G b) i 0 := by
  simp only [entF, addL, if_pos hi]
theorem lists_frame {D : PD} {k v m K : Nat} {b : Nat → Int} {F F' : Nat → Nat → SV} (B : List Blk) (V : List Vc) (hF : ∀ i j, Bd 0 1 (F i j)) (hF' : ∀ i j, Bd 0 1 (F' i j)) (rF : (fun i j => renS (nmN []) (nmN [0]) (F i j)) = F) (rF' : (fun i j => renS (nmN []) (nmN [0]) (F' i j)) = F')
    (h : CallsS Try.prog 40 [.agg (prC D), .row k 1 (fun i _ => .int .i64 (b i)), .vec 0 v] ⟨[], [.live v 23 1 m F]⟩ (fun o h' => ∃ v', o = .ret (.vec 0 v') ∧ h' = ⟨[], [.live v' 23 1 K F']⟩)) :
    CallsS Try.prog 40 [.agg (prC D), .row k 1 (fun i _ => .int .i64 (b i)), .vec 0 v] ⟨B, .live v 23 1 m F :: V⟩ (fun o h' => ∃ v', o = .ret (.vec 0 v') ∧ h' = ⟨B, .live v' 23 1 K F' :: V⟩) := by
  have := calls_ren (h := ⟨B, .live v 23 1 m F :: V⟩) [] [0] h (by decide) (by decide) (by simp [BdL, Bd]; exact prC_bd D _ _) (by simp [bdB]) (by simp [bdV]; exact fun i _ => hF i 0) (by simp only [go_sem, ↓reduceIte, Nat.reduceAdd, Nat.reduceSub, Nat.reduceMul, Nat.reduceEqDiff, Nat.reduceLT, Nat.reduceLeDiff, Int.reduceToNat, Int.reduceLE, Int.reduceLT, Int.reduceEq, Int.reduceNeg, reduceCtorEq])
    (by simp only [matV, go_sem, ↓reduceIte, Nat.reduceAdd, Nat.reduceSub, Nat.reduceMul, Nat.reduceEqDiff, Nat.reduceLT, Nat.reduceLeDiff, Int.reduceToNat, Int.reduceLE, Int.reduceLT, Int.reduceEq, Int.reduceNeg, reduceCtorEq, rF]) (by simp) (by intro k hk; simp at hk; subst hk; simp [lenV])
    (by rintro o h' ⟨v', rfl, rfl⟩; refine ⟨rfl, rfl, by simp [bdB], by simp [bdV]; exact fun i _ => hF' i 0, by simp [bdO, Bd]⟩)
  simp only [renL, renS, prC_ren, nmN.eq_2] at this
  refine calls_mono ?_ this
  rintro o h' ⟨o0, h0', ⟨v', rfl, rfl⟩, rfl, rfl⟩
  refine ⟨v', rfl, ?_⟩
  simp only [go_sem, ↓reduceIte, Nat.reduceAdd, Nat.reduceSub, Nat.reduceMul, Nat.reduceEqDiff, Nat.reduceLT, Nat.reduceLeDiff, Int.reduceToNat, Int.reduceLE, Int.reduceLT, Int.reduceEq, Int.reduceNeg, reduceCtorEq, rF']
def q40_6 : Plan := .quiet 0 (.quiet 2 (.quiet 4 (.quiet 7 (.both (.loud 1 [0] (.both (.loud 3 [0] (.loud 5 [0] (.loud 6 [0] (.loud 8 [] (.quiet 9 (.done)))))) (.loud 5 [0] (.loud 3 [0] (.loud 6 [0] (.loud 8 [] (.quiet 9 (.done)))))))) (.loud 5 [0] (.loud 1 [0] (.loud 3 [0] (.loud 6 [0] (.loud 8 [] (.quiet 9 (.done)))))))))))
theorem lists_calls {D : PD} (hD : D.Ok) : ∀ (d j : Nat) (b : Nat → Int) (m : Nat) (G : Nat → Nat → Int) (v : Nat), j + d = D.n → m + tjL D.M d j ≤ 4000 →
    CallsS Try.prog 40 [.agg (prC D), .row j 1 (fun i _ => .int .i64 (b i)), .vec 0 v] ⟨[], [.live v 23 1 m (entF D.n G)]⟩
      (fun o h' => ∃ v', o = .ret (.vec 0 v') ∧ h' = ⟨[], [.live v' 23 1 (m + tjL D.M d j) (entF D.n (addL D.M m j d G b))]⟩) := by
  have hn := hD.n
  intro d
  induction d with
  | zero =>
    intro j b m G v hjd hm
    obtain rfl : j = D.n := by omega
    refine calls_trim (calls_of_run (C := cx [40] [] [] [(40, 6, q40_6)] none) (cx_ok trivial trivial) (K := fun o h' => ∃ v' B W, o = .ret (.vec 0 v') ∧ h' = ⟨B, .live v' 23 1 (m + 1) (catF m (entF D.n G) (oneF [.row D.n 1 (fun i _ => .int .i64 (b i))])) :: W⟩) rfl fn_40 rfl 1000 ?_) ?_
    · simp only [Try.f40, prC, q40_6, go_sem, ↓reduceIte, Nat.reduceAdd, Nat.reduceSub, Nat.reduceMul, Nat.reduceEqDiff, Nat.reduceLT, Nat.reduceLeDiff, Int.reduceToNat, Int.reduceLE, Int.reduceLT, Int.reduceEq, Int.reduceNeg, reduceCtorEq]
      simp only [tjL] at hm
      exact ⟨⟨by omega, by omega⟩, _, _, _, rfl, rfl⟩
    · rintro o h' ⟨v', B, W, rfl, rfl⟩
      refine ⟨.vec 0 v', .vec 0 v', ⟨[], [.live v' 23 1 (m + tjL D.M 0 D.n) (entF D.n (addL D.M m D.n 0 G b))]⟩, ⟨rfl, v', rfl, rfl⟩, ⟨?_, ?_, ?_, ?_, ?_, ?_⟩, ⟨?_, ?_⟩, ⟨?_, ?_⟩⟩ <;> simp only [go_sem, ↓reduceIte, Nat.reduceAdd, Nat.reduceSub, Nat.reduceMul, Nat.reduceEqDiff, Nat.reduceLT, Nat.reduceLeDiff, Int.reduceToNat, Int.reduceLE, Int.reduceLT, Int.reduceEq, Int.reduceNeg, reduceCtorEq, tjL] <;> (try simp)
      · exact fun i hi => add_base hi
      · exact fun i _ => entF_bd i 0
  | succ d ih =>
    intro j b m G v hjd hm
    have hp := tjL_pos D.M d (j + 1)
    have hj : j < D.n := by omega
    have hMj := hD.M j hj
    refine calls_trim (calls_of_run (C := cx [40] [] [] [(40, 6, q40_6)] none) (cx_ok trivial trivial) (K := fun o h' => ∃ v' B W, o = .ret (.vec 0 v') ∧ h' = ⟨B, .live v' 23 1 (m + tjL D.M (d + 1) j) (entF D.n (addL D.M m j (d + 1) G b)) :: W⟩) rfl fn_40 rfl 1000 ?_) ?_
    · simp only [Try.f40, prC, q40_6, go_sem, ↓reduceIte, Nat.reduceAdd, Nat.reduceSub, Nat.reduceMul, Nat.reduceEqDiff, Nat.reduceLT, Nat.reduceLeDiff, Int.reduceToNat, Int.reduceLE, Int.reduceLT, Int.reduceEq, Int.reduceNeg, reduceCtorEq]
      refine ⟨fun e => by simp at e; omega, fun _ => ?_⟩
      refine loop_of { x : Nat × Nat // x.1 ≤ D.M j + 1 } (fun x => [(7, .int .i64 (x.1.1 : Int)), (3, .ptr 0 0), (2, .vec 0 x.1.2), (1, .row j 1 fun i _ => .int .i64 (b i))])
        (fun x => ⟨[.live 25 (prC D)], [.live x.1.2 23 1 (m + x.1.1 * tjL D.M d (j + 1)) (entF D.n (addL D.M m j (d + 1) G b)), .dead]⟩) (fun x => D.M j + 1 - x.1.1) (fun _ => ⟨rfl, rfl⟩) ⟨(0, v), by omega⟩ (by simp only [prC]; (apply sub_of <;> simp only [go_sem, ↓reduceIte, Nat.reduceAdd, Nat.reduceSub, Nat.reduceMul, Nat.reduceEqDiff, Nat.reduceLT, Nat.reduceLeDiff, Int.reduceToNat, Int.reduceLE, Int.reduceLT, Int.reduceEq, Int.reduceNeg, reduceCtorEq] <;> (try simp [catF])); all_goals first | exact nestF_bd _ _ _ _ _ _ _ _ _ | exact fun i _ => entF_bd i 0 | exact fun i hi => add_low hi) ?_
      rintro ⟨⟨n, u⟩, hn1⟩
      simp only at hn1
      simp only [Try.f40, prC, q40_6, nestF_eq, go_sem, ↓reduceIte, Nat.reduceAdd, Nat.reduceSub, Nat.reduceMul, Nat.reduceEqDiff, Nat.reduceLT, Nat.reduceLeDiff, Int.reduceToNat, Int.reduceLE, Int.reduceLT, Int.reduceEq, Int.reduceNeg, reduceCtorEq]
      refine ⟨⟨by omega, by omega⟩, fun e1 => ?_, fun e1 => ?_⟩
      all_goals simp only [decide_eq_true_eq, decide_eq_false_iff_not] at e1
      · have hpl : (n + 1) * tjL D.M d (j + 1) = n * tjL D.M d (j + 1) + tjL D.M d (j + 1) := Nat.succ_mul _ _
        have hle : (n + 1) * tjL D.M d (j + 1) ≤ (D.M j + 1) * tjL D.M d (j + 1) := Nat.mul_le_mul_right _ (by omega)
        have htj : tjL D.M (d + 1) j = (D.M j + 1) * tjL D.M d (j + 1) := rfl
        have hw : IntKind.i64.wrap ((n : Int) + 1) = ((n + 1 : Nat) : Int) := by rw [wrap_id (by omega) (by omega)]; omega
        have hcall := ih (j + 1) (fun a => if a = j then (n : Int) else b a) (m + n * tjL D.M d (j + 1)) (addL D.M m j (d + 1) G b) u (by omega) (by omega)
        refine ⟨⟨by kernel_rfl, by kernel_rfl⟩, ⟨⟨⟨by omega, by omega⟩, ⟨by omega, by omega⟩, ?_⟩, ⟨by omega, by omega⟩, ⟨by omega, by omega⟩, ?_⟩, ⟨by omega, by omega⟩, ⟨by omega, by omega⟩, ?_⟩
        · have hc := lists_frame [.live 25 (prC D)] [.dead, .dead, .live 0 3 1 1 (oneF [.int .i64 (n : Int)])] (fun i j => entF_bd i j) (fun i j => entF_bd i j) (entF_ren _ _ _ _) (entF_ren _ _ _ _) hcall
          simp only [prC] at hc
          refine calls_mono ?_ (calls_give (l1 := [.agg [.row D.n 5 (nestF 0 2 D.A D.M D.V), .row D.h 1 (fun i j => .int .i64 (D.nd i j)), .row D.h 1 (fun i j => .int .i64 (D.pr i j)), .int .i64 D.st, .int .i64 D.ro, .int .i64 D.pk, .int .i64 D.fr]]) (l2 := [.vec 0 u]) (id := 2) (ver := 2) rfl (calls_pre ?_ rfl rfl hc))
          · rintro o h' ⟨v', rfl, rfl⟩
            simp only [Try.f40, prC, q40_6, nestF_eq, go_sem, ↓reduceIte, Nat.reduceAdd, Nat.reduceSub, Nat.reduceMul, Nat.reduceEqDiff, Nat.reduceLT, Nat.reduceLeDiff, Int.reduceToNat, Int.reduceLE, Int.reduceLT, Int.reduceEq, Int.reduceNeg, reduceCtorEq]
            refine ⟨⟨(n + 1, v'), by simp only []; omega⟩, by simp only []; omega, ?_⟩
            apply sub_of <;> simp only [hw, go_sem, ↓reduceIte, Nat.reduceAdd, Nat.reduceSub, Nat.reduceMul, Nat.reduceEqDiff, Nat.reduceLT, Nat.reduceLeDiff, Int.reduceToNat, Int.reduceLE, Int.reduceLT, Int.reduceEq, Int.reduceNeg, reduceCtorEq] <;> (try simp)
            all_goals first | exact nestF_bd _ _ _ _ _ _ _ _ _ | exact fun i _ => entF_bd i 0 | skip
            refine ⟨by rw [Nat.succ_mul]; omega, fun i hi => ?_⟩
            simp only [entF]
            congr 1; funext a _
            rw [add_last (fun a => rfl) (by rw [Nat.succ_mul]; omega)]
          · refine ⟨?_, ?_, ?_, ?_, ?_, ?_⟩ <;> simp only [prC, List.cons_append, List.nil_append, go_sem, ↓reduceIte, Nat.reduceAdd, Nat.reduceSub, Nat.reduceMul, Nat.reduceEqDiff, Nat.reduceLT, Nat.reduceLeDiff, Int.reduceToNat, Int.reduceLE, Int.reduceLT, Int.reduceEq, Int.reduceNeg, reduceCtorEq] <;> (try simp)
            all_goals first | exact nestF_bd _ _ _ _ _ _ _ _ _ | exact fun i _ => entF_bd i 0 | exact ⟨fun i _ => entF_bd i 0, trivial⟩ | skip
            intro i hi
            simp only [catF, oneF, nth]
            by_cases h : i < j
            · rw [if_pos h, if_neg (by omega), if_neg (by omega)]; rfl
            · rw [if_neg h, if_pos (by omega)]
        · have hc := lists_frame [.live 25 (prC D)] [.dead, .dead, .live 0 3 1 1 (oneF [.int .i64 (n : Int)])] (fun i j => entF_bd i j) (fun i j => entF_bd i j) (entF_ren _ _ _ _) (entF_ren _ _ _ _) hcall
          simp only [prC] at hc
          refine calls_mono ?_ (calls_give (l1 := [.agg [.row D.n 5 (nestF 0 2 D.A D.M D.V), .row D.h 1 (fun i j => .int .i64 (D.nd i j)), .row D.h 1 (fun i j => .int .i64 (D.pr i j)), .int .i64 D.st, .int .i64 D.ro, .int .i64 D.pk, .int .i64 D.fr]]) (l2 := [.vec 0 u]) (id := 2) (ver := 2) rfl (calls_pre ?_ rfl rfl hc))
          · rintro o h' ⟨v', rfl, rfl⟩
            simp only [Try.f40, prC, q40_6, nestF_eq, go_sem, ↓reduceIte, Nat.reduceAdd, Nat.reduceSub, Nat.reduceMul, Nat.reduceEqDiff, Nat.reduceLT, Nat.reduceLeDiff, Int.reduceToNat, Int.reduceLE, Int.reduceLT, Int.reduceEq, Int.reduceNeg, reduceCtorEq]
            refine ⟨⟨(n + 1, v'), by simp only []; omega⟩, by simp only []; omega, ?_⟩
            apply sub_of <;> simp only [hw, go_sem, ↓reduceIte, Nat.reduceAdd, Nat.reduceSub, Nat.reduceMul, Nat.reduceEqDiff, Nat.reduceLT, Nat.reduceLeDiff, Int.reduceToNat, Int.reduceLE, Int.reduceLT, Int.reduceEq, Int.reduceNeg, reduceCtorEq] <;> (try simp)
            all_goals first | exact nestF_bd _ _ _ _ _ _ _ _ _ | exact fun i _ => entF_bd i 0 | skip
            refine ⟨by rw [Nat.succ_mul]; omega, fun i hi => ?_⟩
            simp only [entF]
            congr 1; funext a _
            rw [add_last (fun a => rfl) (by rw [Nat.succ_mul]; omega)]
          · refine ⟨?_, ?_, ?_, ?_, ?_, ?_⟩ <;> simp only [prC, List.cons_append, List.nil_append, go_sem, ↓reduceIte, Nat.reduceAdd, Nat.reduceSub, Nat.reduceMul, Nat.reduceEqDiff, Nat.reduceLT, Nat.reduceLeDiff, Int.reduceToNat, Int.reduceLE, Int.reduceLT, Int.reduceEq, Int.reduceNeg, reduceCtorEq] <;> (try simp)
            all_goals first | exact nestF_bd _ _ _ _ _ _ _ _ _ | exact fun i _ => entF_bd i 0 | exact ⟨fun i _ => entF_bd i 0, trivial⟩ | skip
            intro i hi
            simp only [catF, oneF, nth]
            by_cases h : i < j
            · rw [if_pos h, if_neg (by omega), if_neg (by omega)]; rfl
            · rw [if_neg h, if_pos (by omega)]
        · have hc := lists_frame [.live 25 (prC D)] [.dead, .live 0 3 1 1 (oneF [.int .i64 (n : Int)]), .dead] (fun i j => entF_bd i j) (fun i j => entF_bd i j) (entF_ren _ _ _ _) (entF_ren _ _ _ _) hcall
          simp only [prC] at hc
          refine calls_mono ?_ (calls_give (l1 := [.agg [.row D.n 5 (nestF 0 2 D.A D.M D.V), .row D.h 1 (fun i j => .int .i64 (D.nd i j)), .row D.h 1 (fun i j => .int .i64 (D.pr i j)), .int .i64 D.st, .int .i64 D.ro, .int .i64 D.pk, .int .i64 D.fr]]) (l2 := [.vec 0 u]) (id := 3) (ver := 2) rfl (calls_pre ?_ rfl rfl hc))
          · rintro o h' ⟨v', rfl, rfl⟩
            simp only [Try.f40, prC, q40_6, nestF_eq, go_sem, ↓reduceIte, Nat.reduceAdd, Nat.reduceSub, Nat.reduceMul, Nat.reduceEqDiff, Nat.reduceLT, Nat.reduceLeDiff, Int.reduceToNat, Int.reduceLE, Int.reduceLT, Int.reduceEq, Int.reduceNeg, reduceCtorEq]
            refine ⟨⟨(n + 1, v'), by simp only []; omega⟩, by simp only []; omega, ?_⟩
            apply sub_of <;> simp only [hw, go_sem, ↓reduceIte, Nat.reduceAdd, Nat.reduceSub, Nat.reduceMul, Nat.reduceEqDiff, Nat.reduceLT, Nat.reduceLeDiff, Int.reduceToNat, Int.reduceLE, Int.reduceLT, Int.reduceEq, Int.reduceNeg, reduceCtorEq] <;> (try simp)
            all_goals first | exact nestF_bd _ _ _ _ _ _ _ _ _ | exact fun i _ => entF_bd i 0 | skip
            refine ⟨by rw [Nat.succ_mul]; omega, fun i hi => ?_⟩
            simp only [entF]
            congr 1; funext a _
            rw [add_last (fun a => rfl) (by rw [Nat.succ_mul]; omega)]
          · refine ⟨?_, ?_, ?_, ?_, ?_, ?_⟩ <;> simp only [prC, List.cons_append, List.nil_append, go_sem, ↓reduceIte, Nat.reduceAdd, Nat.reduceSub, Nat.reduceMul, Nat.reduceEqDiff, Nat.reduceLT, Nat.reduceLeDiff, Int.reduceToNat, Int.reduceLE, Int.reduceLT, Int.reduceEq, Int.reduceNeg, reduceCtorEq] <;> (try simp)
            all_goals first | exact nestF_bd _ _ _ _ _ _ _ _ _ | exact fun i _ => entF_bd i 0 | exact ⟨fun i _ => entF_bd i 0, trivial⟩ | skip
            intro i hi
            simp only [catF, oneF, nth]
            by_cases h : i < j
            · rw [if_pos h, if_neg (by omega), if_neg (by omega)]; rfl
            · rw [if_neg h, if_pos (by omega)]
      · obtain rfl : n = D.M j + 1 := by omega
        exact ⟨_, _, _, rfl, rfl⟩
    · rintro o h' ⟨v', B, W, rfl, rfl⟩
      refine ⟨.vec 0 v', .vec 0 v', ⟨[], [.live v' 23 1 (m + tjL D.M (d + 1) j) (entF D.n (addL D.M m j (d + 1) G b))]⟩, ⟨rfl, v', rfl, rfl⟩, ⟨?_, ?_, ?_, ?_, ?_, ?_⟩, ⟨?_, ?_⟩, ⟨?_, ?_⟩⟩ <;> simp only [go_sem, ↓reduceIte, Nat.reduceAdd, Nat.reduceSub, Nat.reduceMul, Nat.reduceEqDiff, Nat.reduceLT, Nat.reduceLeDiff, Int.reduceToNat, Int.reduceLE, Int.reduceLT, Int.reduceEq, Int.reduceNeg, reduceCtorEq] <;> (try simp)
      exact fun i _ => entF_bd i 0
end Go.Eng
end

/- press: the reference tries all plans. -/
section
namespace Go.Eng
open Go Go.RowKit Go.Proofs
set_option maxRecDepth 100000
set_option maxHeartbeats 4000000
attribute [local irreducible] OwnT DefS
def plR (n : Nat) (c : Nat → T3) : Nat → Nat → SV := fun i _ => .row n 1 (fun a _ => .int .i64 ((c i).get a))
theorem plR_bd {n : Nat} {c : Nat → T3} {L K : Nat} (i j : Nat) : Bd L K (plR n c i j) := by simp only [plR, Bd, implies_true]
/-- The best that was found so far. -/
structure BS where
  (ok : Bool) (n : Nat) (c : Nat → T3) (co : Int)
def bsS (n : Nat) (b : BS) : SV := .agg [.bool b.ok, .row b.n 1 (plR n b.c), .int .i64 b.co]
def cosM (D : PD) (s : RS) : Int := s.en + s.st + max 0 (s.pw - D.fr) * D.pk
def foldQ (D : PD) (f : T3 → BS → BS) : Nat → BS → BS
  | 0, b => b
  | q + 1, b => f (dig D q) (foldQ D f q b)
def updP (c : Nat → T3) (i : Nat) (x : T3) : Nat → T3 := fun j => if j < i then c j else x
def nextM (D : PD) (rest : RS → (Nat → T3) → BS → BS) (s : RS) (hr : Nat) (pre : Nat → T3) (x : T3) (b : BS) : BS :=
  if (doR D s hr x).2 = 0 then rest (doR D s hr x).1 (updP pre hr x) b else b
def tryM (D : PD) : Nat → RS → (Nat → T3) → BS → BS
  | 0, s, pre, b => if b.ok = true ∧ b.co ≤ cosM D s then b else ⟨true, D.h, pre, cosM D s⟩
  | k + 1, s, pre, b => if b.ok = true ∧ b.co ≤ cosM D s then b else foldQ D (nextM D (tryM D k) s (D.h - (k + 1)) pre) (tot D) b
def rsOkH (D : PD) (i : Nat) (s : RS) : Prop := ((∀ j, j < D.n → 0 ≤ s.on j ∧ s.on j ≤ 12) ∧ (0 ≤ s.sto ∧ s.sto ≤ 100) ∧ (0 ≤ s.pw ∧ s.pw ≤ 3000)) ∧ (0 ≤ s.en ∧ s.en ≤ i * 30000000) ∧ (0 ≤ s.st ∧ s.st ≤ i * 30000)
theorem rsOkH_ok {D : PD} (hD : D.Ok) {i : Nat} {s : RS} (hi : i ≤ D.h) (h : rsOkH D i s) : rsOk D.n s := by
  have := hD.h
  obtain ⟨⟨h1, h2, h3⟩, h4, h5⟩ := h
  exact ⟨h1, h2, h3, by omega, by omega⟩
theorem doR_ok {D : PD} (hD : D.Ok) {i : Nat} {s : RS} (hi : i < D.h) (h : rsOkH D i s) {c : T3} (hc : chOk D c) (he : (doR D s i c).2 = 0) : rsOkH D (i + 1) (doR D s i c).1 := by
  obtain ⟨⟨h1, h2, h3⟩, h4, h5⟩ := h
  have ho : ∀ i, i < 3 → 0 ≤ (chT D.n fun a _ => s.on a).get i ∧ (chT D.n fun a _ => s.on a).get i ≤ 12 := fun i hi => by
    by_cases h : i < D.n
    · rw [chT_get h hi]; exact h1 i h
    · rcases (by omega : i = 0 ∨ i = 1 ∨ i = 2) with rfl | rfl | rfl <;> simp [chT, T3.get, h]
  have hn := hD.n
  unfold doR at he ⊢
  split at he
  · cases he
  rename_i a ha
  split at he
  · cases he
  split at he
  · cases he
  rename_i e1 e2
  simp only [if_neg e1, if_neg e2]
  obtain ⟨b1, b2, b3, b4⟩ := stepsP_ok hD ho hc (Nat.le_refl _) ha
  have hro := hD.ro
  have hpr := hD.pr i hi
  have q1 := mulB (x := a.pow) (y := D.pr i 0) (m := 3000) (k := 10000) (by omega) (by omega)
  exact ⟨⟨fun j hj => b1 j (by omega), by simp only []; omega, by simp only []; omega⟩, by simp only []; omega, by simp only []; omega⟩
def q38_11 : Plan := .quiet 0 (.quiet 1 (.quiet 3 (.quiet 5 (.quiet 6 (.quiet 7 (.quiet 8 (.quiet 11 (.quiet 12 (.both (.loud 2 [0, 1, 7, 8, 12] (.both (.loud 4 [0, 1, 7, 8, 12] (.loud 9 [0, 1, 12] (.loud 10 [0, 1, 12] (.loud 13 [] (.loud 14 [] (.done)))))) (.loud 9 [0, 1, 12] (.loud 4 [0, 1, 12] (.loud 10 [0, 1, 12] (.loud 13 [] (.loud 14 [] (.done)))))))) (.loud 9 [0, 1, 12] (.loud 2 [0, 1, 12] (.loud 4 [0, 1, 12] (.loud 10 [0, 1, 12] (.loud 13 [] (.loud 14 [] (.done))))))))))))))))
theorem tryM_prune {D : PD} (k : Nat) {s : RS} {pre : Nat → T3} {b : BS} (h1 : b.ok = true) (h2 : b.co ≤ cosM D s) : tryM D k s pre b = b := by
  cases k <;> simp only [tryM, if_pos (And.intro h1 h2)]
theorem cosM_wrap {D : PD} (hD : D.Ok) {i : Nat} {s : RS} (hi : i ≤ D.h) (hs : rsOkH D i s) : IntKind.i64.wrap (IntKind.i64.wrap (s.en + s.st) + max 0 (s.pw - D.fr) * D.pk) = cosM D s := by
  have hh := hD.h
  have hfr := hD.fr
  obtain ⟨⟨_, _, h3⟩, h4, h5⟩ := hs
  have q1 := mulB (x := max 0 (s.pw - D.fr)) (y := D.pk) (m := 3000) (k := 10000) (by omega) hD.pk
  rw [wrap_id (x := s.en + s.st) (by omega) (by omega), wrap_id (by omega) (by omega)]
  rfl
theorem plR_eq (n : Nat) (c : Nat → T3) (i j : Nat) : plR n c i j = .row n 1 (fun a _ => .int .i64 ((c i).get a)) := rfl
theorem chT_dig {D : PD} (hD : D.Ok) (q : Nat) : chT D.n (fun i _ => (dig D q).get i) = dig D q := by
  rw [← dig_zr hD q]
  rcases (by have := hD.n; omega : D.n = 1 ∨ D.n = 2 ∨ D.n = 3) with h | h | h <;> simp [chT, zr, T3.get, h]
theorem upd_row {n i : Nat} {pre : Nat → T3} {x : T3} {z : Nat} (hz : z < i + 1) : catF i (catF 0 (fun _ _ => .any) (plR n pre)) (oneF [.row n 1 (fun a _ => .int .i64 (x.get a))]) z 0 = plR n (updP pre i x) z 0 := by
  by_cases h : z < i
  · simp only [catF, if_pos h, Nat.not_lt_zero, if_false, Nat.sub_zero, plR, updP]
  · obtain rfl : z = i := by omega
    simp only [catF, if_neg h, oneF, nth, plR, updP]
theorem upd_bd {n L K : Nat} (x : T3) (j : Nat) : Bd L K (nth [.row n 1 (fun a _ => .int .i64 (x.get a))] j) := Bd_nth (by simp [BdL, Bd]) j
theorem bsS_bd {n : Nat} {b : BS} {L K : Nat} : Bd L K (bsS n b) := by simp only [bsS, Bd, BdL, and_true, implies_true, plR]
theorem rsS_bd {n : Nat} {s : RS} {L K : Nat} : Bd L K (rsS n s) := by simp only [rsS, Bd, BdL, and_true, implies_true]
theorem try_frame {D : PD} {i : Nat} {s : RS} {pre : Nat → T3} {b r : BS} (h : CallsS Try.prog 38 [.agg (prC D), rsS D.n s, .row i 1 (plR D.n pre), .row (tot D) 1 (plR D.n (dig D)), bsS D.n b] ⟨[], []⟩ (fun o _ => o = .ret (bsS D.n r))) (h0 : HS) :
    CallsS Try.prog 38 [.agg (prC D), rsS D.n s, .row i 1 (plR D.n pre), .row (tot D) 1 (plR D.n (dig D)), bsS D.n b] h0 (fun o h' => o = .ret (bsS D.n r) ∧ h' = h0) := by
  refine frame_calls h ?_ (fun o => o = .ret (bsS D.n r)) (fun o h' e => by subst e; exact ⟨rfl, bsS_bd⟩) h0
  refine ⟨prC_bd D _ _, rsS_bd, ?_, ?_, bsS_bd, trivial⟩ <;> exact fun i j _ _ => plR_bd i j
theorem try_calls {D : PD} (hD : D.Ok) : ∀ (k i : Nat) (s : RS) (pre : Nat → T3) (b : BS), i + k = D.h → rsOkH D i s →
    CallsS Try.prog 38 [.agg (prC D), rsS D.n s, .row i 1 (plR D.n pre), .row (tot D) 1 (plR D.n (dig D)), bsS D.n b] ⟨[], []⟩ (fun o _ => o = .ret (bsS D.n (tryM D k s pre b))) := by
  have hn := hD.n
  have hh := hD.h
  have hpk := hD.pk
  have hfr := hD.fr
  intro k
  induction k with
  | zero =>
    intro i s pre b hi hs
    obtain rfl : i = D.h := by omega
    have hp := hs.1.2.2
    have hw := cosM_wrap hD (Nat.le_refl _) hs
    have hargs : SameL [.agg (prC D), rsS D.n s, .row D.h 1 (plR D.n pre), .row (tot D) 1 (plR D.n (dig D)), bsS D.n b] [.agg (prC D), rsS D.n s, .row D.h 1 (plR D.n pre), .row (tot D) 1 (plR D.n (dig D)), bsS D.n b] := ⟨SameD.rfl' _, SameD.rfl' _, SameD.rfl' _, SameD.rfl' _, SameD.rfl' _, trivial⟩
    refine (nb_of (C := cxn [38] [(61, doRefBase)] [] [(47, costRBase), (20, sumBase)] [(38, 2, p38_2), (38, 9, p38_9), (38, 11, q38_11)] none) (cxn_ok ⟨doRef_base, trivial⟩ trivial ⟨costR_base, sum_base, trivial⟩) rfl fn_38 rfl 1000 ?_ hargs bsS_bd ?_).2.2
    · refine ⟨prC_bd D _ _, rsS_bd, ?_, ?_, bsS_bd, trivial⟩ <;> exact fun i j _ _ => plR_bd i j
    · simp only [Try.f38, prC, rsS, bsS, hw, costR_eq, sum_eq, doRef_eq, p38_2, p38_9, q38_11, nestF_eq, nestR_lit, nsM_lit, nsV_lit, go_sem, ↓reduceIte, Nat.reduceAdd, Nat.reduceSub, Nat.reduceMul, Nat.reduceEqDiff, Nat.reduceLT, Nat.reduceLeDiff, Int.reduceToNat, Int.reduceLE, Int.reduceLT, Int.reduceEq, Int.reduceNeg, reduceCtorEq]
      refine ⟨⟨by kernel_rfl, by kernel_rfl⟩, fun e1 => ⟨⟨hp, hfr, hpk⟩, fun e2 => ?_, fun e2 => ?_⟩, fun e1 => ?_⟩
      all_goals try simp only [decide_eq_true_eq, decide_eq_false_iff_not] at e2
      · rw [tryM_prune 0 e1 e2]
        exact ⟨fun i j _ _ => plR_bd i j, SameD.rfl' _⟩
      · rw [tryM, if_neg (fun h => e2 h.2)]
        exact ⟨⟨hp, hfr, hpk⟩, fun i j _ _ => plR_bd i j, SameD.rfl' _⟩
      · rw [tryM, if_neg (fun h => by rw [e1] at h; exact absurd h.1 (by simp))]
        exact ⟨⟨hp, hfr, hpk⟩, fun i j _ _ => plR_bd i j, SameD.rfl' _⟩
  | succ k ih =>
    intro i s pre b hi hs
    have hp := hs.1.2.2
    have hw := cosM_wrap hD (by omega) hs
    have hargs : SameL [.agg (prC D), rsS D.n s, .row i 1 (plR D.n pre), .row (tot D) 1 (plR D.n (dig D)), bsS D.n b] [.agg (prC D), rsS D.n s, .row i 1 (plR D.n pre), .row (tot D) 1 (plR D.n (dig D)), bsS D.n b] := ⟨SameD.rfl' _, SameD.rfl' _, SameD.rfl' _, SameD.rfl' _, SameD.rfl' _, trivial⟩
    refine (nb_of (C := cxn [38] [(61, doRefBase)] [] [(47, costRBase), (20, sumBase)] [(38, 2, p38_2), (38, 9, p38_9), (38, 11, q38_11)] none) (cxn_ok ⟨doRef_base, trivial⟩ trivial ⟨costR_base, sum_base, trivial⟩) rfl fn_38 rfl 1000 ?_ hargs bsS_bd ?_).2.2
    · refine ⟨prC_bd D _ _, rsS_bd, ?_, ?_, bsS_bd, trivial⟩ <;> exact fun i j _ _ => plR_bd i j
    · simp only [Try.f38, prC, rsS, bsS, hw, costR_eq, sum_eq, doRef_eq, p38_2, p38_9, q38_11, nestF_eq, nestR_lit, nsM_lit, nsV_lit, go_sem, ↓reduceIte, Nat.reduceAdd, Nat.reduceSub, Nat.reduceMul, Nat.reduceEqDiff, Nat.reduceLT, Nat.reduceLeDiff, Int.reduceToNat, Int.reduceLE, Int.reduceLT, Int.reduceEq, Int.reduceNeg, reduceCtorEq]
      have ei : ((i : Int) = (D.h : Int)) = False := eq_false (by omega)
      simp only [ei, go_sem, ↓reduceIte, Nat.reduceAdd, Nat.reduceSub, Nat.reduceMul, Nat.reduceEqDiff, Nat.reduceLT, Nat.reduceLeDiff, Int.reduceToNat, Int.reduceLE, Int.reduceLT, Int.reduceEq, Int.reduceNeg, reduceCtorEq]
      have hnp : ∀ h : ¬(b.ok = true ∧ b.co ≤ cosM D s), tryM D (k + 1) s pre b = foldQ D (nextM D (tryM D k) s i pre) (tot D) b := fun h => by rw [tryM, if_neg h, show D.h - (k + 1) = i by omega]
      generalize hF : nextM D (tryM D k) s i pre = F at hnp
      refine ⟨⟨by kernel_rfl, by kernel_rfl⟩, fun e1 => ⟨⟨hp, hfr, hpk⟩, fun e2 => ?_, fun e2 => ?_⟩, fun e1 => ?_⟩
      all_goals try simp only [decide_eq_true_eq, decide_eq_false_iff_not] at e2
      · rw [tryM_prune (k + 1) e1 e2]
        exact ⟨fun i j _ _ => plR_bd i j, SameD.rfl' _⟩
      all_goals first | rw [hnp (fun h => e2 h.2)] | rw [hnp (fun h => by rw [e1] at h; exact absurd h.1 (by simp))]
      all_goals
        refine loop_of { q : Nat // q ≤ tot D } (fun q => [(12, .int .i64 (q.1 : Int)), (11, .int .i64 (i : Int)), (10, .ptr 3 0), (9, .ptr 2 0), (6, .ptr 1 0), (5, .ptr 0 0), (3, .row (tot D) 1 (plR D.n (dig D))), (2, .row i 1 (plR D.n pre))])
          (fun q => ⟨[.live 25 (prC D), .live 85 [.row D.n 1 (fun i _ => .int .i64 (s.on i)), .int .i64 s.sto, .int .i64 s.en, .int .i64 s.st, .int .i64 0, .int .i64 s.pw], .live 82 [.bool (foldQ D F q.1 b).ok, .row (foldQ D F q.1 b).n 1 (plR D.n (foldQ D F q.1 b).c), .int .i64 (foldQ D F q.1 b).co], .live 82 [.bool false, .vec 0 0, .int .i64 0]], [.live 0 23 1 0 fun _ _ => .any]⟩) (fun q => tot D - q.1) (fun _ => ⟨rfl, rfl⟩) ⟨0, Nat.zero_le _⟩ (by simp only [prC, foldQ]; (apply sub_of <;> simp only [go_sem, ↓reduceIte, Nat.reduceAdd, Nat.reduceSub, Nat.reduceMul, Nat.reduceEqDiff, Nat.reduceLT, Nat.reduceLeDiff, Int.reduceToNat, Int.reduceLE, Int.reduceLT, Int.reduceEq, Int.reduceNeg, reduceCtorEq] <;> (try simp [catF])); all_goals first | exact ⟨fun i _ => plR_bd i 0, fun i _ => plR_bd i 0⟩ | exact ⟨nestF_bd _ _ _ _ _ _ _ _ _, fun i _ => plR_bd i 0⟩) ?_
        rintro ⟨q, hq⟩
        simp only [Try.f38, plR_eq, doR_ns, Ok_ns, Int.toNat_natCast, prC, rsS, bsS, hw, costR_eq, sum_eq, doRef_eq, p38_2, p38_9, q38_11, nestF_eq, nestR_lit, nsM_lit, nsV_lit, go_sem, ↓reduceIte, Nat.reduceAdd, Nat.reduceSub, Nat.reduceMul, Nat.reduceEqDiff, Nat.reduceLT, Nat.reduceLeDiff, Int.reduceToNat, Int.reduceLE, Int.reduceLT, Int.reduceEq, Int.reduceNeg, reduceCtorEq]
        have hRq : doR ⟨D.n, D.A, D.M, D.V, D.h, D.nd, D.pr, D.st, D.ro, D.pk, D.fr⟩ ⟨fun i => s.on i, s.sto, s.en, s.st, s.pw⟩ i (chT D.n fun i _ => (dig D q).get i) = doR D s i (dig D q) := by rw [chT_dig hD]
        rw [hRq]
        have hfd : ∀ b, F (dig D q) b = if (doR D s i (dig D q)).2 = 0 then tryM D k (doR D s i (dig D q)).1 (updP pre i (dig D q)) b else b := fun b => by rw [← hF]; rfl
        have hsok := rsOkH_ok hD (by omega) hs
        have hw3 : IntKind.i64.wrap ((q : Int) + 1) = ((q + 1 : Nat) : Int) := by have := tot_le hD; rw [wrap_id (by omega) (by omega)]; omega
        refine ⟨fun e3 => ?_, fun e3 => ?_⟩
        all_goals simp only [decide_eq_true_eq, decide_eq_false_iff_not] at e3
        · have hdg := dig_ok hD (q := q) (by omega)
          have hnx := doR_ok hD (i := i) (by omega) hs hdg
          generalize doR D s i (dig D q) = R at hfd hnx
          refine ⟨⟨by kernel_rfl, by kernel_rfl⟩, by omega, ⟨hD, hdg, hsok, by omega, by omega⟩, ⟨by omega, hD, hdg, hsok, by omega, by omega⟩, fun e4 => ⟨⟨by kernel_rfl, by kernel_rfl⟩, ?_⟩, fun e4 => ?_⟩
          all_goals simp only [decide_eq_true_eq, decide_eq_false_iff_not] at e4
          · have hcall := ih (i + 1) R.1 (updP pre i (dig D q)) (foldQ D F q b) (by omega) (hnx e4)
            have hnq : tryM D k R.1 (updP pre i (dig D q)) (foldQ D F q b) = foldQ D F (q + 1) b := by
              simp only [foldQ, hfd, e4, if_true]
            rw [hnq] at hcall
            have hfr := fun h0 => try_frame hcall h0
            simp only [prC, rsS, bsS] at hfr
            repeat' apply And.intro
            all_goals first | omega | skip
            all_goals first
              | refine calls_mono ?_ (calls_give (l1 := [.agg [.row D.n 5 (nestF 0 2 D.A D.M D.V), .row D.h 1 (fun i j => .int .i64 (D.nd i j)), .row D.h 1 (fun i j => .int .i64 (D.pr i j)), .int .i64 D.st, .int .i64 D.ro, .int .i64 D.pk, .int .i64 D.fr], .agg [.row D.n 1 (fun i _ => .int .i64 (R.1.on i)), .int .i64 R.1.sto, .int .i64 R.1.en, .int .i64 R.1.st, .int .i64 0, .int .i64 R.1.pw]]) (l2 := [.row (tot D) 1 (plR D.n (dig D)), .agg [.bool (foldQ D F q b).ok, .row (foldQ D F q b).n 1 (plR D.n (foldQ D F q b).c), .int .i64 (foldQ D F q b).co]]) (id := 2) (ver := 2) rfl (calls_pre ?_ rfl rfl (hfr _)))
              | refine calls_mono ?_ (calls_give (l1 := [.agg [.row D.n 5 (nestF 0 2 D.A D.M D.V), .row D.h 1 (fun i j => .int .i64 (D.nd i j)), .row D.h 1 (fun i j => .int .i64 (D.pr i j)), .int .i64 D.st, .int .i64 D.ro, .int .i64 D.pk, .int .i64 D.fr], .agg [.row D.n 1 (fun i _ => .int .i64 (R.1.on i)), .int .i64 R.1.sto, .int .i64 R.1.en, .int .i64 R.1.st, .int .i64 0, .int .i64 R.1.pw]]) (l2 := [.row (tot D) 1 (plR D.n (dig D)), .agg [.bool (foldQ D F q b).ok, .row (foldQ D F q b).n 1 (plR D.n (foldQ D F q b).c), .int .i64 (foldQ D F q b).co]]) (id := 3) (ver := 2) rfl (calls_pre ?_ rfl rfl (hfr _)))
            · rintro o h' ⟨rfl, rfl⟩
              simp only [Try.f38, plR_eq, doR_ns, Ok_ns, Int.toNat_natCast, prC, rsS, bsS, hw, costR_eq, sum_eq, doRef_eq, p38_2, p38_9, q38_11, nestF_eq, nestR_lit, nsM_lit, nsV_lit, go_sem, ↓reduceIte, Nat.reduceAdd, Nat.reduceSub, Nat.reduceMul, Nat.reduceEqDiff, Nat.reduceLT, Nat.reduceLeDiff, Int.reduceToNat, Int.reduceLE, Int.reduceLT, Int.reduceEq, Int.reduceNeg, reduceCtorEq]
              refine ⟨⟨q + 1, by omega⟩, by simp only []; omega, ?_⟩
              apply sub_of <;> simp only [hw3, go_sem, ↓reduceIte, Nat.reduceAdd, Nat.reduceSub, Nat.reduceMul, Nat.reduceEqDiff, Nat.reduceLT, Nat.reduceLeDiff, Int.reduceToNat, Int.reduceLE, Int.reduceLT, Int.reduceEq, Int.reduceNeg, reduceCtorEq] <;> (try simp)
              all_goals first | exact ⟨fun i _ => plR_bd i 0, fun i _ => plR_bd i 0⟩ | exact ⟨nestF_bd _ _ _ _ _ _ _ _ _, fun i _ => plR_bd i 0⟩
            · refine ⟨?_, ?_, ?_, ?_, ?_, ?_⟩ <;> simp only [prC, List.cons_append, List.nil_append, go_sem, ↓reduceIte, Nat.reduceAdd, Nat.reduceSub, Nat.reduceMul, Nat.reduceEqDiff, Nat.reduceLT, Nat.reduceLeDiff, Int.reduceToNat, Int.reduceLE, Int.reduceLT, Int.reduceEq, Int.reduceNeg, reduceCtorEq] <;> (try simp)
              all_goals first | exact fun z hz => upd_row hz | exact ⟨nestF_bd _ _ _ _ _ _ _ _ _, fun i _ => plR_bd i 0, fun i _ => plR_bd i 0, fun i _ => plR_bd i 0⟩ | exact ⟨nestF_bd _ _ _ _ _ _ _ _ _, fun i _ => plR_bd i 0⟩ | exact upd_bd _ _ | skip
            · rintro o h' ⟨rfl, rfl⟩
              simp only [Try.f38, plR_eq, doR_ns, Ok_ns, Int.toNat_natCast, prC, rsS, bsS, hw, costR_eq, sum_eq, doRef_eq, p38_2, p38_9, q38_11, nestF_eq, nestR_lit, nsM_lit, nsV_lit, go_sem, ↓reduceIte, Nat.reduceAdd, Nat.reduceSub, Nat.reduceMul, Nat.reduceEqDiff, Nat.reduceLT, Nat.reduceLeDiff, Int.reduceToNat, Int.reduceLE, Int.reduceLT, Int.reduceEq, Int.reduceNeg, reduceCtorEq]
              refine ⟨⟨q + 1, by omega⟩, by simp only []; omega, ?_⟩
              apply sub_of <;> simp only [hw3, go_sem, ↓reduceIte, Nat.reduceAdd, Nat.reduceSub, Nat.reduceMul, Nat.reduceEqDiff, Nat.reduceLT, Nat.reduceLeDiff, Int.reduceToNat, Int.reduceLE, Int.reduceLT, Int.reduceEq, Int.reduceNeg, reduceCtorEq] <;> (try simp)
              all_goals first | exact ⟨fun i _ => plR_bd i 0, fun i _ => plR_bd i 0⟩ | exact ⟨nestF_bd _ _ _ _ _ _ _ _ _, fun i _ => plR_bd i 0⟩
            · refine ⟨?_, ?_, ?_, ?_, ?_, ?_⟩ <;> simp only [prC, List.cons_append, List.nil_append, go_sem, ↓reduceIte, Nat.reduceAdd, Nat.reduceSub, Nat.reduceMul, Nat.reduceEqDiff, Nat.reduceLT, Nat.reduceLeDiff, Int.reduceToNat, Int.reduceLE, Int.reduceLT, Int.reduceEq, Int.reduceNeg, reduceCtorEq] <;> (try simp)
              all_goals first | exact fun z hz => upd_row hz | exact ⟨nestF_bd _ _ _ _ _ _ _ _ _, fun i _ => plR_bd i 0, fun i _ => plR_bd i 0, fun i _ => plR_bd i 0⟩ | exact ⟨nestF_bd _ _ _ _ _ _ _ _ _, fun i _ => plR_bd i 0⟩ | exact upd_bd _ _ | skip
            · rintro o h' ⟨rfl, rfl⟩
              simp only [Try.f38, plR_eq, doR_ns, Ok_ns, Int.toNat_natCast, prC, rsS, bsS, hw, costR_eq, sum_eq, doRef_eq, p38_2, p38_9, q38_11, nestF_eq, nestR_lit, nsM_lit, nsV_lit, go_sem, ↓reduceIte, Nat.reduceAdd, Nat.reduceSub, Nat.reduceMul, Nat.reduceEqDiff, Nat.reduceLT, Nat.reduceLeDiff, Int.reduceToNat, Int.reduceLE, Int.reduceLT, Int.reduceEq, Int.reduceNeg, reduceCtorEq]
              refine ⟨⟨q + 1, by omega⟩, by simp only []; omega, ?_⟩
              apply sub_of <;> simp only [hw3, go_sem, ↓reduceIte, Nat.reduceAdd, Nat.reduceSub, Nat.reduceMul, Nat.reduceEqDiff, Nat.reduceLT, Nat.reduceLeDiff, Int.reduceToNat, Int.reduceLE, Int.reduceLT, Int.reduceEq, Int.reduceNeg, reduceCtorEq] <;> (try simp)
              all_goals first | exact ⟨fun i _ => plR_bd i 0, fun i _ => plR_bd i 0⟩ | exact ⟨nestF_bd _ _ _ _ _ _ _ _ _, fun i _ => plR_bd i 0⟩
            · refine ⟨?_, ?_, ?_, ?_, ?_, ?_⟩ <;> simp only [prC, List.cons_append, List.nil_append, go_sem, ↓reduceIte, Nat.reduceAdd, Nat.reduceSub, Nat.reduceMul, Nat.reduceEqDiff, Nat.reduceLT, Nat.reduceLeDiff, Int.reduceToNat, Int.reduceLE, Int.reduceLT, Int.reduceEq, Int.reduceNeg, reduceCtorEq] <;> (try simp)
              all_goals first | exact fun z hz => upd_row hz | exact ⟨nestF_bd _ _ _ _ _ _ _ _ _, fun i _ => plR_bd i 0, fun i _ => plR_bd i 0, fun i _ => plR_bd i 0⟩ | exact ⟨nestF_bd _ _ _ _ _ _ _ _ _, fun i _ => plR_bd i 0⟩ | exact upd_bd _ _ | skip
          · have hnq : foldQ D F (q + 1) b = foldQ D F q b := by simp only [foldQ, hfd, if_neg e4]
            refine ⟨⟨q + 1, by omega⟩, by simp only []; omega, ?_⟩
            apply sub_of <;> simp only [hw3, hnq, go_sem, ↓reduceIte, Nat.reduceAdd, Nat.reduceSub, Nat.reduceMul, Nat.reduceEqDiff, Nat.reduceLT, Nat.reduceLeDiff, Int.reduceToNat, Int.reduceLE, Int.reduceLT, Int.reduceEq, Int.reduceNeg, reduceCtorEq] <;> (try simp)
            all_goals first | exact ⟨fun i _ => plR_bd i 0, fun i _ => plR_bd i 0⟩ | exact ⟨nestF_bd _ _ _ _ _ _ _ _ _, fun i _ => plR_bd i 0⟩
        · obtain rfl : q = tot D := by omega
          exact ⟨fun _ _ _ _ _ _ _ _ => trivial, SameD.rfl' _⟩
end Go.Eng
end

/- press: trying all plans finds the best one. No program in sight. -/
section
namespace Go.Eng
open Go Go.RowKit Go.Proofs
set_option maxRecDepth 100000
set_option maxHeartbeats 4000000
attribute [local irreducible] OwnT DefS
def psOf (D : PD) (s : RS) : PS := ⟨chT D.n fun a _ => s.on a, s.sto, max 0 (s.pw - D.fr)⟩
theorem psOf_ok {D : PD} (hD : D.Ok) {i : Nat} {s : RS} (h : rsOkH D i s) : stOk D (psOf D s) := by
  obtain ⟨⟨h1, h2, h3⟩, h4, h5⟩ := h
  refine ⟨fun i hi => ?_, h2, ?_⟩
  · simp only [psOf]
    by_cases h : i < D.n
    · rw [chT_get h hi]; exact h1 i h
    · rcases (by omega : i = 0 ∨ i = 1 ∨ i = 2) with rfl | rfl | rfl <;> simp [chT, T3.get, h]
  · have := hD.fr
    simp only [psOf]; omega
theorem chT_on {D : PD} (hD : D.Ok) {on c : T3} {s : Int} {a : PA} (ha : stepsP D on c s D.n = some a) : chT D.n (fun j _ => a.on.get j) = a.on := by
  have hn := hD.n
  have hz := stepsP_zero (by omega) ha
  have z1 := hz 1
  have z2 := hz 2
  generalize a.on = x at z1 z2
  obtain ⟨p, q, r⟩ := x
  rcases (by omega : D.n = 1 ∨ D.n = 2 ∨ D.n = 3) with h | h | h <;> simp [chT, T3.get, h] at z1 z2 ⊢ <;> simp [*]
theorem doR_hour {D : PD} (hD : D.Ok) (s : RS) (i : Nat) (c : T3) : (doR D s i c).2 = (hourP D (psOf D s) i c).e ∧
    ((doR D s i c).2 = 0 → psOf D (doR D s i c).1 = (hourP D (psOf D s) i c).s ∧ (doR D s i c).1.en = s.en + (hourP D (psOf D s) i c).en ∧ (doR D s i c).1.st = s.st + (hourP D (psOf D s) i c).sta) := by
  unfold doR hourP
  simp only [psOf]
  cases ha : stepsP D (chT D.n fun a _ => s.on a) c (s.sto - D.nd i 0) D.n with
  | none => simp [badH]
  | some a =>
    simp only []
    split
    · simp [badH]
    · split
      · simp [badH]
      · simp only [chT_on hD ha, true_and, and_true, forall_const]
        congr 1; omega
/-- The plan on which the best way on leads. -/
def pathM (D : PD) : Nat → PS → (Nat → T3) → (Nat → T3)
  | 0, _, pre => pre
  | k + 1, s, pre => pathM D k (hourP D s (D.h - (k + 1)) (wc (bestM D (k + 1) s))).s (updP pre (D.h - (k + 1)) (wc (bestM D (k + 1) s)))
def pickB (D : PD) (b : BS) (x : Int) (c : Nat → T3) : BS := if b.ok = true ∧ b.co ≤ x then b else ⟨true, D.h, c, x⟩
def combM (D : PD) (k : Nat) (s : RS) (pre : Nat → T3) (b : BS) : BS := match bestM D k (psOf D s) with
  | none => b
  | some x => pickB D b (s.en + s.st + x.1) (pathM D k (psOf D s) pre)
theorem bestM_low {D : PD} (hD : D.Ok) : ∀ (k : Nat) (s : PS), k ≤ D.h → stOk D s → ∀ y, bestM D k s = some y → s.pk * D.pk ≤ y.1
  | 0, s, _, _, y, h => by cases h; exact Int.le_refl _
  | k + 1, s, hk, hs, y, h => by
    obtain ⟨h1, h2, z, h3, h4⟩ := bestM_some hD h
    obtain ⟨o1, o2, o3⟩ := hourP_ok hD hs h1 (hr := D.h - (k + 1)) (by omega) h2
    have := bestM_low hD k _ (by omega) o1 z h3
    have hpk : s.pk ≤ (hourP D s (D.h - (k + 1)) y.2).s.pk := by
      unfold hourP at h2 ⊢
      split at h2
      · simp [badH] at h2
      · split at h2
        · simp [badH] at h2
        · split at h2
          · simp [badH] at h2
          · rename_i e1 e2
            simp only [if_neg e1, if_neg e2]
            omega
    have := Int.mul_le_mul_of_nonneg_right hpk hD.pk.1
    omega
theorem pickB_two {D : PD} {b : BS} {x y : Int} {c d : Nat → T3} : pickB D (pickB D b y d) x c = if x < y then pickB D b x c else pickB D b y d := by
  unfold pickB
  by_cases h1 : b.ok = true ∧ b.co ≤ y
  · rw [if_pos h1]
    by_cases h2 : x < y
    · rw [if_pos h2]
    · rw [if_neg h2, if_pos ⟨h1.1, by omega⟩]
  · rw [if_neg h1]
    by_cases h2 : x < y
    · rw [if_pos h2, if_neg (fun h => by have := h.2; simp only [] at this; omega), if_neg (fun h => h1 ⟨h.1, by omega⟩)]
    · rw [if_neg h2, if_pos ⟨rfl, by simp only []; omega⟩]
theorem foldQ_eq {D : PD} {F : T3 → BS → BS} {f : T3 → Option Int} {base : Int} {P : T3 → Nat → T3} (b : BS) : ∀ (q : Nat), (∀ p, p < q → ∀ b, F (dig D p) b = b ∧ f (dig D p) = none ∨ ∃ v, f (dig D p) = some v ∧ F (dig D p) b = pickB D b (base + v) (P (dig D p))) →
    foldQ D F q b = match pickM D f q with | none => b | some y => pickB D b (base + y.1) (P y.2)
  | 0, _ => rfl
  | q + 1, h => by
    have ih := foldQ_eq b q (fun p hp => h p (by omega))
    rcases h q (by omega) (foldQ D F q b) with ⟨h1, h2⟩ | ⟨v, h1, h2⟩
    · rw [foldQ, h1, ih]; simp only [pickM, h2]
    · simp only [foldQ, h2, pickM, h1]
      cases hp : pickM D f q with
      | none => rw [hp] at ih; simp only [] at ih ⊢; rw [ih]
      | some y =>
        rw [hp] at ih
        simp only [] at ih ⊢
        rw [ih, pickB_two]
        by_cases hv : v < y.1
        · rw [if_pos hv, if_pos (by omega)]
        · rw [if_neg hv, if_neg (by omega)]
theorem tryM_comb {D : PD} (hD : D.Ok) : ∀ (k i : Nat) (s : RS) (pre : Nat → T3) (b : BS), i + k = D.h → rsOkH D i s → tryM D k s pre b = combM D k s pre b
  | 0, i, s, pre, b, hi, hs => rfl
  | k + 1, i, s, pre, b, hi, hs => by
    have hst := psOf_ok hD hs
    simp only [tryM]
    have e : D.h - (k + 1) = i := by omega
    by_cases hp : b.ok = true ∧ b.co ≤ cosM D s
    · rw [if_pos hp, combM]
      cases hb : bestM D (k + 1) (psOf D s) with
      | none => rfl
      | some y =>
        have := bestM_low hD _ _ (by omega) hst y hb
        have e2 : cosM D s = s.en + s.st + (psOf D s).pk * D.pk := rfl
        simp only [pickB]
        rw [if_pos ⟨hp.1, by omega⟩]
    · rw [if_neg hp, e, foldQ_eq (f := candM D (bestM D k) (psOf D s) i) (base := s.en + s.st) (P := fun x => pathM D k (hourP D (psOf D s) i x).s (updP pre i x)) b (tot D) (fun p hp b => ?_)]
      · have e3 : bestM D (k + 1) (psOf D s) = pickM D (candM D (bestM D k) (psOf D s) i) (tot D) := by rw [bestM, e]
        rw [combM, e3]
        cases hb : pickM D (candM D (bestM D k) (psOf D s) i) (tot D) with
        | none => rfl
        | some y =>
          simp only [pathM, e, e3, hb, wc_some]
      · obtain ⟨g1, g2⟩ := doR_hour hD s i (dig D p)
        have hdg := dig_ok hD hp
        by_cases he : (hourP D (psOf D s) i (dig D p)).e = 0
        · obtain ⟨g3, g4, g5⟩ := g2 (g1.trans he)
          have hno := doR_ok hD (i := i) (by omega) hs hdg (g1.trans he)
          have ih := tryM_comb hD k (i + 1) (doR D s i (dig D p)).1 (updP pre i (dig D p)) b (by omega) hno
          rw [nextM, if_pos (g1.trans he), ih, combM, candM, if_pos he, g3]
          cases hz : bestM D k (hourP D (psOf D s) i (dig D p)).s with
          | none => exact .inl ⟨rfl, rfl⟩
          | some z =>
            refine .inr ⟨_, rfl, ?_⟩
            simp only [g4, g5]
            congr 1; omega
        · left
          exact ⟨by rw [nextM, if_neg (by rw [g1]; exact he)], by rw [candM, if_neg he]⟩
theorem updP_lt {pre : Nat → T3} {i : Nat} {x : T3} {j : Nat} (h : j < i) : updP pre i x j = pre j := by simp only [updP, if_pos h]
theorem pathM_at {D : PD} : ∀ (k i : Nat) (pre : Nat → T3), i + k = D.h → ∀ j, j < D.h → pathM D k (sAt D i) pre j = if j < i then pre j else cAt D j
  | 0, i, pre, hi, j, hj => by rw [if_pos (by omega)]; rfl
  | k + 1, i, pre, hi, j, hj => by
    have e : D.h - (k + 1) = i := by omega
    have e2 : wc (bestM D (k + 1) (sAt D i)) = cAt D i := by rw [cAt, show D.h - i = k + 1 by omega]
    rw [pathM, e, e2, ← sAt_succ, pathM_at k (i + 1) _ (by omega) j hj]
    by_cases h1 : j < i
    · rw [if_pos (by omega), if_pos h1, updP_lt h1]
    · rw [if_neg h1]
      by_cases h2 : j < i + 1
      · obtain rfl : j = i := by omega
        rw [if_pos h2, updP, if_neg h1]
      · rw [if_neg h2]
def begS (D : PD) : RS := ⟨fun i => D.A i 4, D.st, 0, 0, 0⟩
theorem begS_ps {D : PD} (hD : D.Ok) : psOf D (begS D) = begP D := by
  have := hD.fr
  simp only [psOf, begS, begP, onI, chT]
  congr 1; omega
theorem begS_ok {D : PD} (hD : D.Ok) : rsOkH D 0 (begS D) := by
  have := hD.st; have := hD.ro
  refine ⟨⟨fun j hj => ?_, by simp only [begS]; omega, by simp only [begS]; omega⟩, by simp only [begS]; omega, by simp only [begS]; omega⟩
  have := hD.on j hj; have := hD.oil j hj
  simp only [begS]; omega
theorem tryM_beg {D : PD} (hD : D.Ok) (pre : Nat → T3) (n : Nat) (c : Nat → T3) (co : Int) : tryM D D.h (begS D) pre ⟨false, n, c, co⟩ = match bestM D D.h (begP D) with
    | none => ⟨false, n, c, co⟩
    | some x => ⟨true, D.h, pathM D D.h (begP D) pre, x.1⟩ := by
  rw [tryM_comb hD D.h 0 _ _ _ (by omega) (begS_ok hD), combM, begS_ps hD]
  cases bestM D D.h (begP D) with
  | none => rfl
  | some x =>
    simp only [pickB, Bool.false_eq_true, false_and, if_false, begS]
    congr 1; omega
theorem path_beg {D : PD} {j : Nat} (hj : j < D.h) (pre : Nat → T3) : pathM D D.h (begP D) pre j = cAt D j := by
  have := pathM_at (D := D) D.h 0 pre (by omega) j hj
  rw [if_neg (by omega)] at this
  exact this
/-- The lists are all choices. -/
theorem tot_tj {D : PD} (hD : D.Ok) : tot D = tjL D.M D.n 0 := by
  unfold tot
  rcases M_cases hD with ⟨e, m0 | m0⟩ | ⟨e, m0 | m0, m1 | m1⟩ | ⟨e, m0 | m0, m1 | m1, m2 | m2⟩
  all_goals simp [rad, tjL, *]
theorem dig_dg {D : PD} (hD : D.Ok) {q a : Nat} (hq : q < tot D) (ha : a < D.n) : (dig D q).get a = (dgL D.M D.n 0 q a : Nat) := by
  unfold tot at hq
  rcases M_cases hD with ⟨e, m0 | m0⟩ | ⟨e, m0 | m0, m1 | m1⟩ | ⟨e, m0 | m0, m1 | m1, m2 | m2⟩
  all_goals
    rw [e] at ha
    rcases (by omega : a = 0 ∨ a = 1 ∨ a = 2) with rfl | rfl | rfl
    all_goals first | omega | (simp [rad, tjL, dgL, dig, T3.get, *] at hq ⊢; try omega)
end Go.Eng
end

/- press: the reference's cheapest plan. -/
section
namespace Go.Eng
open Go Go.RowKit Go.Proofs
set_option maxRecDepth 100000
set_option maxHeartbeats 4000000
attribute [local irreducible] OwnT DefS
def q15_3 : Plan := .quiet 0 (.quiet 1 (.quiet 2 (.quiet 3 (.quiet 5 (.both (.loud 4 [0, 1, 2, 3, 5] (.both (.loud 6 [0, 1, 2, 3, 5] (.loud 7 [0, 1, 2, 3, 5] (.loud 8 [] .done))) (.loud 7 [0, 1, 2, 3, 5] (.loud 6 [0, 1, 2, 3, 5] (.loud 8 [] .done))))) (.loud 7 [0, 1, 2, 3, 5] (.loud 4 [0, 1, 2, 3, 5] (.loud 6 [0, 1, 2, 3, 5] (.loud 8 [] .done)))))))))
def allF (D : PD) : Nat → Nat → SV := entF D.n (addL D.M 0 0 D.n (fun _ _ => 0) fun _ => 0)
theorem allF_same {D : PD} (hD : D.Ok) : SameD (.row (tot D) 1 (allF D)) (.row (tot D) 1 (plR D.n (dig D))) := by
  refine SameD.rowD fun i j hi hj => ?_
  simp only [allF, entF, plR]
  refine SameD.rowD fun a b ha hb => ?_
  rw [dig_dg hD hi ha]
  simp only [addL, Nat.not_lt_zero, if_false, Nat.sub_zero, Nat.zero_le, Nat.zero_add, true_and, if_pos ha]
  exact SameD.rfl' _
theorem lists_beg0 {D : PD} (hD : D.Ok) : CallsS Try.prog 40 [.agg (prC D), .row 0 1 (fun _ _ => .int .i64 0), .vec 0 0] ⟨[], [.live 0 23 1 0 (fun _ _ => .any)]⟩ (fun o h' => ∃ v', o = .ret (.vec 0 v') ∧ h' = ⟨[], [.live v' 23 1 (tot D) (allF D)]⟩) := by
  have hn := hD.n
  have ht := tot_le hD
  have hc := lists_calls hD D.n 0 (fun _ => 0) 0 (fun _ _ => 0) 0 (by omega) (by rw [← tot_tj hD]; omega)
  rw [← tot_tj hD, Nat.zero_add] at hc
  refine calls_pre (args' := [.agg (prC D), .row 0 1 (fun _ _ => .int .i64 0), .vec 0 0]) (h' := ⟨[], [.live 0 23 1 0 (entF D.n fun _ _ => 0)]⟩) ?_ rfl rfl hc
  refine ⟨?_, ?_, ?_, ?_, ?_, ?_⟩ <;> simp only [prC, go_sem, ↓reduceIte, Nat.reduceAdd, Nat.reduceSub, Nat.reduceMul, Nat.reduceEqDiff, Nat.reduceLT, Nat.reduceLeDiff, Int.reduceToNat, Int.reduceLE, Int.reduceLT, Int.reduceEq, Int.reduceNeg, reduceCtorEq] <;> (try simp)
  all_goals first | exact nestF_bd _ _ _ _ _ _ _ _ _
theorem lists_beg {D : PD} (hD : D.Ok) (B : List Blk) (hB : bdB (lenB B) 2 B) :
    CallsS Try.prog 40 [.agg (prC D), .row 0 1 (fun _ _ => .any), .vec 1 0] ⟨B, [.live 0 23 1 0 (fun _ _ => .any), .live 0 23 1 0 (fun _ _ => .any)]⟩ (fun o h' => ∃ v', o = .ret (.vec 1 v') ∧ h' = ⟨B, [.live 0 23 1 0 (fun _ _ => .any), .live v' 23 1 (tot D) (allF D)]⟩) := by
  have := calls_ren (h := ⟨B, [.live 0 23 1 0 (fun _ _ => .any), .live 0 23 1 0 (fun _ _ => .any)]⟩) [] [1] (lists_beg0 hD) (by decide) (by decide) (by simp [BdL, Bd]; exact prC_bd D _ _) (by simp [bdB]) (by simp [bdV]) (by simp only [go_sem, ↓reduceIte, Nat.reduceAdd, Nat.reduceSub, Nat.reduceMul, Nat.reduceEqDiff, Nat.reduceLT, Nat.reduceLeDiff, Int.reduceToNat, Int.reduceLE, Int.reduceLT, Int.reduceEq, Int.reduceNeg, reduceCtorEq])
    (by simp only [matV, go_sem, ↓reduceIte, Nat.reduceAdd, Nat.reduceSub, Nat.reduceMul, Nat.reduceEqDiff, Nat.reduceLT, Nat.reduceLeDiff, Int.reduceToNat, Int.reduceLE, Int.reduceLT, Int.reduceEq, Int.reduceNeg, reduceCtorEq]) (by simp) (by intro k hk; simp at hk; subst hk; simp [lenV])
    (by rintro o h' ⟨v', rfl, rfl⟩; refine ⟨rfl, rfl, by simp [bdB], by simp [bdV]; exact fun i _ => entF_bd i 0, by simp [bdO, Bd]⟩)
  simp only [renL, renS, prC_ren, nmN.eq_2] at this
  refine calls_congr (args' := [.agg (prC D), .row 0 1 (fun _ _ => .int .i64 0), .vec 1 0]) ⟨SameD.rfl' _, SameD.row0, SameD.rfl' _, trivial⟩ (calls_mono ?_ this)
  rintro o h' ⟨o0, h0', ⟨v', rfl, rfl⟩, rfl, rfl⟩
  refine ⟨v', rfl, ?_⟩
  simp only [go_sem, ↓reduceIte, Nat.reduceAdd, Nat.reduceSub, Nat.reduceMul, Nat.reduceEqDiff, Nat.reduceLT, Nat.reduceLeDiff, Int.reduceToNat, Int.reduceLE, Int.reduceLT, Int.reduceEq, Int.reduceNeg, reduceCtorEq, allF, entF_ren]
theorem lists_beg2 {D : PD} (hD : D.Ok) (B : List Blk) (hB : bdB (lenB B) 3 B) :
    CallsS Try.prog 40 [.agg (prC D), .row 0 1 (fun _ _ => .any), .vec 2 0] ⟨B, [.live 0 23 1 0 (fun _ _ => .any), .live 0 23 1 0 (fun _ _ => .any), .live 0 23 1 0 (fun _ _ => .any)]⟩ (fun o h' => ∃ v', o = .ret (.vec 2 v') ∧ h' = ⟨B, [.live 0 23 1 0 (fun _ _ => .any), .live 0 23 1 0 (fun _ _ => .any), .live v' 23 1 (tot D) (allF D)]⟩) := by
  have := calls_ren (h := ⟨B, [.live 0 23 1 0 (fun _ _ => .any), .live 0 23 1 0 (fun _ _ => .any), .live 0 23 1 0 (fun _ _ => .any)]⟩) [] [2] (lists_beg0 hD) (by decide) (by decide) (by simp [BdL, Bd]; exact prC_bd D _ _) (by simp [bdB]) (by simp [bdV]) (by simp only [go_sem, ↓reduceIte, Nat.reduceAdd, Nat.reduceSub, Nat.reduceMul, Nat.reduceEqDiff, Nat.reduceLT, Nat.reduceLeDiff, Int.reduceToNat, Int.reduceLE, Int.reduceLT, Int.reduceEq, Int.reduceNeg, reduceCtorEq])
    (by simp only [matV, go_sem, ↓reduceIte, Nat.reduceAdd, Nat.reduceSub, Nat.reduceMul, Nat.reduceEqDiff, Nat.reduceLT, Nat.reduceLeDiff, Int.reduceToNat, Int.reduceLE, Int.reduceLT, Int.reduceEq, Int.reduceNeg, reduceCtorEq]) (by simp) (by intro k hk; simp at hk; subst hk; simp [lenV])
    (by rintro o h' ⟨v', rfl, rfl⟩; refine ⟨rfl, rfl, by simp [bdB], by simp [bdV]; exact fun i _ => entF_bd i 0, by simp [bdO, Bd]⟩)
  simp only [renL, renS, prC_ren, nmN.eq_2] at this
  refine calls_congr (args' := [.agg (prC D), .row 0 1 (fun _ _ => .int .i64 0), .vec 2 0]) ⟨SameD.rfl' _, SameD.row0, SameD.rfl' _, trivial⟩ (calls_mono ?_ this)
  rintro o h' ⟨o0, h0', ⟨v', rfl, rfl⟩, rfl, rfl⟩
  refine ⟨v', rfl, ?_⟩
  simp only [go_sem, ↓reduceIte, Nat.reduceAdd, Nat.reduceSub, Nat.reduceMul, Nat.reduceEqDiff, Nat.reduceLT, Nat.reduceLeDiff, Int.reduceToNat, Int.reduceLE, Int.reduceLT, Int.reduceEq, Int.reduceNeg, reduceCtorEq, allF, entF_ren]
def tb0 : BS := ⟨false, 0, fun _ => ⟨0, 0, 0⟩, 0⟩
def bestS (D : PD) : BS := tryM D D.h (begS D) (fun _ => ⟨0, 0, 0⟩) tb0
theorem try_beg {D : PD} (hD : D.Ok) {h : HS} {p v : Nat} {F0 : Nat → Nat → SV} (hv : getV h.vecs p = .live v 23 1 (tot D) (allF D)) :
    CallsS Try.prog 38 [.agg (prC D), rsS D.n ⟨fun i => nsA (nestF 0 2 D.A D.M D.V) i 4, D.st, 0, 0, 0⟩, .row 0 1 F0, .vec p v, .agg [.bool false, .nils 23 1, .int .i64 0]] h
      (fun o h' => o = .ret (bsS D.n (bestS D)) ∧ h' = { h with vecs := setV h.vecs p .dead }) := by
  refine calls_give (l1 := [.agg (prC D), rsS D.n ⟨fun i => nsA (nestF 0 2 D.A D.M D.V) i 4, D.st, 0, 0, 0⟩, .row 0 1 F0]) (l2 := [.agg [.bool false, .nils 23 1, .int .i64 0]]) hv ?_
  have hc := try_frame (try_calls hD D.h 0 (begS D) (fun _ => ⟨0, 0, 0⟩) tb0 (by omega) (begS_ok hD)) { h with vecs := setV h.vecs p .dead }
  have hs : SameL [.agg (prC D), rsS D.n ⟨fun i => nsA (nestF 0 2 D.A D.M D.V) i 4, D.st, 0, 0, 0⟩, .row 0 1 F0, .row (tot D) 1 (allF D), .agg [.bool false, .nils 23 1, .int .i64 0]] [.agg (prC D), rsS D.n (begS D), .row 0 1 (plR D.n fun _ => ⟨0, 0, 0⟩), .row (tot D) 1 (plR D.n (dig D)), bsS D.n tb0] := by
    refine ⟨SameD.rfl' _, ?_, SameD.row0, allF_same hD, SameD.agg ⟨SameD.rfl' _, ⟨fun E w v hd => SameD.row0.out _ _ _ ((dnl1_same _).out _ _ _ hd)⟩, SameD.rfl' _, trivial⟩, trivial⟩
    simp only [nsA_lit _ (show 4 ≠ 0 by omega)]
    exact SameD.rfl' _
  exact calls_congr hs hc
def cheapRBase : BaseF := fun args => match args with
  | [.agg [.row n sz_A f_A, .row h sz_nd f_nd, .row q sz_pr f_pr, .int .i64 st, .int .i64 ro, .int .i64 pk, .int .i64 fr]] => some ((sz_A = 5 ∧ NestR n 5 0 2 f_A) ∧ (sz_nd = 1 ∧ IntR h 1 f_nd) ∧ (sz_pr = 1 ∧ IntR q 1 f_pr) ∧ ((n ≤ 1000000 ∧ ∀ i, i < n → (nsM 0 f_A) i ≤ 1000000) ∧ h ≤ 1000000 ∧ q ≤ 1000000), .tup [.row (chN (psB n (nsA f_A) (nsM 0 f_A) (nsV 0 f_A) h (ivf f_nd) q (ivf f_pr) st ro pk fr) ⟨n, (nsA f_A), (nsM 0 f_A), (nsV 0 f_A), h, (ivf f_nd), (ivf f_pr), st, ro, pk, fr⟩) 1 (planF n (cAt ⟨n, (nsA f_A), (nsM 0 f_A), (nsV 0 f_A), h, (ivf f_nd), (ivf f_pr), st, ro, pk, fr⟩)), .int .i64 (chC (psB n (nsA f_A) (nsM 0 f_A) (nsV 0 f_A) h (ivf f_nd) q (ivf f_pr) st ro pk fr) ⟨n, (nsA f_A), (nsM 0 f_A), (nsV 0 f_A), h, (ivf f_nd), (ivf f_pr), st, ro, pk, fr⟩), .int .i64 (chE (psB n (nsA f_A) (nsM 0 f_A) (nsV 0 f_A) h (ivf f_nd) q (ivf f_pr) st ro pk fr) ⟨n, (nsA f_A), (nsM 0 f_A), (nsV 0 f_A), h, (ivf f_nd), (ivf f_pr), st, ro, pk, fr⟩)])
  | _ => none
theorem cheapR_eq (n : Nat) (sz_A : Nat) (f_A : Nat → Nat → SV) (h : Nat) (sz_nd : Nat) (f_nd : Nat → Nat → SV) (q : Nat) (sz_pr : Nat) (f_pr : Nat → Nat → SV) (st : Int) (ro : Int) (pk : Int) (fr : Int) : cheapRBase [.agg [.row n sz_A f_A, .row h sz_nd f_nd, .row q sz_pr f_pr, .int .i64 st, .int .i64 ro, .int .i64 pk, .int .i64 fr]] = some ((sz_A = 5 ∧ NestR n 5 0 2 f_A) ∧ (sz_nd = 1 ∧ IntR h 1 f_nd) ∧ (sz_pr = 1 ∧ IntR q 1 f_pr) ∧ ((n ≤ 1000000 ∧ ∀ i, i < n → (nsM 0 f_A) i ≤ 1000000) ∧ h ≤ 1000000 ∧ q ≤ 1000000), .tup [.row (chN (psB n (nsA f_A) (nsM 0 f_A) (nsV 0 f_A) h (ivf f_nd) q (ivf f_pr) st ro pk fr) ⟨n, (nsA f_A), (nsM 0 f_A), (nsV 0 f_A), h, (ivf f_nd), (ivf f_pr), st, ro, pk, fr⟩) 1 (planF n (cAt ⟨n, (nsA f_A), (nsM 0 f_A), (nsV 0 f_A), h, (ivf f_nd), (ivf f_pr), st, ro, pk, fr⟩)), .int .i64 (chC (psB n (nsA f_A) (nsM 0 f_A) (nsV 0 f_A) h (ivf f_nd) q (ivf f_pr) st ro pk fr) ⟨n, (nsA f_A), (nsM 0 f_A), (nsV 0 f_A), h, (ivf f_nd), (ivf f_pr), st, ro, pk, fr⟩), .int .i64 (chE (psB n (nsA f_A) (nsM 0 f_A) (nsV 0 f_A) h (ivf f_nd) q (ivf f_pr) st ro pk fr) ⟨n, (nsA f_A), (nsM 0 f_A), (nsV 0 f_A), h, (ivf f_nd), (ivf f_pr), st, ro, pk, fr⟩)]) := rfl
theorem cheapR_base : NB Try.prog 15 cheapRBase := by
  intro args p v hq hp
  unfold cheapRBase at hq
  split at hq
  rotate_left
  · cases hq
  rename_i n sz_A f_A h sz_nd f_nd q sz_pr f_pr st ro pk fr
  cases hq
  obtain ⟨⟨rfl, i_A⟩, ⟨rfl, i_nd⟩, ⟨rfl, i_pr⟩, pre⟩ := hp
  refine nb_of (C := cxn [38, 40] [(39, beginRBase)] [] [(17, pressesBase)] [(15, 3, q15_3), (15, 6, p15_6)] none) (cxn_ok ⟨beginR_base, trivial⟩ trivial ⟨presses_base, trivial⟩) rfl (g := 15) (fn := Try.f15)
    (args' := [.agg [.row n 5 (nestF 0 2 (nsA f_A) (nsM 0 f_A) (nsV 0 f_A)), .row h 1 (rowF .i64 (ivf f_nd)), .row q 1 (rowF .i64 (ivf f_pr)), .int .i64 st, .int .i64 ro, .int .i64 pk, .int .i64 fr]]) (fn_15) rfl 1000 (by
    simp only [BdL, Bd, and_self, and_true, true_and]
    exact ⟨(fun i j hi hj => nest_bd i_A i j hi hj), (fun i j hi hj => by rw [i_nd i j hi hj]; trivial), (fun i j hi hj => by rw [i_pr i j hi hj]; trivial)⟩) ⟨SameD.agg ⟨SameD.nest i_A, SameD.int i_nd, SameD.int i_pr, SameD.rfl' _, SameD.rfl' _, SameD.rfl' _, SameD.rfl' _, trivial⟩, trivial⟩ (by simp only [Bd, BdL, and_true, implies_true]; exact fun i j _ _ => planF_bd _ _ _ _ i j) ?_
  generalize nsA f_A = A at *
  generalize nsM 0 f_A = M at *
  generalize nsV 0 f_A = V at *
  generalize ivf f_nd = nd at *
  generalize ivf f_pr = pr at *
  simp only [rowF_eq]
  simp only [presses_eq, beginR_eq, q15_3, p15_6, nestF_eq, nestR_lit, nsM_lit, nsV_lit, psB_ns, Try.f15, go_sem, ↓reduceIte, Nat.reduceAdd, Nat.reduceSub, Nat.reduceMul, Nat.reduceEqDiff, Nat.reduceLT, Nat.reduceLeDiff, Int.reduceToNat, Int.reduceLE, Int.reduceLT, Int.reduceEq, Int.reduceNeg, reduceCtorEq]
  refine ⟨pre, fun c1 => ?_, fun c1 => ?_⟩
  all_goals generalize hb : psB n A M V h nd q pr st ro pk fr = b at c1 ⊢
  · obtain rfl : b = false := by simpa using c1
    have e1 : ∀ D, chE false D = 1 := fun _ => rfl
    have e2 : ∀ D, chN false D = 0 := fun _ => rfl
    have e3 : ∀ D, chC false D = 0 := fun _ => rfl
    rw [e1, e2, e3]
    refine ⟨fun _ _ hi => absurd hi (by omega), ?_⟩
    apply SameD.tup
    exact ⟨SameD.row0, SameD.rfl' _, SameD.rfl' _, trivial⟩
  · obtain rfl : b = true := by simpa using c1
    obtain ⟨rfl, hOk⟩ := psB_iff.1 hb
    generalize hD : (⟨n, A, M, V, q, nd, pr, st, ro, pk, fr⟩ : PD) = D at hOk ⊢
    have d0 : n = D.n := by rw [← hD]
    have d1 : A = D.A := by rw [← hD]
    have d2 : M = D.M := by rw [← hD]
    have d3 : V = D.V := by rw [← hD]
    have d4 : q = D.h := by rw [← hD]
    have d5 : nd = D.nd := by rw [← hD]
    have d6 : pr = D.pr := by rw [← hD]
    have d7 : st = D.st := by rw [← hD]
    have d8 : ro = D.ro := by rw [← hD]
    have d9 : pk = D.pk := by rw [← hD]
    have d10 : fr = D.fr := by rw [← hD]
    clear hD
    subst d0 d1 d2 d3 d4 d5 d6 d7 d8 d9 d10
    have hn := hOk.n
    refine ⟨⟨by kernel_rfl, by kernel_rfl⟩, by omega, ?_⟩
    have hc1 := lists_beg hOk [.live 25 (prC D)] (by simp only [bdB, and_true]; exact prC_bd D _ _)
    have hc2 := fun B hB => lists_beg2 hOk (.live 25 (prC D) :: B) (hB)
    simp only [prC] at hc1 hc2
    have ht := fun (h : HS) (p v : Nat) (F0 : Nat → Nat → SV) hv => try_beg hOk (h := h) (p := p) (v := v) (F0 := F0) hv
    simp only [prC] at ht
    generalize hR : bestS D = R at ht
    have hRv : R = match bestM D D.h (begP D) with | none => tb0 | some x => ⟨true, D.h, pathM D D.h (begP D) (fun _ => ⟨0, 0, 0⟩), x.1⟩ := by rw [← hR]; exact tryM_beg hOk _ _ _ _
    have f1 : (!R.ok) = true → (∀ (i j : Nat), i < 0 → j < 1 → True) ∧ SameD (.tup [.row 0 1 fun _ _ => .any, .int .i64 0, .int .i64 4]) (.tup [.row (chN true D) 1 (planF D.n (cAt D)), .int .i64 (chC true D), .int .i64 (chE true D)]) := fun h => by
      cases hb : bestM D D.h (begP D) with
      | some x => rw [hRv, hb] at h; simp at h
      | none =>
        have e1 : chE true D = 4 := by simp only [chE, hb]; rfl
        have e2 : chN true D = 0 := by simp only [chN, e1]; rfl
        have e3 : chC true D = 0 := by simp only [chC, e1]; rfl
        rw [e1, e2, e3]
        refine ⟨fun _ _ _ _ => trivial, ?_⟩
        apply SameD.tup
        exact ⟨SameD.row0, SameD.rfl' _, SameD.rfl' _, trivial⟩
    have f2 : (!R.ok) = false → (∀ (i j : Nat), i < R.n → j < 1 → Bd 0 0 (plR D.n R.c i j)) ∧ SameD (.tup [.row R.n 1 (plR D.n R.c), .int .i64 R.co, .int .i64 0]) (.tup [.row (chN true D) 1 (planF D.n (cAt D)), .int .i64 (chC true D), .int .i64 (chE true D)]) := fun h => by
      refine ⟨fun i j _ _ => plR_bd i j, ?_⟩
      cases hb : bestM D D.h (begP D) with
      | none => rw [hRv, hb] at h; simp [tb0] at h
      | some x =>
        have e1 : chE true D = 0 := by simp only [chE, hb]; rfl
        have e2 : chN true D = D.h := by simp only [chN, e1]; rfl
        have e3 : chC true D = x.1 := by simp only [chC, e1, hb]; rfl
        rw [hb] at hRv
        rw [e1, e2, e3, hRv]
        apply SameD.tup
        refine ⟨SameD.rowD fun i j hi hj => ?_, SameD.rfl' _, SameD.rfl' _, trivial⟩
        obtain rfl : j = 0 := by omega
        simp only [plR, path_beg hi]
        exact SameD.rowD fun a b ha hb => by obtain rfl : b = 0 := by omega
                                             exact SameD.rfl' _
    repeat' apply And.intro
    all_goals first | (refine calls_mono ?_ hc1; rintro o h' ⟨v', rfl, rfl⟩) | (refine calls_mono ?_ (hc2 _ (by simp [bdB, lenB, BdL, Bd]; exact nestF_bd _ _ _ _ _ _ _ _ _)); rintro o h' ⟨v', rfl, rfl⟩) | skip
    all_goals first | kernel_rfl | omega | skip
    all_goals simp only [presses_eq, beginR_eq, q15_3, p15_6, nestF_eq, nestR_lit, nsM_lit, nsV_lit, psB_ns, Try.f15, go_sem, ↓reduceIte, Nat.reduceAdd, Nat.reduceSub, Nat.reduceMul, Nat.reduceEqDiff, Nat.reduceLT, Nat.reduceLeDiff, Int.reduceToNat, Int.reduceLE, Int.reduceLT, Int.reduceEq, Int.reduceNeg, reduceCtorEq]
    all_goals repeat' apply And.intro
    all_goals first | omega | kernel_rfl | skip
    all_goals try (refine calls_mono ?_ (ht _ _ _ _ rfl); rintro o h' ⟨rfl, rfl⟩)
    all_goals try simp only [bsS, presses_eq, beginR_eq, q15_3, p15_6, nestF_eq, nestR_lit, nsM_lit, nsV_lit, psB_ns, Try.f15, go_sem, ↓reduceIte, Nat.reduceAdd, Nat.reduceSub, Nat.reduceMul, Nat.reduceEqDiff, Nat.reduceLT, Nat.reduceLeDiff, Int.reduceToNat, Int.reduceLE, Int.reduceLT, Int.reduceEq, Int.reduceNeg, reduceCtorEq]
    all_goals repeat' apply And.intro
    all_goals first | omega | exact f1 | exact fun e => ⟨⟨by kernel_rfl, by kernel_rfl⟩, f2 e⟩ | kernel_rfl
end Go.Eng
end
