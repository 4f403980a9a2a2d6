/-
  A part of the symbolic machine, of its soundness, and of what functions compute. No condition.
-/
import Derived.Test.YtmpcdcphgepeiaaI1
set_option linter.unusedSimpArgs false
set_option linter.unusedVariables false
/- What events do with zones, in plain words. -/
section
namespace Go.Eng
structure PSt where
  z : Nat → Nat → Int
  s : Nat → Int
def dA (k lo hi a : Int) : Int := if k = 0 then a + lo else if k = 1 then max 0 (a - hi) else if k = 2 then max 0 (a - hi) else if k = 3 then max a lo else a
def dB (k lo hi b : Int) : Int := if k = 0 then b + hi else if k = 1 then max 0 (b - lo) else if k = 2 then max 0 (b - lo) else if k = 3 then min b hi else b
def dErr (k lo hi a b : Int) : Int := if k = 0 then (if 20000 < b + hi then 12 else 0) else if k = 3 then (if min b hi < max a lo then 6 else 0) else 0
def dZ (e z : Nat → Int) : Nat → Int
  | 0 => dA (e 0) (e 3) (e 4) (z 0)
  | 1 => dB (e 0) (e 3) (e 4) (z 1)
  | 2 => if e 0 = 4 then z 0 else z 2
  | 3 => if e 0 = 4 then z 1 else z 3
  | n + 4 => z (n + 4)
/-- What is added to the sums. -/
def dS (e z : Nat → Int) : Nat → Int
  | 0 => if e 0 = 0 then e 3 else 0
  | 1 => if e 0 = 0 then e 4 else 0
  | 2 => if e 0 = 1 then min (z 0) (e 3) else 0
  | 3 => if e 0 = 1 then min (z 1) (e 4) else 0
  | 4 => if e 0 = 2 then min (z 0) (e 3) else 0
  | 5 => if e 0 = 2 then min (z 1) (e 4) else 0
  | _ + 6 => 0
def zErr (e z : Nat → Int) : Int := dErr (e 0) (e 3) (e 4) (z 0) (z 1)
def stepZ (e : Nat → Int) (k : Nat) (x : PSt) : PSt := ⟨fun i j => if i = k then dZ e (x.z k) j else x.z i j, fun j => x.s j + dS e (x.z k) j⟩
def zRun (e : Nat → Int) : Nat → Nat → PSt → Int ⊕ PSt
  | 0, _, x => .inr x
  | c + 1, k, x => if zErr e (x.z k) = 0 then zRun e c (k + 1) (stepZ e k x) else .inl (zErr e (x.z k))
def evOk (n : Int) (e : Nat → Int) : Bool :=
  in3 (e 1) 0 (n - 1) && (if e 0 = 3 then sp3 (e 3) (e 4) 20000 else in3 (e 2) (e 1) (n - 1) && (in3 (e 0) 0 4 && (e 0 = 4 || sp3 (e 3) (e 4) 20000)))
def toOf (e : Nat → Int) : Int := if e 0 = 3 then e 1 else e 2
def evRun (n : Int) (l : Nat → Nat → Int) : Nat → Nat → PSt → (Nat × Int) ⊕ PSt
  | 0, _, x => .inr x
  | c + 1, i, x => if evOk n (l i) = true then
      match zRun (l i) (toOf (l i) - l i 1 + 1).toNat (l i 1).toNat x with
      | .inl e => .inl (i, e)
      | .inr x' => evRun n l c (i + 1) x'
    else .inl (i, 1)
/-- Every zone is as it may be. -/
def AllOk (n : Nat) (x : PSt) : Prop := ∀ i, i < n → okZ (x.z i) = true
def SumB (b : Int) (x : PSt) : Prop := ∀ j, 0 ≤ x.s j ∧ x.s j ≤ b
/-- What is done to a zone is in bounds: the event's numbers. -/
def EvB (e : Nat → Int) : Prop := (0 ≤ e 0 ∧ e 0 ≤ 4) ∧ (e 0 ≠ 4 → 0 ≤ e 3 ∧ e 3 ≤ e 4 ∧ e 4 ≤ 20000)
theorem okZ_iff {z : Nat → Int} : okZ z = true ↔ (0 ≤ z 0 ∧ z 0 ≤ z 1 ∧ z 1 ≤ 20000) ∧ 0 ≤ z 2 ∧ z 2 ≤ z 3 ∧ z 3 ≤ 20000 := by
  simp only [okZ, Bool.and_eq_true, sp3_iff]
theorem evOk_iff {n : Int} {e : Nat → Int} : evOk n e = true ↔ (0 ≤ e 1 ∧ e 1 ≤ toOf e ∧ toOf e ≤ n - 1) ∧ EvB e := by
  unfold evOk toOf EvB
  simp only [Bool.and_eq_true, in3_iff]
  by_cases h3 : e 0 = 3
  · rw [if_pos h3, if_pos h3, sp3_iff]
    omega
  · rw [if_neg h3, if_neg h3]
    simp only [Bool.and_eq_true, in3_iff, Bool.or_eq_true, decide_eq_true_eq, sp3_iff]
    by_cases h4 : e 0 = 4
    · simp [h4]; try omega
    · simp [h4]; try omega
theorem zone_ok {e z : Nat → Int} (he : EvB e) (hz : okZ z = true) (h0 : zErr e z = 0) : okZ (dZ e z) = true := by
  rw [okZ_iff] at hz ⊢
  obtain ⟨he1, he2⟩ := he
  simp only [zErr, dErr] at h0
  simp only [dZ, dA, dB]
  by_cases k0 : e 0 = 0
  · simp only [k0, if_true] at h0 ⊢; have := he2 (by omega); split at h0 <;> simp_all <;> omega
  by_cases k1 : e 0 = 1
  · have := he2 (by omega); simp [k1]; omega
  by_cases k2 : e 0 = 2
  · have := he2 (by omega); simp [k2]; omega
  by_cases k3 : e 0 = 3
  · have := he2 (by omega); simp [k3] at h0 ⊢; omega
  have k4 : e 0 = 4 := by omega
  simp [k4]; omega
theorem dS_bd {e z : Nat → Int} (he : EvB e) (hz : okZ z = true) (j : Nat) : 0 ≤ dS e z j ∧ dS e z j ≤ 20000 := by
  rw [okZ_iff] at hz
  obtain ⟨he1, he2⟩ := he
  match j with
  | 0 => simp only [dS]; split <;> omega
  | 1 => simp only [dS]; split <;> omega
  | 2 => simp only [dS]; split <;> omega
  | 3 => simp only [dS]; split <;> omega
  | 4 => simp only [dS]; split <;> omega
  | 5 => simp only [dS]; split <;> omega
  | n + 6 => simp [dS]
theorem step_ok {n k : Nat} {e : Nat → Int} {x : PSt} (he : EvB e) (hx : AllOk n x) (hk : k < n) (h0 : zErr e (x.z k) = 0) : AllOk n (stepZ e k x) := by
  intro i hi
  by_cases h : i = k
  · subst h
    have : (stepZ e i x).z i = dZ e (x.z i) := by funext j; simp [stepZ]
    rw [this]; exact zone_ok he (hx i hi) h0
  · have : (stepZ e k x).z i = x.z i := by funext j; simp [stepZ, h]
    rw [this]; exact hx i hi
theorem step_sum {n k : Nat} {e : Nat → Int} {x : PSt} {b : Int} (he : EvB e) (hx : AllOk n x) (hk : k < n) (hs : SumB b x) : SumB (b + 20000) (stepZ e k x) := by
  intro j
  have := dS_bd he (hx k hk) j
  have := hs j
  simp only [stepZ]
  omega
end Go.Eng
end

/- Event, do: the document's. -/
section
namespace Go.Eng
open Go Go.RowKit Go.Proofs
set_option maxRecDepth 100000
set_option maxHeartbeats 4000000
def f5 (a b c d e : Int) : Nat → Int
  | 0 => a
  | 1 => b
  | 2 => c
  | 3 => d
  | _ => e
def f4 (a b c d : Int) : Nat → Int
  | 0 => a
  | 1 => b
  | 2 => c
  | _ => d
def eventBase : BaseF := fun args => match args with
  | [.agg [.int .i64 k, .int .i64 fr, .int .i64 to, .int .i64 lo, .int .i64 hi], .int .i64 n] => some (1 ≤ n ∧ n ≤ 1000000, .bool (evOk n (f5 k fr to lo hi)))
  | _ => none
theorem event_eq (k fr to lo hi n : Int) : eventBase [.agg [.int .i64 k, .int .i64 fr, .int .i64 to, .int .i64 lo, .int .i64 hi], .int .i64 n] = some (1 ≤ n ∧ n ≤ 1000000, .bool (evOk n (f5 k fr to lo hi))) := rfl
theorem event_base : Base Try.prog 18 eventBase := by
  intro args p v hq hp
  unfold eventBase at hq
  split at hq
  rotate_left
  · cases hq
  rename_i k fr to lo hi n
  cases hq
  refine base_of (C := cx [] [] [(48, withinBase), (49, inBase)] [] none) (cx_ok trivial ⟨within_base, in_base, trivial⟩) rfl (g := 18) (fn := Try.f18)
    (args' := [.agg [.int .i64 k, .int .i64 fr, .int .i64 to, .int .i64 lo, .int .i64 hi], .int .i64 n]) (fn_18) rfl 1000 (by simp only [BdL, Bd, and_self]) ⟨SameD.rfl' _, SameD.rfl' _, trivial⟩ ?_
  simp only [in_eq, within_eq, Try.f18, go_sem, ↓reduceIte, Nat.reduceAdd, Nat.reduceSub, Nat.reduceMul, Nat.reduceEqDiff, Nat.reduceLT, Nat.reduceLeDiff, Int.reduceToNat, Int.reduceLE, Int.reduceLT, Int.reduceEq, Int.reduceNeg, reduceCtorEq]
  have hw : IntKind.i64.wrap (n - 1) = n - 1 := wrap_id (by omega) (by omega)
  simp only [hw]
  simp only [spl, decide_eq_true_eq, decide_eq_false_iff_not, Bool.not_eq_true', Bool.not_eq_false', SV.bool.injEq]
  have e1 : evOk n (f5 k fr to lo hi) = (in3 fr 0 (n - 1) && (if k = 3 then sp3 lo hi 20000 else in3 to fr (n - 1) && (in3 k 0 4 && (k = 4 || sp3 lo hi 20000)))) := rfl
  rw [e1]
  have i0 : in3 0 0 4 = true := by decide
  have i1 : in3 1 0 4 = true := by decide
  have i2 : in3 2 0 4 = true := by decide
  have i4 : in3 4 0 4 = true := by decide
  have in5 : k ≠ 0 → k ≠ 1 → k ≠ 2 → k ≠ 3 → k ≠ 4 → in3 k 0 4 = false := fun _ _ _ _ _ => by
    cases h : in3 k 0 4 with
    | false => rfl
    | true => have := in3_iff.1 h; omega
  repeat' (first | refine And.intro ?_ ?_ | intro _)
  all_goals simp_all
def doBase : BaseF := fun args => match args with
  | [.agg [.int .i64 a, .int .i64 b, .int .i64 c, .int .i64 d], .agg [.int .i64 k, .int .i64 fr, .int .i64 to, .int .i64 lo, .int .i64 hi]] =>
    some (EvB (f5 k fr to lo hi) ∧ okZ (f4 a b c d) = true, .tup [.agg [.int .i64 (if zErr (f5 k fr to lo hi) (f4 a b c d) = 0 then dZ (f5 k fr to lo hi) (f4 a b c d) 0 else a), .int .i64 (if zErr (f5 k fr to lo hi) (f4 a b c d) = 0 then dZ (f5 k fr to lo hi) (f4 a b c d) 1 else b), .int .i64 (dZ (f5 k fr to lo hi) (f4 a b c d) 2), .int .i64 (dZ (f5 k fr to lo hi) (f4 a b c d) 3)],
      .agg [.int .i64 (dS (f5 k fr to lo hi) (f4 a b c d) 0), .int .i64 (dS (f5 k fr to lo hi) (f4 a b c d) 1), .int .i64 (dS (f5 k fr to lo hi) (f4 a b c d) 2), .int .i64 (dS (f5 k fr to lo hi) (f4 a b c d) 3), .int .i64 (dS (f5 k fr to lo hi) (f4 a b c d) 4), .int .i64 (dS (f5 k fr to lo hi) (f4 a b c d) 5)],
      .int .i64 (zErr (f5 k fr to lo hi) (f4 a b c d))])
  | _ => none
theorem do_base : Base Try.prog 73 doBase := by
  intro args p v hq hp
  unfold doBase at hq
  split at hq
  rotate_left
  · cases hq
  rename_i a b c d k fr to lo hi
  cases hq
  obtain ⟨⟨he1, he2⟩, hz⟩ := hp
  rw [okZ_iff] at hz
  simp only [f5, f4] at he1 he2 hz
  refine base_of (C := cx [] [] [(74, plusBase), (87, rlessBase), (88, roffBase)] [(73, 8, p73_8), (73, 18, p73_18), (73, 21, p73_21)] none) (cx_ok trivial ⟨plus_base, rless_base, roff_base, trivial⟩) rfl (g := 73) (fn := Try.f73)
    (args' := [.agg [.int .i64 a, .int .i64 b, .int .i64 c, .int .i64 d], .agg [.int .i64 k, .int .i64 fr, .int .i64 to, .int .i64 lo, .int .i64 hi]]) (fn_73) rfl 1000 (by simp only [BdL, Bd, and_self]) ⟨SameD.rfl' _, SameD.rfl' _, trivial⟩ ?_
  simp only [plus_eq, rless_eq, roff_eq, Try.f73, p73_8, p73_18, p73_21, go_sem, ↓reduceIte, Nat.reduceAdd, Nat.reduceSub, Nat.reduceMul, Nat.reduceEqDiff, Nat.reduceLT, Nat.reduceLeDiff, Int.reduceToNat, Int.reduceLE, Int.reduceLT, Int.reduceEq, Int.reduceNeg, reduceCtorEq]
  repeat' (first | refine And.intro ?_ ?_ | intro _)
  all_goals first
    | (show planOk _ _ = true; kernel_rfl) | (show keepOk _ _ = true; kernel_rfl)
    | (simp only [decide_eq_true_eq, decide_eq_false_iff_not] at *
       simp (disch := omega) only [wrap_id, SV.tup.injEq, List.cons.injEq, SV.agg.injEq, SV.int.injEq, and_true, true_and, zErr, dErr, dZ, dA, dB, dS, f5, f4] at *
       simp_all <;> omega)
theorem event_at (e : Nat → Int) (n : Int) : eventBase [.agg [.int .i64 (e 0), .int .i64 (e 1), .int .i64 (e 2), .int .i64 (e 3), .int .i64 (e 4)], .int .i64 n] = some (1 ≤ n ∧ n ≤ 1000000, .bool (evOk n e)) := rfl
theorem do_at (z e : Nat → Int) : doBase [.agg [.int .i64 (z 0), .int .i64 (z 1), .int .i64 (z 2), .int .i64 (z 3)], .agg [.int .i64 (e 0), .int .i64 (e 1), .int .i64 (e 2), .int .i64 (e 3), .int .i64 (e 4)]] =
    some (EvB e ∧ okZ z = true, .tup [.agg [.int .i64 (if zErr e z = 0 then dZ e z 0 else z 0), .int .i64 (if zErr e z = 0 then dZ e z 1 else z 1), .int .i64 (dZ e z 2), .int .i64 (dZ e z 3)],
      .agg [.int .i64 (dS e z 0), .int .i64 (dS e z 1), .int .i64 (dS e z 2), .int .i64 (dS e z 3), .int .i64 (dS e z 4), .int .i64 (dS e z 5)], .int .i64 (zErr e z)]) := rfl
end Go.Eng
end

/- play: the document's. -/
section
namespace Go.Eng
open Go Go.RowKit Go.Proofs
set_option maxRecDepth 100000
set_option maxHeartbeats 4000000
attribute [local irreducible] OwnT
structure POut where
  n : Nat
  z : Nat → Nat → Int
  s : Nat → Int
  i : Int
  e : Int
def pErr (i e : Int) : POut := ⟨0, fun _ _ => 0, fun _ => 0, i, e⟩
def pRes (n m : Nat) : (Nat × Int) ⊕ PSt → POut
  | .inr x => ⟨n, x.z, x.s, m, 0⟩
  | .inl (i, e) => pErr i e
def pTup (o : POut) : SV := .tup [.row o.n 4 fun i j => .int .i64 (o.z i j), .agg [.int .i64 (o.s 0), .int .i64 (o.s 1), .int .i64 (o.s 2), .int .i64 (o.s 3), .int .i64 (o.s 4), .int .i64 (o.s 5)], .int .i64 o.i, .int .i64 o.e]
def playO (n m : Nat) (z l : Nat → Nat → Int) : POut := pRes n m (evRun (n : Int) l m 0 ⟨z, fun _ => 0⟩)
def playR (n m : Nat) (z l : Nat → Nat → Int) : SV := pTup (playO n m z l)
def rplayBase : BaseF := fun args => match args with
  | [.row n sz f, .row m sl l] => some ((sz = 4 ∧ IntR n 4 f) ∧ (sl = 5 ∧ IntR m 5 l) ∧ rinkB n (fun i j => iv (f i j)) = true ∧ m ≤ 256, playR n m (fun i j => iv (f i j)) (fun i j => iv (l i j)))
  | _ => none
theorem upd_step {e : Nat → Int} {k : Nat} {y : PSt} (h0 : zErr e (y.z k) = 0) (a b : Nat) (hb : b < 4) :
    updF (fun i j => SV.int .i64 (y.z i j)) k 0 4 [.int .i64 (if zErr e (y.z k) = 0 then dZ e (y.z k) 0 else y.z k 0), .int .i64 (if zErr e (y.z k) = 0 then dZ e (y.z k) 1 else y.z k 1), .int .i64 (dZ e (y.z k) 2), .int .i64 (dZ e (y.z k) 3)] a b = .int .i64 ((stepZ e k y).z a b) := by
  unfold updF
  by_cases h : a = k
  · subst h
    match b, hb with
    | 0, _ => simp [nth, stepZ, h0]
    | 1, _ => simp [nth, stepZ, h0]
    | 2, _ => simp [nth, stepZ]
    | 3, _ => simp [nth, stepZ]
  · simp [h, stepZ]
theorem zRun_cons {e : Nat → Int} {c k : Nat} {x : PSt} (hc : 0 < c) : zRun e c k x = if zErr e (x.z k) = 0 then zRun e (c - 1) (k + 1) (stepZ e k x) else .inl (zErr e (x.z k)) := by
  obtain ⟨d, rfl⟩ : ∃ d, c = d + 1 := ⟨c - 1, by omega⟩
  rfl
theorem evRun_cons {n : Int} {l : Nat → Nat → Int} {c i : Nat} {x : PSt} (hc : 0 < c) : evRun n l c i x = if evOk n (l i) = true then
      match zRun (l i) (toOf (l i) - l i 1 + 1).toNat (l i 1).toNat x with
      | .inl e => .inl (i, e)
      | .inr x' => evRun n l (c - 1) (i + 1) x'
    else .inl (i, 1) := by
  obtain ⟨d, rfl⟩ : ∃ d, c = d + 1 := ⟨c - 1, by omega⟩
  rfl
theorem rplay_base : BaseO Try.prog 54 37 rplayBase := by
  intro args p v hq hp
  unfold rplayBase at hq
  split at hq
  rotate_left
  · cases hq
  rename_i n sz f m sl lf
  cases hq
  obtain ⟨⟨rfl, hf⟩, ⟨rfl, hl⟩, hr, hm⟩ := hp
  refine baseO_of (C := cx [] [] [(18, eventBase), (73, doBase), (74, plusBase)] [(54, 14, p54_14), (54, 18, p54_18), (54, 19, p54_19)] none) (cx_ok trivial ⟨event_base, do_base, plus_base, trivial⟩) rfl (g := 54) (fn := Try.f54)
    (args' := [.row n 4 fun i j => .int .i64 (iv (f i j)), .row m 5 fun i j => .int .i64 (iv (lf i j))]) (fn_54) rfl 1000 (by simp only [BdL, Bd, and_self, and_true]; exact ⟨fun i j hi hj => by rw [hf i j hi hj]; trivial, fun i j hi hj => by rw [hl i j hi hj]; trivial⟩) ⟨SameD.int hf, SameD.int hl, trivial⟩ ?_
  have hr' := hr
  generalize hzz : (fun i j => iv (f i j)) = z at hr ⊢
  generalize hll : (fun i j => iv (lf i j)) = l
  have hz' : ∀ i j, iv (f i j) = z i j := fun i j => by rw [← hzz]
  have hl' : ∀ i j, iv (lf i j) = l i j := fun i j => by rw [← hll]
  simp only [hz', hl']
  have hb := rinkB_iff.1 hr
  simp only [event_at, do_at, plus_eq, Try.f54, p54_14, p54_18, p54_19, go_sem, ↓reduceIte, Nat.reduceAdd, Nat.reduceSub, Nat.reduceMul, Nat.reduceEqDiff, Nat.reduceLT, Nat.reduceLeDiff, Int.reduceToNat, Int.reduceLE, Int.reduceLT, Int.reduceEq, Int.reduceNeg, reduceCtorEq]
  refine ⟨⟨by omega, by omega⟩, ?_⟩
  refine loop_of { q : Nat × PSt // q.1 ≤ m ∧ AllOk n q.2 ∧ SumB (480000 * q.1) q.2 ∧ evRun n l (m - q.1) q.1 q.2 = evRun n l m 0 ⟨z, fun _ => 0⟩ }
    (fun q => [(10, .int .i64 (q.1.1 : Int)), (9, .ptr 1 0), (8, .vec 1 1), (5, .ptr 0 0), (1, .row m 5 fun i j => .int .i64 (l i j)), (0, .row n 4 fun i j => .int .i64 (z i j))])
    (fun q => ⟨[.live 44 [.int .i64 0, .int .i64 0, .int .i64 0, .int .i64 0, .int .i64 0, .int .i64 0], .live 44 [.int .i64 (q.1.2.s 0), .int .i64 (q.1.2.s 1), .int .i64 (q.1.2.s 2), .int .i64 (q.1.2.s 3), .int .i64 (q.1.2.s 4), .int .i64 (q.1.2.s 5)]], [.dead, .live 1 37 4 n fun i j => .int .i64 (q.1.2.z i j)]⟩)
    (fun q => m - q.1.1) (fun _ => ⟨rfl, rfl⟩) ⟨(0, ⟨z, fun _ => 0⟩), by omega, hb.2, fun j => by simp, rfl⟩ (by (apply sub_of <;> simp only [go_sem, ↓reduceIte, Nat.reduceAdd, Nat.reduceSub, Nat.reduceMul, Nat.reduceEqDiff, Nat.reduceLT, Nat.reduceLeDiff, Int.reduceToNat, Int.reduceLE, Int.reduceLT, Int.reduceEq, Int.reduceNeg, reduceCtorEq] <;> (try simp [catF]))) ?_
  rintro ⟨⟨i, x⟩, hi, hok, hsum, hrun⟩
  simp only [] at hi hok hsum hrun
  simp only [event_at, do_at, plus_eq, Try.f54, p54_14, p54_18, p54_19, go_sem, ↓reduceIte, Nat.reduceAdd, Nat.reduceSub, Nat.reduceMul, Nat.reduceEqDiff, Nat.reduceLT, Nat.reduceLeDiff, Int.reduceToNat, Int.reduceLE, Int.reduceLT, Int.reduceEq, Int.reduceNeg, reduceCtorEq]
  repeat' (first | refine And.intro ?_ ?_ | intro _)
  all_goals try first | trivial | (show planOk _ _ = true; kernel_rfl) | (show keepOk _ _ = true; kernel_rfl)
  all_goals try (simp only [decide_eq_true_eq, decide_eq_false_iff_not] at *; omega)
  · rename_i c1 c2
    simp only [decide_eq_true_eq, Bool.not_eq_true'] at c1 c2
    have e1 : m - i = (m - i - 1) + 1 := by omega
    have e2 : evRun (n : Int) l m 0 ⟨z, fun _ => 0⟩ = .inl (i, 1) := by
      rw [← hrun, e1, evRun, if_neg]
      intro hc; have : evOk n (l i) = false := c2; rw [hc] at this; cases this
    unfold playR playO
    rw [e2]
    simp only [pRes, pErr, pTup, go_sem, ↓reduceIte, Nat.reduceAdd, Nat.reduceSub, Nat.reduceMul, Nat.reduceEqDiff, Nat.reduceLT, Nat.reduceLeDiff, Int.reduceToNat, Int.reduceLE, Int.reduceLT, Int.reduceEq, Int.reduceNeg, reduceCtorEq]
    exact fun _ _ h => absurd h (by omega)
  rotate_left 2
  · rename_i c1
    simp only [decide_eq_false_iff_not] at c1
    unfold playR playO
    have e0 : m - i = 0 := by omega
    rw [← hrun, e0, evRun]
    simp only [pRes, pErr, pTup, go_sem, ↓reduceIte, Nat.reduceAdd, Nat.reduceSub, Nat.reduceMul, Nat.reduceEqDiff, Nat.reduceLT, Nat.reduceLeDiff, Int.reduceToNat, Int.reduceLE, Int.reduceLT, Int.reduceEq, Int.reduceNeg, reduceCtorEq]
    simp
  all_goals
    rename_i c1 c2 c3
    simp only [decide_eq_true_eq, decide_eq_false_iff_not, Bool.not_eq_false'] at c1 c2 c3
    have c2' : evOk n (l i) = true := c2
    obtain ⟨⟨a1, a2, a3⟩, hev⟩ := evOk_iff.1 c2'
    have hfr : ((l i 1).toNat : Int) = l i 1 := by omega
    refine loop_of { r : Nat × PSt // (l i 1).toNat ≤ r.1 ∧ (r.1 : Int) ≤ toOf (l i) + 1 ∧ AllOk n r.2 ∧ SumB (480000 * i + 20000 * (r.1 - l i 1)) r.2 ∧ zRun (l i) (toOf (l i) + 1 - r.1).toNat r.1 r.2 = zRun (l i) (toOf (l i) - l i 1 + 1).toNat (l i 1).toNat x }
      (fun r => [(12, .int .i64 (r.1.1 : Int)), (11, .int .i64 (toOf (l i))), (10, .int .i64 (i : Int)), (9, .ptr 1 0), (8, .vec 1 1), (5, .ptr 0 0), (1, .row m 5 fun i j => .int .i64 (l i j)), (0, .row n 4 fun i j => .int .i64 (z i j))])
      (fun r => ⟨[.live 44 [.int .i64 0, .int .i64 0, .int .i64 0, .int .i64 0, .int .i64 0, .int .i64 0], .live 44 [.int .i64 (r.1.2.s 0), .int .i64 (r.1.2.s 1), .int .i64 (r.1.2.s 2), .int .i64 (r.1.2.s 3), .int .i64 (r.1.2.s 4), .int .i64 (r.1.2.s 5)]], [.dead, .live 1 37 4 n fun i j => .int .i64 (r.1.2.z i j)]⟩)
      (fun r => (toOf (l i) + 1 - r.1.1).toNat) (fun _ => ⟨rfl, rfl⟩) ⟨((l i 1).toNat, x), by omega, by omega, hok, by simpa [hfr] using hsum, by rw [hfr]; congr 1; omega⟩ (by apply sub_of <;> simp only [go_sem, ↓reduceIte, Nat.reduceAdd, Nat.reduceSub, Nat.reduceMul, Nat.reduceEqDiff, Nat.reduceLT, Nat.reduceLeDiff, Int.reduceToNat, Int.reduceLE, Int.reduceLT, Int.reduceEq, Int.reduceNeg, reduceCtorEq] <;> (try simp [catF, toOf, hfr, c3])) ?_
    rintro ⟨⟨k, y⟩, hk1, hk2, hyok, hysum, hyrun⟩
    simp only [] at hk1 hk2 hyok hysum hyrun
    simp only [event_at, do_at, plus_eq, Try.f54, p54_14, p54_18, p54_19, go_sem, ↓reduceIte, Nat.reduceAdd, Nat.reduceSub, Nat.reduceMul, Nat.reduceEqDiff, Nat.reduceLT, Nat.reduceLeDiff, Int.reduceToNat, Int.reduceLE, Int.reduceLT, Int.reduceEq, Int.reduceNeg, reduceCtorEq]
    have hev2 : evRun (n : Int) l (m - i) i x = _ := evRun_cons (by omega)
    rw [if_pos c2'] at hev2
    refine ⟨fun d1 => ?_, fun d1 => ?_⟩
    · simp only [decide_eq_true_eq] at d1
      have hz := hyok k (by omega)
      have hzr := zRun_cons (e := l i) (c := (toOf (l i) + 1 - (k : Int)).toNat) (k := k) (x := y) (by omega)
      repeat' (first | exact hev | exact hz | refine And.intro ?_ ?_ | intro _)
      all_goals try first | trivial | (show planOk _ _ = true; kernel_rfl) | (show keepOk _ _ = true; kernel_rfl)
      all_goals try omega
      all_goals rename_i f1; simp only [Bool.not_eq_true', decide_eq_true_eq, decide_eq_false_iff_not, Bool.not_eq_false'] at f1
      all_goals first
        | (rw [if_neg f1] at hzr
           rw [← hyrun, hzr] at hev2
           unfold playR playO
           rw [← hrun, hev2]
           simp only [pRes, pErr, pTup, go_sem, ↓reduceIte, Nat.reduceAdd, Nat.reduceSub, Nat.reduceMul, Nat.reduceEqDiff, Nat.reduceLT, Nat.reduceLeDiff, Int.reduceToNat, Int.reduceLE, Int.reduceLT, Int.reduceEq, Int.reduceNeg, reduceCtorEq]
           exact fun _ _ h => absurd h (by omega))
        | (rw [if_pos f1] at hzr
           have hw : ∀ j, IntKind.i64.wrap (y.s j + dS (l i) (y.z k) j) = (stepZ (l i) k y).s j := fun j => by
             have := hysum j
             have := dS_bd hev hz j
             rw [wrap_id (by omega) (by omega)]; rfl
           have hw2 : IntKind.i64.wrap ((k : Int) + 1) = ((k + 1 : Nat) : Int) := by rw [wrap_id (by omega) (by omega)]; omega
           refine ⟨⟨(k + 1, stepZ (l i) k y), by simp only []; omega, by simp only []; omega, step_ok hev hyok (by omega) f1, ?_, ?_⟩, by simp only []; omega, ?_⟩
           · have := step_sum hev hyok (show k < n by omega) hysum
             intro j; have := this j; simp only []; omega
           · simp only []; rw [← hyrun, hzr]; congr 1; omega
           · apply sub_of <;> simp only [hw, hw2, go_sem, ↓reduceIte, Nat.reduceAdd, Nat.reduceSub, Nat.reduceMul, Nat.reduceEqDiff, Nat.reduceLT, Nat.reduceLeDiff, Int.reduceToNat, Int.reduceLE, Int.reduceLT, Int.reduceEq, Int.reduceNeg, reduceCtorEq] <;> (try simp)
             exact fun a b _ hb => by have := upd_step f1 a b hb; simpa [updF] using this)
    · simp only [decide_eq_false_iff_not] at d1
      have e1 : (toOf (l i) + 1 - (k : Int)).toNat = 0 := by omega
      rw [e1, zRun] at hyrun
      rw [← hyrun] at hev2
      have hw2 : IntKind.i64.wrap ((i : Int) + 1) = ((i + 1 : Nat) : Int) := by rw [wrap_id (by omega) (by omega)]; omega
      refine ⟨⟨(i + 1, y), by simp only []; omega, hyok, fun j => by have := hysum j; simp only []; omega, ?_⟩, by simp only []; omega, ?_⟩
      · simp only []; rw [← hrun, hev2]; congr 1
      · apply sub_of <;> simp only [hw2, go_sem, ↓reduceIte, Nat.reduceAdd, Nat.reduceSub, Nat.reduceMul, Nat.reduceEqDiff, Nat.reduceLT, Nat.reduceLeDiff, Int.reduceToNat, Int.reduceLE, Int.reduceLT, Int.reduceEq, Int.reduceNeg, reduceCtorEq] <;> (try simp)
end Go.Eng
end

/- Play, Same, Ints, Thin: the document's. -/
section
namespace Go.Eng
open Go Go.RowKit Go.Proofs
set_option maxRecDepth 100000
set_option maxHeartbeats 4000000
attribute [local irreducible] OwnT DefS
theorem rplay_eq (n m : Nat) (z l : Nat → Nat → Int) : rplayBase [.row n 4 (fun i j => .int .i64 (z i j)), .row m 5 (fun i j => .int .i64 (l i j))] = some ((4 = 4 ∧ IntR n 4 (fun i j => .int .i64 (z i j))) ∧ (5 = 5 ∧ IntR m 5 (fun i j => .int .i64 (l i j))) ∧ rinkB n z = true ∧ m ≤ 256, pTup (playO n m z l)) := rfl
def playT (n m : Nat) (z l : Nat → Nat → Int) : POut := if rinkB n z = true then (if m ≤ 256 then playO n m z l else pErr 0 3) else pErr 0 1
def tplayR (n m : Nat) (z l : Nat → Nat → Int) : SV := pTup (playT n m z l)
def tplayBase : BaseF := fun args => match args with
  | [.row n sz_z f_z, .row m sz_l f_l] => some ((sz_z = 4 ∧ IntR n 4 f_z) ∧ (sz_l = 5 ∧ IntR m 5 f_l), tplayR n m (fun i j => iv (f_z i j)) (fun i j => iv (f_l i j)))
  | _ => none
theorem tplay_eq (n : Nat) (z : Nat → Nat → Int) (m : Nat) (l : Nat → Nat → Int) : tplayBase [.row n 4 (fun i j => .int .i64 (z i j)), .row m 5 (fun i j => .int .i64 (l i j))] = some ((4 = 4 ∧ IntR n 4 (fun i j => .int .i64 (z i j))) ∧ (5 = 5 ∧ IntR m 5 (fun i j => .int .i64 (l i j))), tplayR n m z l) := rfl
theorem tplay_base : BaseO Try.prog 28 37 tplayBase := by
  intro args p v hq hp
  unfold tplayBase at hq
  split at hq
  rotate_left
  · cases hq
  rename_i n sz_z f_z m sz_l f_l
  cases hq
  obtain ⟨⟨rfl, i_z⟩, ⟨rfl, i_l⟩⟩ := hp
  refine baseO_of (C := cx [] [(54, 37, rplayBase)] [(16, rinkBase)] [] none) (cx_ok ⟨rplay_base, trivial⟩ ⟨rink_base, trivial⟩) rfl (g := 28) (fn := Try.f28)
    (args' := [.row n 4 (rowF .i64 (fun i j => iv (f_z i j))), .row m 5 (rowF .i64 (fun i j => iv (f_l i j)))]) (fn_28) rfl 1000 (by simp only [BdL, Bd, and_self, and_true, true_and]; exact ⟨fun i j hi hj => by rw [i_z i j hi hj]; trivial, fun i j hi hj => by rw [i_l i j hi hj]; trivial⟩) ⟨SameD.int i_z, SameD.int i_l, trivial⟩ ?_
  generalize (fun i j => iv (f_z i j)) = z
  generalize (fun i j => iv (f_l i j)) = l
  simp only [rowF_eq]
  simp only [rink_eq, rplay_eq, pTup, Try.f28, go_sem, ↓reduceIte, Nat.reduceAdd, Nat.reduceSub, Nat.reduceMul, Nat.reduceEqDiff, Nat.reduceLT, Nat.reduceLeDiff, Int.reduceToNat, Int.reduceLE, Int.reduceLT, Int.reduceEq, Int.reduceNeg, reduceCtorEq]
  refine ⟨fun c1 => ?_, fun c1 => ⟨fun c2 => ?_, fun c2 => ?_⟩⟩
  · rw [show tplayR n m z l = pTup (pErr 0 1) by simp at c1; simp [tplayR, playT, c1]]
    simp only [pTup, pErr, go_sem, ↓reduceIte, Nat.reduceAdd, Nat.reduceSub, Nat.reduceMul, Nat.reduceEqDiff, Nat.reduceLT, Nat.reduceLeDiff, Int.reduceToNat, Int.reduceLE, Int.reduceLT, Int.reduceEq, Int.reduceNeg, reduceCtorEq]
    simp
  · rw [show tplayR n m z l = pTup (pErr 0 3) by simp at c1 c2; simp [tplayR, playT, c1, show ¬ m ≤ 256 by omega]]
    simp only [pTup, pErr, go_sem, ↓reduceIte, Nat.reduceAdd, Nat.reduceSub, Nat.reduceMul, Nat.reduceEqDiff, Nat.reduceLT, Nat.reduceLeDiff, Int.reduceToNat, Int.reduceLE, Int.reduceLT, Int.reduceEq, Int.reduceNeg, reduceCtorEq]
    simp
  · simp at c1 c2
    rw [show tplayR n m z l = pTup (playO n m z l) by simp [tplayR, playT, c1, show m ≤ 256 by omega]]
    simp only [pTup, pErr, go_sem, ↓reduceIte, Nat.reduceAdd, Nat.reduceSub, Nat.reduceMul, Nat.reduceEqDiff, Nat.reduceLT, Nat.reduceLeDiff, Int.reduceToNat, Int.reduceLE, Int.reduceLT, Int.reduceEq, Int.reduceNeg, reduceCtorEq]
    exact ⟨⟨c1, by omega⟩, fun _ _ _ _ => trivial⟩
theorem tplay_at (n : Nat) (z : Nat → Nat → Int) (m : Nat) (l : Nat → Nat → Int) : tplayBase [.row n 4 (fun i j => .int .i64 (z i j)), .row m 5 (fun i j => .int .i64 (l i j))] = some ((4 = 4 ∧ IntR n 4 (fun i j => .int .i64 (z i j))) ∧ (5 = 5 ∧ IntR m 5 (fun i j => .int .i64 (l i j))), pTup (playT n m z l)) := rfl
def same1 (a b : Nat → Int) : Bool := decide (a 0 = b 0) && (decide (a 1 = b 1) && (decide (a 2 = b 2) && decide (a 3 = b 3)))
def sameB (n m : Nat) (a b : Nat → Nat → Int) : Bool := decide (n = m) && allU (fun i => same1 (a i) (b i)) n
def sameBase : BaseF := fun args => match args with
  | [.row n sz_a f_a, .row m sz_b f_b] => some ((sz_a = 4 ∧ IntR n 4 f_a) ∧ (sz_b = 4 ∧ IntR m 4 f_b) ∧ (n ≤ 1000000), .bool (sameB n m (fun i j => iv (f_a i j)) (fun i j => iv (f_b i j))))
  | _ => none
theorem same_eq (n : Nat) (a : Nat → Nat → Int) (m : Nat) (b : Nat → Nat → Int) : sameBase [.row n 4 (fun i j => .int .i64 (a i j)), .row m 4 (fun i j => .int .i64 (b i j))] = some ((4 = 4 ∧ IntR n 4 (fun i j => .int .i64 (a i j))) ∧ (4 = 4 ∧ IntR m 4 (fun i j => .int .i64 (b i j))) ∧ (n ≤ 1000000), .bool (sameB n m a b)) := rfl
theorem same_base : Base Try.prog 25 sameBase := by
  intro args p v hq hp
  unfold sameBase at hq
  split at hq
  rotate_left
  · cases hq
  rename_i n sz_a f_a m sz_b f_b
  cases hq
  obtain ⟨⟨rfl, i_a⟩, ⟨rfl, i_b⟩, pre⟩ := hp
  refine base_of (C := cx [] [] [] [(25, 6, p25_6)] none) (cx_ok trivial trivial) rfl (g := 25) (fn := Try.f25)
    (args' := [.row n 4 (rowF .i64 (fun i j => iv (f_a i j))), .row m 4 (rowF .i64 (fun i j => iv (f_b i j)))]) (fn_25) rfl 1000 (by simp only [BdL, Bd, and_self, and_true, true_and]; exact ⟨fun i j hi hj => by rw [i_a i j hi hj]; trivial, fun i j hi hj => by rw [i_b i j hi hj]; trivial⟩) ⟨SameD.int i_a, SameD.int i_b, trivial⟩ ?_
  generalize (fun i j => iv (f_a i j)) = a at *
  generalize (fun i j => iv (f_b i j)) = b at *
  simp only [rowF_eq]
  simp only [p25_6, Try.f25, go_sem, ↓reduceIte, Nat.reduceAdd, Nat.reduceSub, Nat.reduceMul, Nat.reduceEqDiff, Nat.reduceLT, Nat.reduceLeDiff, Int.reduceToNat, Int.reduceLE, Int.reduceLT, Int.reduceEq, Int.reduceNeg, reduceCtorEq]
  refine ⟨fun c1 => ?_, fun c1 => ?_⟩
  · simp [sameB]; simp at c1; intro h; omega
  simp at c1
  have hnm : n = m := by omega
  subst hnm
  refine loop_of { i : Nat // i ≤ n ∧ ∀ k, k < i → same1 (a k) (b k) = true }
    (fun i => [(5, .int .i64 (i.1 : Int)), (1, .row n 4 fun i j => .int .i64 (b i j)), (0, .row n 4 fun i j => .int .i64 (a i j))]) (fun _ => ⟨[], []⟩) (fun i => n - i.1) (fun _ => ⟨rfl, rfl⟩) ⟨0, by omega, by omega⟩ (by (apply sub_of <;> simp only [go_sem, ↓reduceIte, Nat.reduceAdd, Nat.reduceSub, Nat.reduceMul, Nat.reduceEqDiff, Nat.reduceLT, Nat.reduceLeDiff, Int.reduceToNat, Int.reduceLE, Int.reduceLT, Int.reduceEq, Int.reduceNeg, reduceCtorEq] <;> (try simp [catF]))) ?_
  rintro ⟨i, h1, h2⟩
  simp only [p25_6, Try.f25, go_sem, ↓reduceIte, Nat.reduceAdd, Nat.reduceSub, Nat.reduceMul, Nat.reduceEqDiff, Nat.reduceLT, Nat.reduceLeDiff, Int.reduceToNat, Int.reduceLE, Int.reduceLT, Int.reduceEq, Int.reduceNeg, reduceCtorEq]
  refine ⟨fun c2 => ⟨⟨by kernel_rfl, by kernel_rfl⟩, ⟨by omega, by simpa using c2⟩, ⟨by omega, by simpa using c2⟩, fun c3 => ?_, fun c3 => ?_⟩, fun c2 => ?_⟩
  · simp only [decide_eq_true_eq] at c2
    rw [sameB, allU_false (p := fun i => same1 (a i) (b i)) (i := i) (by omega) (by cases hc : same1 (a i) (b i) with | false => rfl | true => simp [same1] at hc; simp [hc] at c3)]; simp
  · simp only [decide_eq_true_eq] at c2
    rw [wrap_id (by omega) (by omega)]
    refine ⟨⟨i + 1, by omega, fun k hk => ?_⟩, by simp only []; omega, by (apply sub_of <;> simp only [go_sem, ↓reduceIte, Nat.reduceAdd, Nat.reduceSub, Nat.reduceMul, Nat.reduceEqDiff, Nat.reduceLT, Nat.reduceLeDiff, Int.reduceToNat, Int.reduceLE, Int.reduceLT, Int.reduceEq, Int.reduceNeg, reduceCtorEq] <;> (try simp [catF]))⟩
    by_cases e : k = i
    · subst e; simpa [same1] using c3
    · exact h2 k (by omega)
  · simp only [decide_eq_false_iff_not] at c2
    have e : i = n := by omega
    subst e
    have : allU (fun i => same1 (a i) (b i)) i = true := allU_iff.2 h2
    simp [sameB, this]
def intsB (n m : Nat) (a b : Nat → Nat → Int) : Bool := decide (n = m) && allU (fun i => decide (a i 0 = b i 0)) n
def intsBase : BaseF := fun args => match args with
  | [.row n sz_a f_a, .row m sz_b f_b] => some ((sz_a = 1 ∧ IntR n 1 f_a) ∧ (sz_b = 1 ∧ IntR m 1 f_b) ∧ (n ≤ 1000000), .bool (intsB n m (fun i j => iv (f_a i j)) (fun i j => iv (f_b i j))))
  | _ => none
theorem ints_eq (n : Nat) (a : Nat → Nat → Int) (m : Nat) (b : Nat → Nat → Int) : intsBase [.row n 1 (fun i j => .int .i64 (a i j)), .row m 1 (fun i j => .int .i64 (b i j))] = some ((1 = 1 ∧ IntR n 1 (fun i j => .int .i64 (a i j))) ∧ (1 = 1 ∧ IntR m 1 (fun i j => .int .i64 (b i j))) ∧ (n ≤ 1000000), .bool (intsB n m a b)) := rfl
theorem ints_base : Base Try.prog 31 intsBase := by
  intro args p v hq hp
  unfold intsBase at hq
  split at hq
  rotate_left
  · cases hq
  rename_i n sz_a f_a m sz_b f_b
  cases hq
  obtain ⟨⟨rfl, i_a⟩, ⟨rfl, i_b⟩, pre⟩ := hp
  refine base_of (C := cx [] [] [] [(31, 6, p31_6)] none) (cx_ok trivial trivial) rfl (g := 31) (fn := Try.f31)
    (args' := [.row n 1 (rowF .i64 (fun i j => iv (f_a i j))), .row m 1 (rowF .i64 (fun i j => iv (f_b i j)))]) (fn_31) rfl 1000 (by simp only [BdL, Bd, and_self, and_true, true_and]; exact ⟨fun i j hi hj => by rw [i_a i j hi hj]; trivial, fun i j hi hj => by rw [i_b i j hi hj]; trivial⟩) ⟨SameD.int i_a, SameD.int i_b, trivial⟩ ?_
  generalize (fun i j => iv (f_a i j)) = a at *
  generalize (fun i j => iv (f_b i j)) = b at *
  simp only [rowF_eq]
  simp only [p31_6, Try.f31, go_sem, ↓reduceIte, Nat.reduceAdd, Nat.reduceSub, Nat.reduceMul, Nat.reduceEqDiff, Nat.reduceLT, Nat.reduceLeDiff, Int.reduceToNat, Int.reduceLE, Int.reduceLT, Int.reduceEq, Int.reduceNeg, reduceCtorEq]
  refine ⟨fun c1 => ?_, fun c1 => ?_⟩
  · simp [intsB]; simp at c1; intro h; omega
  simp at c1
  have hnm : n = m := by omega
  subst hnm
  refine loop_of { i : Nat // i ≤ n ∧ ∀ k, k < i → decide (a k 0 = b k 0) = true }
    (fun i => [(5, .int .i64 (i.1 : Int)), (1, .row n 1 fun i j => .int .i64 (b i j)), (0, .row n 1 fun i j => .int .i64 (a i j))]) (fun _ => ⟨[], []⟩) (fun i => n - i.1) (fun _ => ⟨rfl, rfl⟩) ⟨0, by omega, by omega⟩ (by (apply sub_of <;> simp only [go_sem, ↓reduceIte, Nat.reduceAdd, Nat.reduceSub, Nat.reduceMul, Nat.reduceEqDiff, Nat.reduceLT, Nat.reduceLeDiff, Int.reduceToNat, Int.reduceLE, Int.reduceLT, Int.reduceEq, Int.reduceNeg, reduceCtorEq] <;> (try simp [catF]))) ?_
  rintro ⟨i, h1, h2⟩
  simp only [p31_6, Try.f31, go_sem, ↓reduceIte, Nat.reduceAdd, Nat.reduceSub, Nat.reduceMul, Nat.reduceEqDiff, Nat.reduceLT, Nat.reduceLeDiff, Int.reduceToNat, Int.reduceLE, Int.reduceLT, Int.reduceEq, Int.reduceNeg, reduceCtorEq]
  refine ⟨fun c2 => ⟨⟨by kernel_rfl, by kernel_rfl⟩, ⟨by omega, by simpa using c2⟩, ⟨by omega, by simpa using c2⟩, fun c3 => ?_, fun c3 => ?_⟩, fun c2 => ?_⟩
  · simp only [decide_eq_true_eq] at c2
    rw [intsB, allU_false (p := fun i => decide (a i 0 = b i 0)) (i := i) (by omega) (by simpa using c3)]; simp
  · simp only [decide_eq_true_eq] at c2
    rw [wrap_id (by omega) (by omega)]
    refine ⟨⟨i + 1, by omega, fun k hk => ?_⟩, by simp only []; omega, by (apply sub_of <;> simp only [go_sem, ↓reduceIte, Nat.reduceAdd, Nat.reduceSub, Nat.reduceMul, Nat.reduceEqDiff, Nat.reduceLT, Nat.reduceLeDiff, Int.reduceToNat, Int.reduceLE, Int.reduceLT, Int.reduceEq, Int.reduceNeg, reduceCtorEq] <;> (try simp [catF]))⟩
    by_cases e : k = i
    · subst e; simpa using c3
    · exact h2 k (by omega)
  · simp only [decide_eq_false_iff_not] at c2
    have e : i = n := by omega
    subst e
    have : allU (fun i => decide (a i 0 = b i 0)) i = true := allU_iff.2 h2
    simp [intsB, this]
end Go.Eng
end

/- The deferred function of play. -/
section
namespace Go.Eng
open Go Go.RowKit Go.Proofs
set_option maxRecDepth 100000
set_option maxHeartbeats 4000000
attribute [local irreducible] OwnT DefS
theorem setB_last : ∀ (l : List Blk) (a b : Blk), setB (snocB l a) (lenB l) b = snocB l b
  | [], _, _ => rfl
  | x :: l, a, b => by simp [setB, snocB, lenB, setB_last l a b]
theorem def68_none (h : HS) (e : Nat) : DefS Try.prog 68 [.ptr e 0] none h (fun p' h' => p' = none ∧ h' = h) := by
  refine defS_of_run (C := cx [] [] [] [] (some [])) (cx_ok trivial trivial) (g := 68) (fn := Try.f68) fn_68 rfl rfl rfl 1000 1000 ?_
  simp only [Try.f68, go_sem, ↓reduceIte, Nat.reduceAdd, Nat.reduceSub, Nat.reduceMul, Nat.reduceEqDiff, Nat.reduceLT, Nat.reduceLeDiff, Int.reduceToNat, Int.reduceLE, Int.reduceLT, Int.reduceEq, Int.reduceNeg, reduceCtorEq]
theorem def68_some (h : HS) (e : Nat) (m k : Int) (he : getB h.blks e = .live 26 [.int .i64 k]) : DefS Try.prog 68 [.ptr e 0] (some (.iface 109 (.agg [.int .i64 m]))) h (fun p' h' => p' = none ∧ h' = { h with blks := setB (snocB h.blks (.live 109 [.int .i64 m])) e (.live 26 [.int .i64 m]) }) := by
  have hlt := getB_lt he
  have ha : ∀ b, getB (snocB h.blks b) (lenB h.blks) = b := fun b => by simp [getB_snoc]
  have hb : ∀ b, getB (snocB h.blks b) e = .live 26 [.int .i64 k] := fun b => by rw [getB_snoc, if_neg (by omega), he]
  refine defS_of_run (C := cx [] [] [] [] (some [])) (cx_ok trivial trivial) (g := 68) (fn := Try.f68) fn_68 rfl rfl rfl 1000 1000 ?_
  simp only [Try.f68, he, ha, hb, setB_last, go_sem, ↓reduceIte, Nat.reduceAdd, Nat.reduceSub, Nat.reduceMul, Nat.reduceEqDiff, Nat.reduceLT, Nat.reduceLeDiff, Int.reduceToNat, Int.reduceLE, Int.reduceLT, Int.reduceEq, Int.reduceNeg, reduceCtorEq]
end Go.Eng
end

/- rink.play: the program's. -/
section
namespace Go.Eng
open Go Go.RowKit Go.Proofs
set_option maxRecDepth 100000
set_option maxHeartbeats 4000000
attribute [local irreducible] OwnT DefS
/-- What rink.play does, where it is called from P. -/
def plPK (n m ver : Nat) (x : PSt) (l : Nat → Nat → Int)  (o : Out) (h' : HS) : Prop :=
  match evRun (n : Int) l m 0 x with
  | .inr y => o = .ret (.tup [.int .i64 m, .int .i64 0]) ∧ h' = ⟨[.live 22 [.vec 0 0], .live 44 [.int .i64 0, .int .i64 0, .int .i64 0, .int .i64 0, .int .i64 0, .int .i64 0], .live 96 [.vec 1 ver, .int .i64 (y.s 0), .int .i64 (y.s 1), .int .i64 (y.s 2), .int .i64 (y.s 3), .int .i64 (y.s 4), .int .i64 (y.s 5)]], [.live 0 37 4 0 fun _ _ => .any, .live ver 93 4 n fun i j => .int .i64 (y.z i j)]⟩
  | .inl (i, e) => o = .ret (.tup [.int .i64 i, .int .i64 e]) ∧ h' = ⟨[.live 22 [.vec 0 0], .live 44 [.int .i64 0, .int .i64 0, .int .i64 0, .int .i64 0, .int .i64 0, .int .i64 0], .dead], [.live 0 37 4 0 fun _ _ => .any, .dead]⟩
def plPJ (n m ver : Nat) (x : PSt) (l : Nat → Nat → Int)  (o : Out) (h' : HS) : Prop :=
  match evRun (n : Int) l m 0 x with
  | .inr y => o = .ret (.tup [.int .i64 m, .int .i64 0]) ∧ ∃ tr : List Blk, h' = ⟨.live 22 [.vec 0 0] :: .live 44 [.int .i64 0, .int .i64 0, .int .i64 0, .int .i64 0, .int .i64 0, .int .i64 0] :: .live 96 [.vec 1 ver, .int .i64 (y.s 0), .int .i64 (y.s 1), .int .i64 (y.s 2), .int .i64 (y.s 3), .int .i64 (y.s 4), .int .i64 (y.s 5)] :: tr, [.live 0 37 4 0 fun _ _ => .any, .live ver 93 4 n fun i j => .int .i64 (y.z i j)]⟩
  | .inl (i, e) => o = .ret (.tup [.int .i64 i, .int .i64 e]) ∧ ∃ (c : List SV) (f : Nat → Nat → SV) (tr : List Blk), h' = ⟨.live 22 [.vec 0 0] :: .live 44 [.int .i64 0, .int .i64 0, .int .i64 0, .int .i64 0, .int .i64 0, .int .i64 0] :: .live 96 c :: tr, [.live 0 37 4 0 fun _ _ => .any, .live ver 93 4 n f]⟩
theorem plP (n m ver : Nat) (x : PSt) (l : Nat → Nat → Int)  (hn : 1 ≤ n ∧ n ≤ 24) (hm : m ≤ 256) (hx : AllOk n x) (b : Int) (hb : 0 ≤ b ∧ b ≤ 100000000000) (hs : SumB b x) :
    CallsS Try.prog 52 [.ptr 2 0, .row m 5 (fun i j => .int .i64 (l i j))] ⟨[.live 22 [.vec 0 0], .live 44 [.int .i64 0, .int .i64 0, .int .i64 0, .int .i64 0, .int .i64 0, .int .i64 0], .live 96 [.vec 1 ver, .int .i64 (x.s 0), .int .i64 (x.s 1), .int .i64 (x.s 2), .int .i64 (x.s 3), .int .i64 (x.s 4), .int .i64 (x.s 5)]], [.live 0 37 4 0 fun _ _ => .any, .live ver 93 4 n fun i j => .int .i64 (x.z i j)]⟩ (plPK n m ver x l ) := by
  refine calls_trim (K := plPJ n m ver x l ) (calls_of_defer (C := cx [] [] [(39, inBase), (38, validBase), (44, lessBase), (45, moreBase), (90, takenBase)] [(52, 11, p52_11), (71, 1, p71_1), (81, 1, p81_1), (81, 2, p81_2), (82, 1, p82_1), (83, 1, p83_1), (83, 2, p83_2), (84, 1, p84_1), (85, 1, p85_1), (85, 2, p85_2)] (some [4, 5])) (cx_ok trivial ⟨in2_base, valid_base, less_base, more_base, taken_base, trivial⟩) (g := 52) (fn := Try.f52) fn_52 rfl rfl 1000 1000 ?_) ?_
  rotate_left
  · intro o h' hk
    unfold plPJ at hk
    unfold plPK
    split at hk
    · rename_i y hy
      obtain ⟨rfl, tr, rfl⟩ := hk
      exact ⟨_, _, _, ⟨rfl, ⟨rfl, rfl⟩⟩, by constructor <;> simp only [go_sem, ↓reduceIte, Nat.reduceAdd, Nat.reduceSub, Nat.reduceMul, Nat.reduceEqDiff, Nat.reduceLT, Nat.reduceLeDiff, Int.reduceToNat, Int.reduceLE, Int.reduceLT, Int.reduceEq, Int.reduceNeg, reduceCtorEq] <;> (try simp), by simp [lenB], by simp [lenV]⟩
    · rename_i i e hy
      obtain ⟨rfl, c, f, tr, rfl⟩ := hk
      exact ⟨_, _, _, ⟨rfl, ⟨rfl, rfl⟩⟩, by constructor <;> simp only [go_sem, ↓reduceIte, Nat.reduceAdd, Nat.reduceSub, Nat.reduceMul, Nat.reduceEqDiff, Nat.reduceLT, Nat.reduceLeDiff, Int.reduceToNat, Int.reduceLE, Int.reduceLT, Int.reduceEq, Int.reduceNeg, reduceCtorEq] <;> (try simp), by simp [lenB], by simp [lenV]⟩
  · simp only [in_eq, valid_eq, less_eq, more_eq, taken_eq, Try.f52, Try.f69, Try.f70, Try.f71, Try.f53, Try.f72, Try.f81, Try.f82, Try.f83, Try.f84, Try.f85, Try.f86, p52_11, p71_1, p81_1, p81_2, p82_1, p83_1, p83_2, p84_1, p85_1, p85_2, go_sem, ↓reduceIte, Nat.reduceAdd, Nat.reduceSub, Nat.reduceMul, Nat.reduceEqDiff, Nat.reduceLT, Nat.reduceLeDiff, Int.reduceToNat, Int.reduceLE, Int.reduceLT, Int.reduceEq, Int.reduceNeg, reduceCtorEq]
    refine loop_of { q : Nat × PSt // q.1 ≤ m ∧ AllOk n q.2 ∧ SumB (b + 480000 * q.1) q.2 ∧ evRun (n : Int) l (m - q.1) q.1 q.2 = evRun (n : Int) l m 0 x }
      (fun q => [(15, .int .i64 (q.1.1 : Int)), (14, .int .i64 m), (13, .row m 5 fun i j => .int .i64 (l i j)), (6, .ptr 6 0), (5, .ptr 3 0), (4, .int .i64 (q.1.1 : Int)), (0, .ptr 2 0)])
      (fun q => ⟨[.live 22 [.vec 0 0], .live 44 [.int .i64 0, .int .i64 0, .int .i64 0, .int .i64 0, .int .i64 0, .int .i64 0], .live 96 [.vec 1 ver, .int .i64 (q.1.2.s 0), .int .i64 (q.1.2.s 1), .int .i64 (q.1.2.s 2), .int .i64 (q.1.2.s 3), .int .i64 (q.1.2.s 4), .int .i64 (q.1.2.s 5)], .live 26 [.int .i64 0], .live 85 [.ptr 2 0], .live 112 [.func 81 [.ptr 4 0], .func 82 [.ptr 4 0], .func 84 [.ptr 4 0], .func 85 [], .func 86 []], .live 112 [.func 81 [.ptr 4 0], .func 82 [.ptr 4 0], .func 84 [.ptr 4 0], .func 85 [], .func 86 []]], [.live 0 37 4 0 fun _ _ => .any, .live ver 93 4 n fun i j => .int .i64 (q.1.2.z i j)]⟩)
      (fun q => m - q.1.1) (fun _ => ⟨rfl, rfl⟩) ⟨(0, x), by omega, hx, by simpa using hs, rfl⟩ (by (apply sub_of <;> simp only [go_sem, ↓reduceIte, Nat.reduceAdd, Nat.reduceSub, Nat.reduceMul, Nat.reduceEqDiff, Nat.reduceLT, Nat.reduceLeDiff, Int.reduceToNat, Int.reduceLE, Int.reduceLT, Int.reduceEq, Int.reduceNeg, reduceCtorEq] <;> (try simp [catF]))) ?_
    rintro ⟨⟨i, y⟩, hi, hok, hsum, hrun⟩
    simp only [] at hi hok hsum hrun
    simp only [in_eq, valid_eq, less_eq, more_eq, taken_eq, Try.f52, Try.f69, Try.f70, Try.f71, Try.f53, Try.f72, Try.f81, Try.f82, Try.f83, Try.f84, Try.f85, Try.f86, p52_11, p71_1, p81_1, p81_2, p82_1, p83_1, p83_2, p84_1, p85_1, p85_2, go_sem, ↓reduceIte, Nat.reduceAdd, Nat.reduceSub, Nat.reduceMul, Nat.reduceEqDiff, Nat.reduceLT, Nat.reduceLeDiff, Int.reduceToNat, Int.reduceLE, Int.reduceLT, Int.reduceEq, Int.reduceNeg, reduceCtorEq]
    have hwn : IntKind.i64.wrap ((n : Int) - 1) = (n : Int) - 1 := wrap_id (by omega) (by omega)
    simp only [hwn]
    repeat' (first | refine And.intro ?_ ?_ | intro _)
    all_goals try (first | (show planOk _ _ = true; kernel_rfl) | (show keepOk _ _ = true; kernel_rfl) | trivial)
    all_goals try (simp only [decide_eq_true_eq, decide_eq_false_iff_not, Bool.not_eq_true', Bool.not_eq_false'] at *; omega)
    all_goals simp only [decide_eq_true_eq, decide_eq_false_iff_not, Bool.not_eq_true', Bool.not_eq_false', ← Bool.not_eq_true, in3_iff, sp3_iff, not_and, Int.not_le] at *
    all_goals try omega
    all_goals first
      | (have hf : ¬ (evOk (n : Int) (l i) = true) := by
           intro hc
           have h1 := evOk_iff.1 hc
           unfold toOf EvB at h1
           split at h1 <;> omega
         refine defS_mono (def68_some _ 3 1 0 rfl) ?_
         rintro p' h' ⟨rfl, rfl⟩
         simp only [go_sem, ↓reduceIte, Nat.reduceAdd, Nat.reduceSub, Nat.reduceMul, Nat.reduceEqDiff, Nat.reduceLT, Nat.reduceLeDiff, Int.reduceToNat, Int.reduceLE, Int.reduceLT, Int.reduceEq, Int.reduceNeg, reduceCtorEq]
         have e1 : evRun (n : Int) l m 0 x = .inl (i, 1) := by
           rw [← hrun, evRun_cons (by omega), if_neg hf]
         unfold plPJ
         rw [e1]
         exact ⟨rfl, _, _, _, rfl⟩)
      | (refine defS_mono (def68_none _ 3) ?_
         rintro p' h' ⟨rfl, rfl⟩
         simp only [go_sem, ↓reduceIte, Nat.reduceAdd, Nat.reduceSub, Nat.reduceMul, Nat.reduceEqDiff, Nat.reduceLT, Nat.reduceLeDiff, Int.reduceToNat, Int.reduceLE, Int.reduceLT, Int.reduceEq, Int.reduceNeg, reduceCtorEq]
         have e0 : m - i = 0 := by omega
         have e1 : evRun (n : Int) l m 0 x = .inr y := by rw [← hrun, e0]; rfl
         have e2 : i = m := by omega
         subst e2
         unfold plPJ
         rw [e1]
         exact ⟨rfl, _, rfl⟩)
      | skip
    all_goals
      have hev : evOk (n : Int) (l i) = true := by
        refine evOk_iff.2 ?_
        unfold toOf EvB
        split <;> omega
      obtain ⟨⟨a1, a2, a3⟩, hEv⟩ := evOk_iff.1 hev
      have hfr : ((l i 1).toNat : Int) = l i 1 := by omega
      have hto : toOf (l i) = if l i 0 = 3 then l i 1 else l i 2 := rfl
      refine loop_ofH { r : Nat × PSt // (l i 1).toNat ≤ r.1 ∧ (r.1 : Int) ≤ toOf (l i) + 1 ∧ AllOk n r.2 ∧ SumB (b + 480000 * i + 20000 * (r.1 - l i 1)) r.2 ∧ zRun (l i) (toOf (l i) + 1 - r.1).toNat r.1 r.2 = zRun (l i) (toOf (l i) - l i 1 + 1).toNat (l i 1).toNat y }
        (fun r => [(5, .int .i64 (r.1.1 : Int)), (3, .ptr 9 0), (2, .ptr 11 0), (1, .ptr 10 0), (0, .yield 12)])
        (fun h r => ⟨[.live 22 [.vec 0 0], .live 44 [.int .i64 0, .int .i64 0, .int .i64 0, .int .i64 0, .int .i64 0, .int .i64 0], .live 96 [.vec 1 ver, .int .i64 (r.1.2.s 0), .int .i64 (r.1.2.s 1), .int .i64 (r.1.2.s 2), .int .i64 (r.1.2.s 3), .int .i64 (r.1.2.s 4), .int .i64 (r.1.2.s 5)], .live 26 [.int .i64 0], .live 85 [.ptr 2 0], .live 112 [.func 81 [.ptr 4 0], .func 82 [.ptr 4 0], .func 84 [.ptr 4 0], .func 85 [], .func 86 []], .live 112 [.func 81 [.ptr 4 0], .func 82 [.ptr 4 0], .func 84 [.ptr 4 0], .func 85 [], .func 86 []], .live 41 [.int .i64 (l i 0), .int .i64 (l i 1), .int .i64 (toOf (l i)), .int .i64 (l i 3), .int .i64 (l i 4)], .dead, .live 85 [.ptr 2 0], .live 3 [.int .i64 (l i 1)], .live 3 [.int .i64 (toOf (l i))], getB h.blks 12], [.live 0 37 4 0 fun _ _ => .any, .live ver 93 4 n fun i j => .int .i64 (r.1.2.z i j)]⟩)
        (fun r => (toOf (l i) + 1 - r.1.1).toNat) (fun _ => ⟨rfl, rfl⟩) ⟨((l i 1).toNat, y), by omega, by omega, hok, by simpa [hfr] using hsum, by rw [hfr]; congr 1; omega⟩ (by apply sub_of <;> simp only [go_sem, ↓reduceIte, Nat.reduceAdd, Nat.reduceSub, Nat.reduceMul, Nat.reduceEqDiff, Nat.reduceLT, Nat.reduceLeDiff, Int.reduceToNat, Int.reduceLE, Int.reduceLT, Int.reduceEq, Int.reduceNeg, reduceCtorEq] <;> (try simp [hto, hfr, *]) <;> (try (refine bd_setL ?_; simp only [go_sem, ↓reduceIte, Nat.reduceAdd, Nat.reduceSub, Nat.reduceMul, Nat.reduceEqDiff, Nat.reduceLT, Nat.reduceLeDiff, Int.reduceToNat, Int.reduceLE, Int.reduceLT, Int.reduceEq, Int.reduceNeg, reduceCtorEq]; try simp))) ?_
      rintro ⟨⟨k, w⟩, hk1, hk2, hwok, hwsum, hwrun⟩
      simp only [] at hk1 hk2 hwok hwsum hwrun
      have hkind : l i 0 = 0 ∨ l i 0 = 1 ∨ l i 0 = 2 ∨ l i 0 = 3 ∨ l i 0 = 4 := by omega
      rcases hkind with hk | hk | hk | hk | hk <;> (try (exfalso; omega))
    all_goals
      simp only [hk, in_eq, valid_eq, less_eq, more_eq, taken_eq, Try.f52, Try.f69, Try.f70, Try.f71, Try.f53, Try.f72, Try.f81, Try.f82, Try.f83, Try.f84, Try.f85, Try.f86, p52_11, p71_1, p81_1, p81_2, p82_1, p83_1, p83_2, p84_1, p85_1, p85_2, go_sem, ↓reduceIte, Nat.reduceAdd, Nat.reduceSub, Nat.reduceMul, Nat.reduceEqDiff, Nat.reduceLT, Nat.reduceLeDiff, Int.reduceToNat, Int.reduceLE, Int.reduceLT, Int.reduceEq, Int.reduceNeg, reduceCtorEq]
      have hev2 : evRun (n : Int) l (m - i) i y = _ := evRun_cons (by omega)
      rw [if_pos hev] at hev2
      refine ⟨fun d1 => ?_, fun d1 => ?_⟩
      · simp only [decide_eq_true_eq] at d1
        have hkn : k < n := by omega
        have hz := hwok k hkn
        have hzr := zRun_cons (e := l i) (c := (toOf (l i) + 1 - (k : Int)).toNat) (k := k) (x := w) (by omega)
        have hzz := okZ_iff.1 hz
        have hE1 := hEv.2
        have hst : ∀ j, (stepZ (l i) k w).s j = w.s j + dS (l i) (w.z k) j := fun _ => rfl
        have hwv : ∀ v j, 0 ≤ v → v ≤ 20000 → IntKind.i64.wrap (w.s j + v) = w.s j + v := fun v j h1 h2 => by
          have := hwsum j
          exact wrap_id (by omega) (by omega)
        have hw2 : IntKind.i64.wrap ((k : Int) + 1) = ((k + 1 : Nat) : Int) := by rw [wrap_id (by omega) (by omega)]; omega
        repeat' (first | refine And.intro ?_ ?_ | intro _)
        all_goals try (first | (show planOk _ _ = true; kernel_rfl) | (show keepOk _ _ = true; kernel_rfl) | trivial)
        all_goals try omega
        all_goals try (rename_i f1; simp only [Bool.not_eq_true', Bool.not_eq_false', decide_eq_true_eq, decide_eq_false_iff_not] at f1)
        all_goals first
          | (have hze : zErr (l i) (w.z k) = 6 := by
               unfold zErr dErr
               rw [hk]
               try rw [wrap_id (by omega) (by omega)] at f1
               simp
               omega
             refine defS_mono (def68_some _ 3 6 0 rfl) ?_
             rintro p' h' ⟨rfl, rfl⟩
             simp only [go_sem, ↓reduceIte, Nat.reduceAdd, Nat.reduceSub, Nat.reduceMul, Nat.reduceEqDiff, Nat.reduceLT, Nat.reduceLeDiff, Int.reduceToNat, Int.reduceLE, Int.reduceLT, Int.reduceEq, Int.reduceNeg, reduceCtorEq]
             have e1 : evRun (n : Int) l m 0 x = .inl (i, 6) := by
               rw [← hrun, hev2, ← hwrun, hzr, hze]; rfl
             unfold plPJ
             rw [e1]
             exact ⟨rfl, _, _, _, rfl⟩)
          | (have hze : zErr (l i) (w.z k) = 12 := by
               unfold zErr dErr
               rw [hk]
               try rw [wrap_id (by omega) (by omega)] at f1
               simp
               omega
             refine defS_mono (def68_some _ 3 12 0 rfl) ?_
             rintro p' h' ⟨rfl, rfl⟩
             simp only [go_sem, ↓reduceIte, Nat.reduceAdd, Nat.reduceSub, Nat.reduceMul, Nat.reduceEqDiff, Nat.reduceLT, Nat.reduceLeDiff, Int.reduceToNat, Int.reduceLE, Int.reduceLT, Int.reduceEq, Int.reduceNeg, reduceCtorEq]
             have e1 : evRun (n : Int) l m 0 x = .inl (i, 12) := by
               rw [← hrun, hev2, ← hwrun, hzr, hze]; rfl
             unfold plPJ
             rw [e1]
             exact ⟨rfl, _, _, _, rfl⟩)
          | (have h0 : zErr (l i) (w.z k) = 0 := by
               unfold zErr dErr
               rw [hk]
               try rw [wrap_id (by omega) (by omega)] at f1
               simp
               try omega
             rw [if_pos h0] at hzr
             refine ⟨⟨(k + 1, stepZ (l i) k w), by simp only []; omega, by simp only []; omega, step_ok hEv hwok hkn h0, ?_, ?_⟩, by simp only []; omega, ?_⟩
             · have := step_sum hEv hwok hkn hwsum
               intro j; have := this j; simp only []; omega
             · simp only []; rw [← hwrun, hzr]; congr 1; omega
             · apply sub_of <;> simp only [hw2, hst, dS, hk, go_sem, ↓reduceIte, Nat.reduceAdd, Nat.reduceSub, Nat.reduceMul, Nat.reduceEqDiff, Nat.reduceLT, Nat.reduceLeDiff, Int.reduceToNat, Int.reduceLE, Int.reduceLT, Int.reduceEq, Int.reduceNeg, reduceCtorEq] <;> (try simp)
               all_goals first
                 | exact ⟨hwv _ _ (by omega) (by omega), hwv _ _ (by omega) (by omega)⟩
                 | (refine bd_setL ?_
                    simp only [go_sem, ↓reduceIte, Nat.reduceAdd, Nat.reduceSub, Nat.reduceMul, Nat.reduceEqDiff, Nat.reduceLT, Nat.reduceLeDiff, Int.reduceToNat, Int.reduceLE, Int.reduceLT, Int.reduceEq, Int.reduceNeg, reduceCtorEq]
                    simp; done)
                 | (intro a c ha hc
                    by_cases hak : a = k
                    · subst hak
                      have hc4 : c = 0 ∨ c = 1 ∨ c = 2 ∨ c = 3 := by omega
                      rcases hc4 with rfl | rfl | rfl | rfl <;> simp [stepZ, dZ, dA, dB, hk, nth] <;> (try (rw [wrap_id (by omega) (by omega)]))
                    · simp [stepZ, hak]))
      · simp only [decide_eq_false_iff_not] at d1
        have e0 : (toOf (l i) + 1 - (k : Int)).toNat = 0 := by omega
        rw [e0, zRun] at hwrun
        rw [← hwrun] at hev2
        have hw2 : IntKind.i64.wrap ((i : Int) + 1) = ((i + 1 : Nat) : Int) := by rw [wrap_id (by omega) (by omega)]; omega
        refine ⟨⟨(i + 1, w), by simp only []; omega, hwok, fun j => by have := hwsum j; simp only []; omega, ?_⟩, by simp only []; omega, ?_⟩
        · simp only []; rw [← hrun, hev2]; congr 1
        · apply sub_of <;> simp only [hw2, go_sem, ↓reduceIte, Nat.reduceAdd, Nat.reduceSub, Nat.reduceMul, Nat.reduceEqDiff, Nat.reduceLT, Nat.reduceLeDiff, Int.reduceToNat, Int.reduceLE, Int.reduceLT, Int.reduceEq, Int.reduceNeg, reduceCtorEq] <;> (try simp)
end Go.Eng
end

/- Play: the program's. -/
section
namespace Go.Eng
open Go Go.RowKit Go.Proofs
set_option maxRecDepth 100000
set_option maxHeartbeats 4000000
attribute [local irreducible] OwnT DefS
theorem zRun_err {e : Nat → Int} : ∀ {c k : Nat} {x : PSt} {q : Int}, zRun e c k x = .inl q → q ≠ 0
  | 0, k, x, q, h => by simp [zRun] at h
  | c + 1, k, x, q, h => by
    simp only [zRun] at h
    split at h
    · exact zRun_err h
    · rename_i h0; cases h; exact h0
theorem evRun_err {n : Int} {l : Nat → Nat → Int} : ∀ {c i : Nat} {x : PSt} {j : Nat} {q : Int}, evRun n l c i x = .inl (j, q) → q ≠ 0
  | 0, i, x, j, q, h => by simp [evRun] at h
  | c + 1, i, x, j, q, h => by
    simp only [evRun] at h
    split at h
    · split at h
      · rename_i e he; cases h; exact zRun_err he
      · exact evRun_err h
    · cases h; decide
theorem row_snoc {k : Nat} {z : Nat → Nat → Int} {a b : Nat} (ha : a < k + 1) (hb : b < 4) : catF k (fun i j => SV.int .i64 (z i j)) (oneF [.int .i64 (z k 0), .int .i64 (z k 1), .int .i64 (z k 2), .int .i64 (z k 3)]) a b = .int .i64 (z a b) := by
  unfold catF oneF
  split
  · rfl
  · have : a = k := by omega
    subst this
    have hc4 : b = 0 ∨ b = 1 ∨ b = 2 ∨ b = 3 := by omega
    rcases hc4 with rfl | rfl | rfl | rfl <;> rfl
def playBase : BaseF := fun args => match args with
  | [.row n sz_z f_z, .row m sz_l f_l] => some ((sz_z = 4 ∧ IntR n 4 f_z) ∧ (sz_l = 5 ∧ IntR m 5 f_l), tplayR n m (fun i j => iv (f_z i j)) (fun i j => iv (f_l i j)))
  | _ => none
theorem play_eq (n : Nat) (z : Nat → Nat → Int) (m : Nat) (l : Nat → Nat → Int) : playBase [.row n 4 (fun i j => .int .i64 (z i j)), .row m 5 (fun i j => .int .i64 (l i j))] = some ((4 = 4 ∧ IntR n 4 (fun i j => .int .i64 (z i j))) ∧ (5 = 5 ∧ IntR m 5 (fun i j => .int .i64 (l i j))), tplayR n m z l) := rfl
theorem play_base : BaseO Try.prog 19 37 playBase := by
  intro args p v hq hp
  unfold playBase at hq
  split at hq
  rotate_left
  · cases hq
  rename_i n sz_z f_z m sz_l f_l
  cases hq
  obtain ⟨⟨rfl, i_z⟩, ⟨rfl, i_l⟩⟩ := hp
  refine baseO_of (C := cx [52] [] [(37, rinkBase)] [(19, 2, p19_2), (19, 4, p19_4), (19, 8, p19_8), (19, 11, p19_11), (19, 12, p19_12)] none) (cx_ok trivial ⟨isRink_base, trivial⟩) rfl (g := 19) (fn := Try.f19)
    (args' := [.row n 4 (rowF .i64 (fun i j => iv (f_z i j))), .row m 5 (rowF .i64 (fun i j => iv (f_l i j)))]) (fn_19) rfl 1000 (by simp only [BdL, Bd, and_self, and_true, true_and]; exact ⟨fun i j hi hj => by rw [i_z i j hi hj]; trivial, fun i j hi hj => by rw [i_l i j hi hj]; trivial⟩) ⟨SameD.int i_z, SameD.int i_l, trivial⟩ ?_
  generalize (fun i j => iv (f_z i j)) = z
  generalize (fun i j => iv (f_l i j)) = l
  simp only [rowF_eq]
  simp only [rink_eq, p19_2, p19_4, p19_8, p19_11, p19_12, pTup, Try.f51, Try.f53, Try.f72, Try.f19, go_sem, ↓reduceIte, Nat.reduceAdd, Nat.reduceSub, Nat.reduceMul, Nat.reduceEqDiff, Nat.reduceLT, Nat.reduceLeDiff, Int.reduceToNat, Int.reduceLE, Int.reduceLT, Int.reduceEq, Int.reduceNeg, reduceCtorEq]
  refine ⟨fun c1 => ⟨⟨by kernel_rfl, by kernel_rfl⟩, ?_⟩, fun c1 => ⟨fun c2 => ⟨⟨by kernel_rfl, by kernel_rfl⟩, ?_⟩, fun c2 => ?_⟩⟩
  · rw [show tplayR n m z l = pTup (pErr 0 1) by simp at c1; simp [tplayR, playT, c1]]
    simp only [pTup, pErr, go_sem, ↓reduceIte, Nat.reduceAdd, Nat.reduceSub, Nat.reduceMul, Nat.reduceEqDiff, Nat.reduceLT, Nat.reduceLeDiff, Int.reduceToNat, Int.reduceLE, Int.reduceLT, Int.reduceEq, Int.reduceNeg, reduceCtorEq]
    simp
  · rw [show tplayR n m z l = pTup (pErr 0 3) by simp at c1 c2; simp [tplayR, playT, c1, show ¬ m ≤ 256 by omega]]
    simp only [pTup, pErr, go_sem, ↓reduceIte, Nat.reduceAdd, Nat.reduceSub, Nat.reduceMul, Nat.reduceEqDiff, Nat.reduceLT, Nat.reduceLeDiff, Int.reduceToNat, Int.reduceLE, Int.reduceLT, Int.reduceEq, Int.reduceNeg, reduceCtorEq]
    simp
  simp at c1 c2
  have hb := rinkB_iff.1 c1
  have hT : tplayR n m z l = pTup (playO n m z l) := by simp [tplayR, playT, c1, show m ≤ 256 by omega]
  refine loop_of { i : Nat // i ≤ n }
    (fun i => [(8, .int .i64 (i.1 : Int)), (7, .int .i64 (n : Int)), (6, .row n 4 fun i j => .int .i64 (z i j)), (3, .ptr 2 0)])
    (fun i => ⟨[.live 22 [.vec 0 0], .live 44 [.int .i64 0, .int .i64 0, .int .i64 0, .int .i64 0, .int .i64 0, .int .i64 0], .live 96 [.vec 1 i.1, .int .i64 0, .int .i64 0, .int .i64 0, .int .i64 0, .int .i64 0, .int .i64 0]],
       [.live 0 37 4 0 fun _ _ => .any, .live i.1 93 4 i.1 fun i j => .int .i64 (z i j)]⟩) (fun i => n - i.1) (fun _ => ⟨rfl, rfl⟩) ⟨0, by omega⟩ (by (apply sub_of <;> simp only [go_sem, ↓reduceIte, Nat.reduceAdd, Nat.reduceSub, Nat.reduceMul, Nat.reduceEqDiff, Nat.reduceLT, Nat.reduceLeDiff, Int.reduceToNat, Int.reduceLE, Int.reduceLT, Int.reduceEq, Int.reduceNeg, reduceCtorEq] <;> (try simp [catF]))) ?_
  rintro ⟨i, hi⟩
  simp only [rink_eq, p19_2, p19_4, p19_8, p19_11, p19_12, pTup, Try.f51, Try.f53, Try.f72, Try.f19, go_sem, ↓reduceIte, Nat.reduceAdd, Nat.reduceSub, Nat.reduceMul, Nat.reduceEqDiff, Nat.reduceLT, Nat.reduceLeDiff, Int.reduceToNat, Int.reduceLE, Int.reduceLT, Int.reduceEq, Int.reduceNeg, reduceCtorEq]
  refine ⟨fun d1 => ⟨⟨by omega, by simpa using d1⟩, ⟨by simp at d1; omega, by simp at d1; omega⟩, ⟨⟨i + 1, by simp at d1; omega⟩, by simp at d1; simp only []; omega, ?_⟩⟩, fun d1 => ?_⟩
  · simp at d1
    have hw2 : IntKind.i64.wrap ((i : Int) + 1) = ((i + 1 : Nat) : Int) := by rw [wrap_id (by omega) (by omega)]; omega
    apply sub_of <;> simp only [hw2, go_sem, ↓reduceIte, Nat.reduceAdd, Nat.reduceSub, Nat.reduceMul, Nat.reduceEqDiff, Nat.reduceLT, Nat.reduceLeDiff, Int.reduceToNat, Int.reduceLE, Int.reduceLT, Int.reduceEq, Int.reduceNeg, reduceCtorEq] <;> (try simp)
    exact fun a c ha hc => row_snoc ha hc
  · simp at d1
    have e : i = n := by omega
    subst e
    unfold callS
    refine calls_mono ?_ (plP i m i ⟨z, fun _ => 0⟩ l hb.1 (by omega) hb.2 0 (by omega) (fun j => by simp))
    intro o h' hk
    unfold plPK at hk
    split at hk
    · rename_i y hy
      obtain ⟨rfl, rfl⟩ := hk
      simp only [rink_eq, p19_2, p19_4, p19_8, p19_11, p19_12, pTup, Try.f51, Try.f53, Try.f72, Try.f19, go_sem, ↓reduceIte, Nat.reduceAdd, Nat.reduceSub, Nat.reduceMul, Nat.reduceEqDiff, Nat.reduceLT, Nat.reduceLeDiff, Int.reduceToNat, Int.reduceLE, Int.reduceLT, Int.reduceEq, Int.reduceNeg, reduceCtorEq]
      have hy2 : y = ⟨y.z, y.s⟩ := rfl
      rw [hT]
      have hP : playO i m z l = ⟨i, y.z, y.s, m, 0⟩ := by unfold playO; rw [hy]; rfl
      rw [hP]
      have hwn : IntKind.i64.wrap ((i : Int) - 1) = (i : Int) - 1 := wrap_id (by omega) (by omega)
      simp only [hwn]
      refine loop_ofH { k : Nat // k ≤ i } (fun k => [(5, .int .i64 (k.1 : Int)), (3, .ptr 3 0), (2, .ptr 5 0), (1, .ptr 4 0), (0, .yield 6)])
        (fun h k => ⟨[.live 22 [.vec 0 k.1], .live 44 [.int .i64 0, .int .i64 0, .int .i64 0, .int .i64 0, .int .i64 0, .int .i64 0], getB h.blks 2, .live 85 [.ptr 2 0], .live 3 [.int .i64 0], .live 3 [.int .i64 ((i : Int) - 1)], getB h.blks 6], [.live k.1 37 4 k.1 fun i j => .int .i64 (y.z i j), getV h.vecs 1]⟩)
        (fun k => i - k.1) (fun _ => ⟨rfl, rfl⟩) ⟨0, by omega⟩ (by apply sub_of <;> simp only [go_sem, ↓reduceIte, Nat.reduceAdd, Nat.reduceSub, Nat.reduceMul, Nat.reduceEqDiff, Nat.reduceLT, Nat.reduceLeDiff, Int.reduceToNat, Int.reduceLE, Int.reduceLT, Int.reduceEq, Int.reduceNeg, reduceCtorEq] <;> (try simp) <;> (try (refine bd_setL ?_; simp only [go_sem, ↓reduceIte, Nat.reduceAdd, Nat.reduceSub, Nat.reduceMul, Nat.reduceEqDiff, Nat.reduceLT, Nat.reduceLeDiff, Int.reduceToNat, Int.reduceLE, Int.reduceLT, Int.reduceEq, Int.reduceNeg, reduceCtorEq]; try simp))) ?_
      rintro ⟨k, hk⟩
      simp only [rink_eq, p19_2, p19_4, p19_8, p19_11, p19_12, pTup, Try.f51, Try.f53, Try.f72, Try.f19, go_sem, ↓reduceIte, Nat.reduceAdd, Nat.reduceSub, Nat.reduceMul, Nat.reduceEqDiff, Nat.reduceLT, Nat.reduceLeDiff, Int.reduceToNat, Int.reduceLE, Int.reduceLT, Int.reduceEq, Int.reduceNeg, reduceCtorEq]
      have hw2 : IntKind.i64.wrap ((k : Int) + 1) = ((k + 1 : Nat) : Int) := by rw [wrap_id (by omega) (by omega)]; omega
      refine ⟨fun d2 => ?_, fun d2 => ?_⟩
      · simp only [decide_eq_true_eq] at d2
        refine ⟨⟨by omega, by omega⟩, ⟨by kernel_rfl, by kernel_rfl⟩, by omega, by omega, ⟨by omega, by omega⟩, ⟨k + 1, by omega⟩, by simp only []; omega, ?_⟩
        apply sub_of <;> simp only [hw2, go_sem, ↓reduceIte, Nat.reduceAdd, Nat.reduceSub, Nat.reduceMul, Nat.reduceEqDiff, Nat.reduceLT, Nat.reduceLeDiff, Int.reduceToNat, Int.reduceLE, Int.reduceLT, Int.reduceEq, Int.reduceNeg, reduceCtorEq] <;> (try simp) <;> first
          | exact fun a c ha hc => row_snoc ha hc
          | (refine bd_setL ?_; simp only [go_sem, ↓reduceIte, Nat.reduceAdd, Nat.reduceSub, Nat.reduceMul, Nat.reduceEqDiff, Nat.reduceLT, Nat.reduceLeDiff, Int.reduceToNat, Int.reduceLE, Int.reduceLT, Int.reduceEq, Int.reduceNeg, reduceCtorEq]; simp; done)
      · simp only [decide_eq_false_iff_not] at d2
        have e : k = i := by omega
        subst e
        exact ⟨⟨by kernel_rfl, by kernel_rfl⟩, rfl, fun _ _ _ _ => trivial⟩
    · rename_i e k hy
      obtain ⟨rfl, rfl⟩ := hk
      simp only [rink_eq, p19_2, p19_4, p19_8, p19_11, p19_12, pTup, Try.f51, Try.f53, Try.f72, Try.f19, go_sem, ↓reduceIte, Nat.reduceAdd, Nat.reduceSub, Nat.reduceMul, Nat.reduceEqDiff, Nat.reduceLT, Nat.reduceLeDiff, Int.reduceToNat, Int.reduceLE, Int.reduceLT, Int.reduceEq, Int.reduceNeg, reduceCtorEq]
      have hk0 := evRun_err hy
      refine ⟨fun d2 => ⟨⟨by kernel_rfl, by kernel_rfl⟩, ?_⟩, fun d2 => absurd (by simpa using d2) hk0⟩
      rw [hT]
      have hP : playO i m z l = pErr e k := by unfold playO; rw [hy]; rfl
      rw [hP]
      simp only [pTup, pErr, go_sem, ↓reduceIte, Nat.reduceAdd, Nat.reduceSub, Nat.reduceMul, Nat.reduceEqDiff, Nat.reduceLT, Nat.reduceLeDiff, Int.reduceToNat, Int.reduceLE, Int.reduceLT, Int.reduceEq, Int.reduceNeg, reduceCtorEq]
      simp
theorem play_at (n : Nat) (z : Nat → Nat → Int) (m : Nat) (l : Nat → Nat → Int) : playBase [.row n 4 (fun i j => .int .i64 (z i j)), .row m 5 (fun i j => .int .i64 (l i j))] = some ((4 = 4 ∧ IntR n 4 (fun i j => .int .i64 (z i j))) ∧ (5 = 5 ∧ IntR m 5 (fun i j => .int .i64 (l i j))), pTup (playT n m z l)) := rfl
end Go.Eng
end

/- Water's results, part by part. -/
section
namespace Go.Eng
open Go Go.RowKit Go.Proofs
set_option maxRecDepth 100000
set_option maxHeartbeats 4000000
attribute [local irreducible] OwnT DefS
def waterV (n : Nat) (z : Nat → Nat → Int) (wl wh pl ph : Int) (passes : Int) (least most : Int) : Int × Int × Int :=
  if rinkB n z = true ∧ sp3 wl wh 20000 = true ∧ sp3 pl ph 20000 = true then
    if in3 passes 1 100 = true ∧ in3 most 0 20000 = true ∧ in3 least 0 most = true then
      if srch (muchB n passes.toNat (fun i => z i 1) wl pl most) 20001 0 20001 ≤ srch (enoughB n passes.toNat (fun i => z i 0) wh ph least) 20001 0 20001 then (0, 0, 4)
      else ((srch (enoughB n passes.toNat (fun i => z i 0) wh ph least) 20001 0 20001 : Int), (srch (muchB n passes.toNat (fun i => z i 1) wl pl most) 20001 0 20001 : Int) - 1, 0)
    else (0, 0, 2)
  else (0, 0, 1)
def spanT (v : Int × Int × Int) : SV := .tup [.agg [.int .i64 v.1, .int .i64 v.2.1], .int .i64 v.2.2]
theorem waterR_tup (n : Nat) (z : Nat → Nat → Int) (wl wh pl ph passes least most : Int) : waterR n z wl wh pl ph passes least most = spanT (waterV n z wl wh pl ph passes least most) := by
  unfold waterR waterV
  split
  · split
    · simp only []
      split <;> rfl
    · rfl
  · rfl
theorem water_at (n : Nat) (z : Nat → Nat → Int) (wl wh pl ph passes least most : Int) : waterBase [.row n 4 (fun i j => .int .i64 (z i j)), .agg [.int .i64 wl, .int .i64 wh], .agg [.int .i64 pl, .int .i64 ph], .int .i64 passes, .int .i64 least, .int .i64 most] =
    some (4 = 4 ∧ IntR n 4 (fun i j => .int .i64 (z i j)), spanT (waterV n z wl wh pl ph passes least most)) := by
  rw [← waterR_tup]; rfl
theorem rwater_at (n : Nat) (z : Nat → Nat → Int) (wl wh pl ph passes least most : Int) : rwaterBase [.row n 4 (fun i j => .int .i64 (z i j)), .agg [.int .i64 wl, .int .i64 wh], .agg [.int .i64 pl, .int .i64 ph], .int .i64 passes, .int .i64 least, .int .i64 most] =
    some (4 = 4 ∧ IntR n 4 (fun i j => .int .i64 (z i j)), spanT (waterV n z wl wh pl ph passes least most)) := by
  rw [← waterR_tup, waters_same]; rfl
theorem water_gen (n : Nat) (f : Nat → Nat → SV) (wl wh pl ph passes least most : Int) : waterBase [.row n 4 f, .agg [.int .i64 wl, .int .i64 wh], .agg [.int .i64 pl, .int .i64 ph], .int .i64 passes, .int .i64 least, .int .i64 most] =
    some (4 = 4 ∧ IntR n 4 f, spanT (waterV n (fun i j => iv (f i j)) wl wh pl ph passes least most)) := by
  rw [← waterR_tup]; rfl
theorem play_gen (n m : Nat) (f l : Nat → Nat → SV) : playBase [.row n 4 f, .row m 5 l] = some ((4 = 4 ∧ IntR n 4 f) ∧ (5 = 5 ∧ IntR m 5 l), pTup (playT n m (fun i j => iv (f i j)) (fun i j => iv (l i j)))) := rfl
theorem same_gen (n m : Nat) (f l : Nat → Nat → SV) : sameBase [.row n 4 f, .row m 4 l] = some ((4 = 4 ∧ IntR n 4 f) ∧ (4 = 4 ∧ IntR m 4 l) ∧ n ≤ 1000000, .bool (sameB n m (fun i j => iv (f i j)) (fun i j => iv (l i j)))) := rfl
def intRb (n sz : Nat) (f : Nat → Nat → SV) : Bool := allU (fun i => allU (fun j => match f i j with | .int .i64 _ => true | _ => false) sz) n
theorem intR_of {n sz : Nat} {f : Nat → Nat → SV} (h : intRb n sz f = true) : IntR n sz f := by
  intro i j hi hj
  have := allU_iff.1 (allU_iff.1 h i hi) j hj
  revert this
  generalize f i j = x
  intro this
  split at this
  · rfl
  · cases this
theorem spl_t {q : Bool} {A B : Prop} (h : q = true) (ha : A) : spl q A B := ⟨fun _ => ha, fun h' => (by rw [h] at h'; cases h')⟩
theorem spl_f {q : Bool} {A B : Prop} (h : q = false) (hb : B) : spl q A B := ⟨fun h' => (by rw [h] at h'; cases h'), fun _ => hb⟩
def aliveBase : BaseF := fun args => match args with
  | [] => some (True, .bool true)
  | _ => none
theorem alive_eq  : aliveBase [] = some (True, .bool true) := rfl
theorem alive_base : Base Try.prog 13 aliveBase := by
  intro args p v hq hp
  unfold aliveBase at hq
  split at hq
  rotate_left
  · cases hq
  cases hq
  refine base_of (C := cx [] [(19, 37, playBase)] [(14, waterBase), (25, sameBase), (23, spanBase)] [(13, 5, p13_5)] none) (cx_ok ⟨play_base, trivial⟩ ⟨water_base, same_base, span_base, trivial⟩) rfl (g := 13) (fn := Try.f13)
    (args' := []) (fn_13) rfl 1000 (by simp only [BdL, Bd, and_self]) trivial ?_
  simp only [span_eq, p13_5, play_gen, same_gen, water_gen, pTup, spanT, Try.f36, Try.f13, go_sem, ↓reduceIte, Nat.reduceAdd, Nat.reduceSub, Nat.reduceMul, Nat.reduceEqDiff, Nat.reduceLT, Nat.reduceLeDiff, Int.reduceToNat, Int.reduceLE, Int.reduceLT, Int.reduceEq, Int.reduceNeg, reduceCtorEq]
  exact ⟨⟨intR_of (by kernel_rfl), intR_of (by kernel_rfl)⟩, intR_of (by kernel_rfl), ⟨intR_of (by kernel_rfl), of_decide_eq_true (by kernel_rfl)⟩, ⟨by kernel_rfl, by kernel_rfl⟩, spl_t (by kernel_rfl) (spl_t (by kernel_rfl) (spl_t (by kernel_rfl) (spl_t (by kernel_rfl) (spl_t (by kernel_rfl) (congrArg SV.bool (by kernel_rfl))))))⟩
end Go.Eng
end
