/-
  A part of the symbolic machine, of its soundness, and of what functions compute. No condition.
-/
import Derived.Test.YtjkbmnhpbncdcaaK1
set_option linter.unusedSimpArgs false
set_option linter.unusedVariables false
/- clock: events (plain), and contracts that end in a panic. -/
section
namespace Go.Eng
open Go Go.RowKit Go.Proofs
set_option maxRecDepth 100000
set_option maxHeartbeats 4000000
attribute [local irreducible] OwnT DefS
/-- A contract that says less of memory, whatever it ends with. -/
theorem calls_trimP {P : Program} {g : Nat} {args : List SV} {h : HS} {K K' : Out → HS → Prop} (hc : CallsS P g args h K)
    (ht : ∀ o h', K o h' → ∃ x y h'', ((o = .ret x ∧ K' (.ret y) h'') ∨ (o = .pan x ∧ K' (.pan y) h'')) ∧ SubS [x] h' ([y], h'') ∧ (lenB h.blks ≤ lenB h''.blks ∧ lenB h''.blks ≤ lenB h'.blks) ∧ (lenV h.vecs ≤ lenV h''.vecs ∧ lenV h''.vecs ≤ lenV h'.vecs)) : CallsS P g args h K' := by
  intro E w vals hr hd
  refine (hc E w vals hr hd).mono ?_
  rintro e w' ⟨o, h', E', hk, hr', hx, hout⟩
  obtain ⟨x, y, h'', hor, hsub, ⟨hB, hB2⟩, ⟨hV, hV2⟩⟩ := ht o h' hk
  have key : ∀ val, Den E' w' x val → ∃ E2, RelH E2 h'' w' ∧ Ext E w E2 w' ∧ Den E2 w' y val := fun val hv => by
    have hd1 : DenA E' w' [x] #[val] := ⟨rfl, fun i z u hz hu => by
      cases i with
      | zero => simp at hz hu; subst hz hu; exact hv
      | succ i => simp at hz⟩
    obtain ⟨g1, g2⟩ := hsub.go hd1 hr' (lenB h''.blks) (lenV h''.vecs) rfl rfl (by rw [hr'.nb]; exact hB2) (by rw [hr'.nv]; exact hV2)
    exact ⟨_, g2, ⟨hx.os, hx.tape, hx.output, hx.size, by simp only []; rw [hr.nb]; exact hB, by simp only []; rw [hr.nv]; exact hV, hx.rho, hx.val, hx.keep, hx.oth⟩, g1.2 0 y val rfl rfl⟩
  rcases hor with ⟨rfl, hk'⟩ | ⟨rfl, hk'⟩
  · cases e with
    | panicked _ => exact hout.elim
    | outgrown => exact hout.elim
    | returned val =>
      obtain ⟨E2, q1, q2, q3⟩ := key val hout
      exact ⟨.ret y, h'', E2, hk', q1, q2, q3⟩
  · cases e with
    | returned _ => exact hout.elim
    | outgrown => exact hout.elim
    | panicked chain =>
      obtain ⟨val, hc1, hc2⟩ := hout
      obtain ⟨E2, q1, q2, q3⟩ := key val hc2
      exact ⟨.pan y, h'', E2, hk', q1, q2, val, hc1, q3⟩
structure Ev where
  k : Int
  s : Int
  t : Int
  p : Int
deriving DecidableEq
def evS (x : Ev) : SV := .agg [.int .i64 x.k, .int .i64 x.s, .int .i64 x.t, .int .i64 x.p]
def Bo.start (b : Bo) : Bo × Int :=
  if b.run = true then (b, 6) else if b.pl = 1200 then if b.per < 2 then (⟨b.per + 1, 0, true, b.g0, b.g1, b.p0, b.p1, b.m0, b.m1⟩, 0) else (b, 9) else (⟨b.per, b.pl, true, b.g0, b.g1, b.p0, b.p1, b.m0, b.m1⟩, 0)
def Bo.stop (b : Bo) : Bo × Int :=
  if b.run = true then (⟨b.per, b.pl, false, b.g0, b.g1, b.p0, b.p1, b.m0, b.m1⟩, 0) else (b, 6)
/-- What a goal leaves of the other team's penalties. -/
def goalL (l : List Pen) : List Pen :=
  if 0 < nS l ∧ pf l 0 1 = 3 then l.eraseIdx 0 else if nS l = 2 ∧ pf l (secL l) 1 = 3 then l.eraseIdx (secL l) else l
def Bo.goal (b : Bo) (t : Int) : Bo × Int :=
  if b.run = true then
    if t = 0 then (⟨b.per, b.pl, false, b.g0 + 1, b.g1, b.p0, if stren b.p1 ≥ stren b.p0 then b.p1 else goalL b.p1, b.m0, b.m1⟩, 0)
    else (⟨b.per, b.pl, false, b.g0, b.g1 + 1, if stren b.p0 ≥ stren b.p1 then b.p0 else goalL b.p0, b.p1, b.m0, b.m1⟩, 0)
  else (b, 6)
/-- Penalties that are given: behind those there are. -/
def gives (k p : Int) : List Pen := if k = 3 then [⟨p, 3, 120⟩] else if k = 4 then [⟨p, 3, 120⟩, ⟨p, 3, 120⟩] else if k = 5 then [⟨p, 5, 300⟩] else []
def givesM (k p : Int) : List Pen := if k = 6 then [⟨p, 6, 600⟩] else []
def Bo.give (b : Bo) (k t p : Int) : Bo × Int :=
  if b.run = true then (b, 6) else
    if t = 0 then (⟨b.per, b.pl, b.run, b.g0, b.g1, b.p0 ++ gives k p, b.p1, b.m0 ++ givesM k p, b.m1⟩, 0)
    else (⟨b.per, b.pl, b.run, b.g0, b.g1, b.p0, b.p1 ++ gives k p, b.m0, b.m1 ++ givesM k p⟩, 0)
def Bo.deed (b : Bo) (x : Ev) : Bo × Int :=
  if x.k = 0 then b.start else if x.k = 1 then b.stop else if x.k = 2 then b.goal x.t else b.give x.k x.t x.p
/-- How a deed ends. -/
def deedO (r : Bo × Int) : Out := if r.2 = 0 then .ret (.tup []) else .pan (.iface 82 (.agg [.int .i64 r.2]))
theorem deedO_0 {b : Bo} : deedO (b, 0) = .ret (.tup []) := rfl
theorem deedO_e {b : Bo} {e : Int} (h : e ≠ 0) : deedO (b, e) = .pan (.iface 82 (.agg [.int .i64 e])) := by simp [deedO, h]
end Go.Eng
end

/- clock: deeds. -/
section
namespace Go.Eng
open Go Go.RowKit Go.Proofs
set_option maxRecDepth 100000
set_option maxHeartbeats 4000000
attribute [local irreducible] OwnT DefS
theorem deed_trim (r : Bo × Int) (K' : Out → HS → Prop) (h h' h'' : HS) (hk : K' (deedO r) h'') (s1 : subB h'.blks h''.blks) (s2 : subV h'.vecs h''.vecs) (s3 : bdB (lenB h''.blks) (lenV h''.vecs) h''.blks) (s4 : bdV (lenB h''.blks) (lenV h''.vecs) h''.vecs)
    (hB : lenB h.blks ≤ lenB h''.blks ∧ lenB h''.blks ≤ lenB h'.blks) (hV : lenV h.vecs ≤ lenV h''.vecs ∧ lenV h''.vecs ≤ lenV h'.vecs) :
    ∃ x y h'', ((deedO r = .ret x ∧ K' (.ret y) h'') ∨ (deedO r = .pan x ∧ K' (.pan y) h'')) ∧ SubS [x] h' ([y], h'') ∧ (lenB h.blks ≤ lenB h''.blks ∧ lenB h''.blks ≤ lenB h'.blks) ∧ (lenV h.vecs ≤ lenV h''.vecs ∧ lenV h''.vecs ≤ lenV h'.vecs) := by
  by_cases h0 : r.2 = 0
  · refine ⟨.tup [], .tup [], h'', .inl ⟨by rw [deedO, if_pos h0], ?_⟩, ⟨by simp [subL, subX], s1, s2, by simp [BdL, Bd], s3, s4⟩, hB, hV⟩
    rw [deedO, if_pos h0] at hk
    exact hk
  · refine ⟨.iface 82 (.agg [.int .i64 r.2]), .iface 82 (.agg [.int .i64 r.2]), h'', .inr ⟨by rw [deedO, if_neg h0], ?_⟩, ⟨by simp [subL, subX], s1, s2, by simp [BdL, Bd], s3, s4⟩, hB, hV⟩
    rw [deedO, if_neg h0] at hk
    exact hk

/-- A slice of penalties, told cell by cell. -/
def isPen (l : List Pen) (n : Nat) (F : Nat → Nat → SV) : Prop := n = l.length ∧ ∀ i j, i < n → j < 3 → F i j = .int .i64 (pf l i j)
def dk (r : Bo × Int) (s : Ga) (o : Out) (h' : HS) : Prop := ∃ (v' : Vers) (n0 n1 n2 n3 : Nat) (F0 F1 F2 F3 : Nat → Nat → SV) (B : List Blk) (V : List Vc), o = deedO r ∧ isPen r.1.p0 n0 F0 ∧ isPen r.1.p1 n1 F1 ∧ isPen r.1.m0 n2 F2 ∧ isPen r.1.m1 n3 F3 ∧
  h' = ⟨.live 61 (gaC r.1 s.now v'.a v'.b v'.c v'.d .nilf) :: B, .live v'.a 55 3 n0 F0 :: .live v'.b 55 3 n1 F1 :: .live v'.c 55 3 n2 F2 :: .live v'.d 55 3 n3 F3 :: V⟩
theorem isPen_id (l : List Pen) : isPen l l.length (fun i j => .int .i64 (pf l i j)) := ⟨rfl, fun _ _ _ _ => rfl⟩
theorem isPen_snoc {l : List Pen} {n : Nat} {F : Nat → Nat → SV} {a k q : Int} (h : isPen l n F) : isPen (l ++ [⟨a, k, q⟩]) (n + 1) (catF n F (oneF [.int .i64 a, .int .i64 k, .int .i64 q])) := by
  obtain ⟨rfl, h⟩ := h
  refine ⟨by simp, fun i j hi hj => ?_⟩
  rw [pf_app]
  by_cases h1 : i < l.length
  · simp only [catF, if_pos h1]
    exact h i j h1 hj
  · obtain rfl : i = l.length := by omega
    simp only [catF, if_neg h1, Nat.sub_self]
    have : j = 0 ∨ j = 1 ∨ j = 2 := by omega
    rcases this with rfl | rfl | rfl <;> rfl
theorem snoc2 (l : List Pen) (x y : Pen) : l ++ [x, y] = (l ++ [x]) ++ [y] := by simp
theorem goalL_at {l : List Pen} {k : Nat} (hk : k < nS l) (h1 : ∀ j, j < k → pf l (wS l j).toNat 1 ≠ 3) (h2 : pf l (wS l k).toNat 1 = 3) : goalL l = l.eraseIdx (wS l k).toNat := by
  have h := nS_le l
  have : k = 0 ∨ k = 1 := by omega
  rcases this with rfl | rfl
  · have h2 : pf l 0 1 = 3 := by simpa [wS] using h2
    simp only [goalL, wS, if_true]
    rw [if_pos ⟨hk, h2⟩]
    rfl
  · have h1 : pf l 0 1 ≠ 3 := by simpa [wS] using h1 0 (by omega)
    have h2 : pf l (secL l) 1 = 3 := by simpa [wS] using h2
    simp only [goalL, wS]
    rw [if_neg (fun q => h1 q.2), if_pos ⟨by omega, h2⟩]
    simp
theorem goalL_no {l : List Pen} (h1 : ∀ j, j < nS l → pf l (wS l j).toNat 1 ≠ 3) : goalL l = l := by
  unfold goalL
  rw [if_neg, if_neg]
  · rintro ⟨h2, h3⟩; exact h1 1 (by omega) (by simpa [wS] using h3)
  · rintro ⟨h2, h3⟩; exact h1 0 h2 (by simpa [wS] using h3)
theorem isPen_erase {l : List Pen} {w : Int} (hw : 0 ≤ w ∧ w < l.length) : isPen (l.eraseIdx w.toNat) (w.toNat - 0 + (l.length - (w + 1).toNat)) (catF (w.toNat - 0) (fun a c => .int .i64 (pf l a c)) (fun a c => .int .i64 (pf l ((w + 1).toNat + a) c))) := by
  obtain ⟨i, rfl⟩ : ∃ i : Nat, w = i := ⟨w.toNat, by omega⟩
  have hi : i < l.length := by omega
  refine ⟨by rw [Int.toNat_natCast, List.length_eraseIdx_of_lt hi]; omega, fun a c ha hc => ?_⟩
  have e2 : ((i : Int) + 1).toNat = i + 1 := by omega
  unfold catF
  simp only [Int.toNat_natCast, Nat.sub_zero, e2, pf, List.getD_eq_getElem?_getD, List.getElem?_eraseIdx]
  by_cases h : a < i
  · simp [h]
  · simp only [if_neg h]
    rw [show i + 1 + (a - i) = a + 1 by omega]
theorem dk_trim {g : Nat} {args : List SV} {s : Ga} {v : Vers} {r : Bo × Int} (hc : CallsS Try.prog g args (gaH s v) (dk r s)) : CallsS Try.prog g args (gaH s v) (fun o h' => ∃ v', o = deedO r ∧ h' = gaH ⟨r.1, s.now, s.out⟩ v') := by
  refine calls_trimP hc ?_
  rintro o h' ⟨v', n0, n1, n2, n3, F0, F1, F2, F3, B, V, rfl, ⟨rfl, h0⟩, ⟨rfl, h1⟩, ⟨rfl, h2⟩, ⟨rfl, h3⟩, rfl⟩
  refine deed_trim r (fun o h' => ∃ v', o = deedO r ∧ h' = gaH ⟨r.1, s.now, s.out⟩ v') _ _ (gaH ⟨r.1, s.now, s.out⟩ v') ?_ ?_ ?_ ?_ ?_ ⟨?_, ?_⟩ ⟨?_, ?_⟩
  · exact ⟨v', rfl, rfl⟩
  all_goals (try simp only [gaH, gaC, vecL, outL, go_sem, ↓reduceIte, Nat.reduceAdd, Nat.reduceSub, Nat.reduceMul, Nat.reduceEqDiff, Nat.reduceLT, Nat.reduceLeDiff, Int.reduceToNat, Int.reduceLE, Int.reduceLT, Int.reduceEq, Int.reduceNeg, reduceCtorEq])
  all_goals (try simp)
  exact ⟨h0, h1, h2, h3⟩
theorem start_calls {s : Ga} (hs : s.Ok) (v : Vers) (x : Ev) :
    CallsS Try.prog 59 [.ptr 0 0, evS x] (gaH s v) (fun o h' => ∃ v', o = deedO s.b.start ∧ h' = gaH ⟨s.b.start.1, s.now, s.out⟩ v') := by
  refine dk_trim ?_
  obtain ⟨⟨per, pl, run, g0, g1, p0, p1, m0, m1⟩, now, out⟩ := s
  have hper := hs.b.per
  simp only at hper
  refine calls_of_run (C := cx [] [] [] [] none) (cx_ok trivial trivial) rfl fn_59 rfl 1000 ?_
  simp only [gaH, gaC, vecL, outL, evS, Try.f59, Try.f48, go_sem, ↓reduceIte, Nat.reduceAdd, Nat.reduceSub, Nat.reduceMul, Nat.reduceEqDiff, Nat.reduceLT, Nat.reduceLeDiff, Int.reduceToNat, Int.reduceLE, Int.reduceLT, Int.reduceEq, Int.reduceNeg, reduceCtorEq]
  have w1 : IntKind.i64.wrap (per + 1) = per + 1 := wrap_id (by omega) (by omega)
  simp only [w1]
  refine ⟨fun h => ?_, fun h => ⟨fun h1 => ⟨fun h2 => ?_, fun h2 => ?_⟩, fun h1 => ?_⟩⟩
  · have : run = true := by simpa using h
    simp only [Bo.start, if_pos this]
    exact ⟨v, _, _, _, _, _, _, _, _, _, _, (deedO_e (by decide)).symm, isPen_id _, isPen_id _, isPen_id _, isPen_id _, rfl⟩
  · have h0 : run = false := by simpa using h
    have h1 : pl = 1200 := by simpa using h1
    have h2 : ¬ per < 2 := by simpa using h2
    simp only [Bo.start, h0, Bool.false_eq_true, if_false, if_pos h1, if_neg h2]
    exact ⟨v, _, _, _, _, _, _, _, _, _, _, (deedO_e (by decide)).symm, isPen_id _, isPen_id _, isPen_id _, isPen_id _, by subst h0; rfl⟩
  · have h0 : run = false := by simpa using h
    have h1 : pl = 1200 := by simpa using h1
    have h2 : per < 2 := by simpa using h2
    simp only [Bo.start, h0, Bool.false_eq_true, if_false, if_pos h1, if_pos h2]
    exact ⟨v, _, _, _, _, _, _, _, _, _, _, rfl, isPen_id _, isPen_id _, isPen_id _, isPen_id _, rfl⟩
  · have h0 : run = false := by simpa using h
    have h1 : ¬ pl = 1200 := by simpa using h1
    simp only [Bo.start, h0, Bool.false_eq_true, if_false, if_neg h1]
    exact ⟨v, _, _, _, _, _, _, _, _, _, _, rfl, isPen_id _, isPen_id _, isPen_id _, isPen_id _, rfl⟩
theorem stop_calls {s : Ga} (v : Vers) (x : Ev) :
    CallsS Try.prog 60 [.ptr 0 0, evS x] (gaH s v) (fun o h' => ∃ v', o = deedO s.b.stop ∧ h' = gaH ⟨s.b.stop.1, s.now, s.out⟩ v') := by
  refine dk_trim ?_
  obtain ⟨⟨per, pl, run, g0, g1, p0, p1, m0, m1⟩, now, out⟩ := s
  refine calls_of_run (C := cx [] [] [] [] none) (cx_ok trivial trivial) rfl fn_60 rfl 1000 ?_
  simp only [gaH, gaC, vecL, outL, evS, Try.f60, Try.f48, go_sem, ↓reduceIte, Nat.reduceAdd, Nat.reduceSub, Nat.reduceMul, Nat.reduceEqDiff, Nat.reduceLT, Nat.reduceLeDiff, Int.reduceToNat, Int.reduceLE, Int.reduceLT, Int.reduceEq, Int.reduceNeg, reduceCtorEq]
  refine ⟨fun h => ?_, fun h => ?_⟩
  · have h0 : run = false := by simpa using h
    simp only [Bo.stop, h0, Bool.false_eq_true, if_false]
    exact ⟨v, _, _, _, _, _, _, _, _, _, _, (deedO_e (by decide)).symm, isPen_id _, isPen_id _, isPen_id _, isPen_id _, by subst h0; rfl⟩
  · have h0 : run = true := by simpa using h
    simp only [Bo.stop, if_pos h0]
    exact ⟨v, _, _, _, _, _, _, _, _, _, _, rfl, isPen_id _, isPen_id _, isPen_id _, isPen_id _, rfl⟩
theorem give_calls {s : Ga} (hs : s.Ok) (v : Vers) (x : Ev) (hk : 3 ≤ x.k ∧ x.k ≤ 6) (ht : x.t = 0 ∨ x.t = 1) :
    CallsS Try.prog 62 [.ptr 0 0, evS x] (gaH s v) (fun o h' => ∃ v', o = deedO (s.b.give x.k x.t x.p) ∧ h' = gaH ⟨(s.b.give x.k x.t x.p).1, s.now, s.out⟩ v') := by
  refine dk_trim ?_
  obtain ⟨xk, xs, xt, xp⟩ := x
  simp only at hk ht ⊢
  have l0 := hs.b.p0.1
  have l1 := hs.b.p1.1
  have l2 := hs.b.m0.1
  have l3 := hs.b.m1.1
  have hk : xk = 3 ∨ xk = 4 ∨ xk = 5 ∨ xk = 6 := by omega
  obtain ⟨⟨per, pl, run, g0, g1, p0, p1, m0, m1⟩, now, out⟩ := s
  simp only at l0 l1 l2 l3
  refine calls_of_run (C := cx [] [] [] [(62, 3, p62_3), (62, 7, p62_7), (62, 12, p62_12), (62, 13, p62_13)] none) (cx_ok trivial trivial) rfl fn_62 rfl 1000 ?_
  cases run
  · rcases ht with rfl | rfl <;> rcases hk with rfl | rfl | rfl | rfl
    all_goals simp only [gaH, gaC, vecL, outL, evS, Try.f62, Try.f48, p62_3, p62_7, p62_12, p62_13, go_sem, ↓reduceIte, Nat.reduceAdd, Nat.reduceSub, Nat.reduceMul, Nat.reduceEqDiff, Nat.reduceLT, Nat.reduceLeDiff, Int.reduceToNat, Int.reduceLE, Int.reduceLT, Int.reduceEq, Int.reduceNeg, reduceCtorEq]
    all_goals repeat' apply And.intro
    all_goals first
      | (show planOk _ _ = true; kernel_rfl)
      | (show keepOk _ _ = true; kernel_rfl)
      | omega
      | (simp only [Bo.give, gives, givesM, Bool.false_eq_true, if_false, if_true, List.append_nil, Int.reduceEq, snoc2]
         first
           | refine ⟨⟨v.a + 1, v.b, v.c, v.d⟩, _, _, _, _, _, _, _, _, _, _, rfl, ?_, ?_, ?_, ?_, rfl⟩
           | refine ⟨⟨v.a + 1 + 1, v.b, v.c, v.d⟩, _, _, _, _, _, _, _, _, _, _, rfl, ?_, ?_, ?_, ?_, rfl⟩
           | refine ⟨⟨v.a, v.b + 1, v.c, v.d⟩, _, _, _, _, _, _, _, _, _, _, rfl, ?_, ?_, ?_, ?_, rfl⟩
           | refine ⟨⟨v.a, v.b + 1 + 1, v.c, v.d⟩, _, _, _, _, _, _, _, _, _, _, rfl, ?_, ?_, ?_, ?_, rfl⟩
           | refine ⟨⟨v.a, v.b, v.c + 1, v.d⟩, _, _, _, _, _, _, _, _, _, _, rfl, ?_, ?_, ?_, ?_, rfl⟩
           | refine ⟨⟨v.a, v.b, v.c, v.d + 1⟩, _, _, _, _, _, _, _, _, _, _, rfl, ?_, ?_, ?_, ?_, rfl⟩
         all_goals first | exact isPen_id _ | exact isPen_snoc (isPen_id _) | exact isPen_snoc (isPen_snoc (isPen_id _)))
  · simp only [gaH, gaC, vecL, outL, evS, Try.f62, Try.f48, p62_3, p62_7, p62_12, p62_13, go_sem, ↓reduceIte, Nat.reduceAdd, Nat.reduceSub, Nat.reduceMul, Nat.reduceEqDiff, Nat.reduceLT, Nat.reduceLeDiff, Int.reduceToNat, Int.reduceLE, Int.reduceLT, Int.reduceEq, Int.reduceNeg, reduceCtorEq]
    exact ⟨v, _, _, _, _, _, _, _, _, _, _, (deedO_e (by decide)).symm, isPen_id _, isPen_id _, isPen_id _, isPen_id _, rfl⟩
theorem goal_calls {s : Ga} (hs : s.Ok) (v : Vers) (x : Ev) (ht : x.t = 0 ∨ x.t = 1) :
    CallsS Try.prog 61 [.ptr 0 0, evS x] (gaH s v) (fun o h' => ∃ v', o = deedO (s.b.goal x.t) ∧ h' = gaH ⟨(s.b.goal x.t).1, s.now, s.out⟩ v') := by
  refine dk_trim ?_
  obtain ⟨xk, xs, xt, xp⟩ := x
  simp only at ht ⊢
  have hg0 := hs.b.g0
  have hg1 := hs.b.g1
  have l0 := hs.b.p0.1
  have l1 := hs.b.p1.1
  obtain ⟨⟨per, pl, run, g0, g1, p0, p1, m0, m1⟩, now, out⟩ := s
  simp only at hg0 hg1 l0 l1
  have w0 : IntKind.i64.wrap (g0 + 1) = g0 + 1 := wrap_id (by omega) (by omega)
  have w1 : IntKind.i64.wrap (g1 + 1) = g1 + 1 := wrap_id (by omega) (by omega)
  have w2 : IntKind.i64.wrap (1 - 0) = 1 := rfl
  have w3 : IntKind.i64.wrap (1 - 1) = 0 := rfl
  refine calls_of_run (C := cx [] [] [(35, servedPBase), (64, strengthPBase)] [(61, 2, p61_2), (61, 5, p61_5), (61, 10, p61_10)] none) (cx_ok trivial ⟨servedP_base, strengthP_base, trivial⟩) rfl fn_61 rfl 1000 ?_
  cases run
  · simp only [gaH, gaC, vecL, outL, evS, Try.f61, Try.f60, Try.f48, go_sem, ↓reduceIte, Nat.reduceAdd, Nat.reduceSub, Nat.reduceMul, Nat.reduceEqDiff, Nat.reduceLT, Nat.reduceLeDiff, Int.reduceToNat, Int.reduceLE, Int.reduceLT, Int.reduceEq, Int.reduceNeg, reduceCtorEq]
    exact ⟨v, _, _, _, _, _, _, _, _, _, _, (deedO_e (by decide)).symm, isPen_id _, isPen_id _, isPen_id _, isPen_id _, rfl⟩
  · rcases ht with rfl | rfl
    all_goals simp only [gaH, gaC, vecL, outL, evS, Try.f61, Try.f60, Try.f48, p61_2, p61_5, p61_10, servedP_eq, strengthP_eq, w2, w3, go_sem, ↓reduceIte, Nat.reduceAdd, Nat.reduceSub, Nat.reduceMul, Nat.reduceEqDiff, Nat.reduceLT, Nat.reduceLeDiff, Int.reduceToNat, Int.reduceLE, Int.reduceLT, Int.reduceEq, Int.reduceNeg, reduceCtorEq]
    · refine ⟨⟨by kernel_rfl, by kernel_rfl⟩, by omega, by omega, by omega, ⟨by kernel_rfl, by kernel_rfl⟩, by omega, by omega, by omega, fun e1 => ?_, fun e1 => ⟨by omega, ?_⟩⟩
      · rw [pl_pf, pl_pf] at e1
        simp only [decide_eq_true_eq] at e1
        simp only [Bo.goal, stren, if_pos, ge_iff_le, if_pos e1, w0]
        exact ⟨v, _, _, _, _, _, _, _, _, _, _, rfl, isPen_id _, isPen_id _, isPen_id _, isPen_id _, rfl⟩
      · rw [pl_pf, pl_pf] at e1
        simp only [decide_eq_false_iff_not] at e1
        have hgo : (⟨per, pl, true, g0, g1, p0, p1, m0, m1⟩ : Bo).goal 0 = (⟨per, pl, false, g0 + 1, g1, p0, goalL p1, m0, m1⟩, 0) := by
          simp only [Bo.goal, stren, if_pos, ge_iff_le, if_neg e1]
        rw [hgo, w0]
        rw [pl_pf]
        refine loop_of { i : Nat // i ≤ nS p1 ∧ ∀ j, j < i → pf p1 (wS p1 j).toNat 1 ≠ 3 } (fun i => [(49, .int .i64 (i.1 : Int)), (48, .int .i64 (nS p1 : Int)), (47, .row (nS p1) 1 (fun i _ => .int .i64 (wS p1 i))), (5, .vec 1 v.b), (4, .int .i64 1), (0, .ptr 0 0)]) (fun _ => ⟨[.live 61 [.int .i64 per, .int .i64 pl, .bool false, .int .i64 (g0 + 1), .int .i64 g1, .vec 0 v.a, .vec 1 v.b, .vec 2 v.c, .vec 3 v.d, .int .i64 now, .nilf], .dead, .dead], [vecL v.a p0, vecL v.b p1, vecL v.c m0, vecL v.d m1]⟩) (fun i => nS p1 - i.1) (fun _ => ⟨rfl, rfl⟩) ⟨0, by omega, fun j hj => by omega⟩ (by simp only [vecL, outL]; (apply sub_of <;> simp only [go_sem, ↓reduceIte, Nat.reduceAdd, Nat.reduceSub, Nat.reduceMul, Nat.reduceEqDiff, Nat.reduceLT, Nat.reduceLeDiff, Int.reduceToNat, Int.reduceLE, Int.reduceLT, Int.reduceEq, Int.reduceNeg, reduceCtorEq] <;> (try simp [catF]) <;> (try exact fun j _ => Bd_nth (by simp [BdL, Bd]) j) <;> (try exact bd_setL (by simp [bdAs, BdL, Bd])) <;> (try exact nestF_bd _ _ _ _ _ _ _ _ _))) ?_
        rintro ⟨i, hi, h3⟩
        simp only [gaH, gaC, vecL, outL, evS, Try.f61, Try.f60, Try.f48, p61_2, p61_5, p61_10, servedP_eq, strengthP_eq, w2, w3, go_sem, ↓reduceIte, Nat.reduceAdd, Nat.reduceSub, Nat.reduceMul, Nat.reduceEqDiff, Nat.reduceLT, Nat.reduceLeDiff, Int.reduceToNat, Int.reduceLE, Int.reduceLT, Int.reduceEq, Int.reduceNeg, reduceCtorEq]
        have h2 := nS_le p1
        have hw3 : IntKind.i64.wrap ((i : Int) + 1) = ((i + 1 : Nat) : Int) := by rw [wrap_id (by omega) (by omega)]; omega
        refine ⟨fun e2 => ?_, fun e2 => ?_⟩
        all_goals simp only [decide_eq_true_eq, decide_eq_false_iff_not] at e2
        · have hwi := wS_lt (l := p1) (k := i) (by omega)
          have hw4 : IntKind.i64.wrap (wS p1 i + 1) = wS p1 i + 1 := wrap_id (by omega) (by omega)
          refine ⟨⟨by omega, by omega⟩, hwi, by omega, fun e3 => ?_, fun e3 => ?_⟩
          all_goals simp only [decide_eq_true_eq, decide_eq_false_iff_not] at e3
          · rw [hw4]
            refine ⟨⟨by kernel_rfl, by kernel_rfl⟩, by omega, by omega, by omega, by omega, ?_⟩
            rw [goalL_at (l := p1) (by omega) h3 e3]
            exact ⟨⟨v.a, v.b + 2, v.c, v.d⟩, _, _, _, _, _, _, _, _, _, _, rfl, isPen_id _, isPen_erase hwi, isPen_id _, isPen_id _, rfl⟩
          · refine ⟨⟨i + 1, by omega, fun j hj => ?_⟩, by simp only []; omega, ?_⟩
            · rcases Nat.lt_or_ge j i with h | h
              · exact h3 j h
              · obtain rfl : j = i := by omega
                exact e3
            · apply sub_of <;> simp only [hw3, vecL, outL, go_sem, ↓reduceIte, Nat.reduceAdd, Nat.reduceSub, Nat.reduceMul, Nat.reduceEqDiff, Nat.reduceLT, Nat.reduceLeDiff, Int.reduceToNat, Int.reduceLE, Int.reduceLT, Int.reduceEq, Int.reduceNeg, reduceCtorEq] <;> (try simp) <;> (try exact fun j _ => Bd_nth (by simp [BdL, Bd]) j) <;> (try exact bd_setL (by simp [bdAs, BdL, Bd])) <;> (try exact nestF_bd _ _ _ _ _ _ _ _ _)
        · have hgl : goalL p1 = p1 := goalL_no (fun j hj => h3 j (by omega))
          rw [hgl]
          exact ⟨v, _, _, _, _, _, _, _, _, _, _, rfl, isPen_id _, isPen_id _, isPen_id _, isPen_id _, rfl⟩
    · refine ⟨⟨by kernel_rfl, by kernel_rfl⟩, by omega, by omega, by omega, ⟨by kernel_rfl, by kernel_rfl⟩, by omega, by omega, by omega, fun e1 => ?_, fun e1 => ⟨by omega, ?_⟩⟩
      · rw [pl_pf, pl_pf] at e1
        simp only [decide_eq_true_eq] at e1
        have hgo : (⟨per, pl, true, g0, g1, p0, p1, m0, m1⟩ : Bo).goal 1 = (⟨per, pl, false, g0, g1 + 1, p0, p1, m0, m1⟩, 0) := by
          simp only [Bo.goal, stren, if_pos, ge_iff_le, if_pos e1, Int.reduceEq, if_false]
        rw [hgo, w1]
        exact ⟨v, _, _, _, _, _, _, _, _, _, _, rfl, isPen_id _, isPen_id _, isPen_id _, isPen_id _, rfl⟩
      · rw [pl_pf, pl_pf] at e1
        simp only [decide_eq_false_iff_not] at e1
        have hgo : (⟨per, pl, true, g0, g1, p0, p1, m0, m1⟩ : Bo).goal 1 = (⟨per, pl, false, g0, g1 + 1, goalL p0, p1, m0, m1⟩, 0) := by
          simp only [Bo.goal, stren, if_pos, ge_iff_le, if_neg e1, Int.reduceEq, if_false]
        rw [hgo, w1]
        rw [pl_pf]
        refine loop_of { i : Nat // i ≤ nS p0 ∧ ∀ j, j < i → pf p0 (wS p0 j).toNat 1 ≠ 3 } (fun i => [(49, .int .i64 (i.1 : Int)), (48, .int .i64 (nS p0 : Int)), (47, .row (nS p0) 1 (fun i _ => .int .i64 (wS p0 i))), (5, .vec 0 v.a), (4, .int .i64 0), (0, .ptr 0 0)]) (fun _ => ⟨[.live 61 [.int .i64 per, .int .i64 pl, .bool false, .int .i64 g0, .int .i64 (g1 + 1), .vec 0 v.a, .vec 1 v.b, .vec 2 v.c, .vec 3 v.d, .int .i64 now, .nilf], .dead, .dead], [vecL v.a p0, vecL v.b p1, vecL v.c m0, vecL v.d m1]⟩) (fun i => nS p0 - i.1) (fun _ => ⟨rfl, rfl⟩) ⟨0, by omega, fun j hj => by omega⟩ (by simp only [vecL, outL]; (apply sub_of <;> simp only [go_sem, ↓reduceIte, Nat.reduceAdd, Nat.reduceSub, Nat.reduceMul, Nat.reduceEqDiff, Nat.reduceLT, Nat.reduceLeDiff, Int.reduceToNat, Int.reduceLE, Int.reduceLT, Int.reduceEq, Int.reduceNeg, reduceCtorEq] <;> (try simp [catF]) <;> (try exact fun j _ => Bd_nth (by simp [BdL, Bd]) j) <;> (try exact bd_setL (by simp [bdAs, BdL, Bd])) <;> (try exact nestF_bd _ _ _ _ _ _ _ _ _))) ?_
        rintro ⟨i, hi, h3⟩
        simp only [gaH, gaC, vecL, outL, evS, Try.f61, Try.f60, Try.f48, p61_2, p61_5, p61_10, servedP_eq, strengthP_eq, w2, w3, go_sem, ↓reduceIte, Nat.reduceAdd, Nat.reduceSub, Nat.reduceMul, Nat.reduceEqDiff, Nat.reduceLT, Nat.reduceLeDiff, Int.reduceToNat, Int.reduceLE, Int.reduceLT, Int.reduceEq, Int.reduceNeg, reduceCtorEq]
        have h2 := nS_le p0
        have hw3 : IntKind.i64.wrap ((i : Int) + 1) = ((i + 1 : Nat) : Int) := by rw [wrap_id (by omega) (by omega)]; omega
        refine ⟨fun e2 => ?_, fun e2 => ?_⟩
        all_goals simp only [decide_eq_true_eq, decide_eq_false_iff_not] at e2
        · have hwi := wS_lt (l := p0) (k := i) (by omega)
          have hw4 : IntKind.i64.wrap (wS p0 i + 1) = wS p0 i + 1 := wrap_id (by omega) (by omega)
          refine ⟨⟨by omega, by omega⟩, hwi, by omega, fun e3 => ?_, fun e3 => ?_⟩
          all_goals simp only [decide_eq_true_eq, decide_eq_false_iff_not] at e3
          · rw [hw4]
            refine ⟨⟨by kernel_rfl, by kernel_rfl⟩, by omega, by omega, by omega, by omega, ?_⟩
            rw [goalL_at (l := p0) (by omega) h3 e3]
            exact ⟨⟨v.a + 2, v.b, v.c, v.d⟩, _, _, _, _, _, _, _, _, _, _, rfl, isPen_erase hwi, isPen_id _, isPen_id _, isPen_id _, rfl⟩
          · refine ⟨⟨i + 1, by omega, fun j hj => ?_⟩, by simp only []; omega, ?_⟩
            · rcases Nat.lt_or_ge j i with h | h
              · exact h3 j h
              · obtain rfl : j = i := by omega
                exact e3
            · apply sub_of <;> simp only [hw3, vecL, outL, go_sem, ↓reduceIte, Nat.reduceAdd, Nat.reduceSub, Nat.reduceMul, Nat.reduceEqDiff, Nat.reduceLT, Nat.reduceLeDiff, Int.reduceToNat, Int.reduceLE, Int.reduceLT, Int.reduceEq, Int.reduceNeg, reduceCtorEq] <;> (try simp) <;> (try exact fun j _ => Bd_nth (by simp [BdL, Bd]) j) <;> (try exact bd_setL (by simp [bdAs, BdL, Bd])) <;> (try exact nestF_bd _ _ _ _ _ _ _ _ _)
        · have hgl : goalL p0 = p0 := goalL_no (fun j hj => h3 j (by omega))
          rw [hgl]
          exact ⟨v, _, _, _, _, _, _, _, _, _, _, rfl, isPen_id _, isPen_id _, isPen_id _, isPen_id _, rfl⟩
end Go.Eng
end

/- clock: deeds, with stretches told. -/
section
namespace Go.Eng
open Go Go.RowKit Go.Proofs
set_option maxRecDepth 100000
set_option maxHeartbeats 4000000
attribute [local irreducible] OwnT DefS

def dkO (r : Bo × Int) (s : Ga) (o : Out) (h' : HS) : Prop := ∃ (v' : VersO) (n0 n1 n2 n3 : Nat) (F0 F1 F2 F3 : Nat → Nat → SV) (B : List Blk) (V : List Vc), o = deedO r ∧ isPen r.1.p0 n0 F0 ∧ isPen r.1.p1 n1 F1 ∧ isPen r.1.m0 n2 F2 ∧ isPen r.1.m1 n3 F3 ∧
  h' = ⟨.live 61 (gaC r.1 s.now v'.a v'.b v'.c v'.d (.func 39 [.ptr 1 0])) :: .live 40 [.vec 4 v'.e] :: B, .live v'.a 55 3 n0 F0 :: .live v'.b 55 3 n1 F1 :: .live v'.c 55 3 n2 F2 :: .live v'.d 55 3 n3 F3 :: outL v'.e s.out :: V⟩

theorem dk_trimO {g : Nat} {args : List SV} {s : Ga} {v : VersO} {r : Bo × Int} (hc : CallsS Try.prog g args (goH s v) (dkO r s)) : CallsS Try.prog g args (goH s v) (fun o h' => ∃ v', o = deedO r ∧ h' = goH ⟨r.1, s.now, s.out⟩ v') := by
  refine calls_trimP hc ?_
  rintro o h' ⟨v', n0, n1, n2, n3, F0, F1, F2, F3, B, V, rfl, ⟨rfl, h0⟩, ⟨rfl, h1⟩, ⟨rfl, h2⟩, ⟨rfl, h3⟩, rfl⟩
  refine deed_trim r (fun o h' => ∃ v', o = deedO r ∧ h' = goH ⟨r.1, s.now, s.out⟩ v') _ _ (goH ⟨r.1, s.now, s.out⟩ v') ?_ ?_ ?_ ?_ ?_ ⟨?_, ?_⟩ ⟨?_, ?_⟩
  · exact ⟨v', rfl, rfl⟩
  all_goals (try simp only [goH, gaC, vecL, outL, go_sem, ↓reduceIte, Nat.reduceAdd, Nat.reduceSub, Nat.reduceMul, Nat.reduceEqDiff, Nat.reduceLT, Nat.reduceLeDiff, Int.reduceToNat, Int.reduceLE, Int.reduceLT, Int.reduceEq, Int.reduceNeg, reduceCtorEq])
  all_goals (try simp)
  exact ⟨h0, h1, h2, h3⟩
theorem start_callsO {s : Ga} (hs : s.Ok) (v : VersO) (x : Ev) :
    CallsS Try.prog 59 [.ptr 0 0, evS x] (goH s v) (fun o h' => ∃ v', o = deedO s.b.start ∧ h' = goH ⟨s.b.start.1, s.now, s.out⟩ v') := by
  refine dk_trimO ?_
  obtain ⟨⟨per, pl, run, g0, g1, p0, p1, m0, m1⟩, now, out⟩ := s
  have hper := hs.b.per
  simp only at hper
  refine calls_of_run (C := cx [] [] [] [] none) (cx_ok trivial trivial) rfl fn_59 rfl 1000 ?_
  simp only [goH, gaC, vecL, outL, evS, Try.f59, Try.f48, go_sem, ↓reduceIte, Nat.reduceAdd, Nat.reduceSub, Nat.reduceMul, Nat.reduceEqDiff, Nat.reduceLT, Nat.reduceLeDiff, Int.reduceToNat, Int.reduceLE, Int.reduceLT, Int.reduceEq, Int.reduceNeg, reduceCtorEq]
  have w1 : IntKind.i64.wrap (per + 1) = per + 1 := wrap_id (by omega) (by omega)
  simp only [w1]
  refine ⟨fun h => ?_, fun h => ⟨fun h1 => ⟨fun h2 => ?_, fun h2 => ?_⟩, fun h1 => ?_⟩⟩
  · have : run = true := by simpa using h
    simp only [Bo.start, if_pos this]
    exact ⟨v, _, _, _, _, _, _, _, _, _, _, (deedO_e (by decide)).symm, isPen_id _, isPen_id _, isPen_id _, isPen_id _, rfl⟩
  · have h0 : run = false := by simpa using h
    have h1 : pl = 1200 := by simpa using h1
    have h2 : ¬ per < 2 := by simpa using h2
    simp only [Bo.start, h0, Bool.false_eq_true, if_false, if_pos h1, if_neg h2]
    exact ⟨v, _, _, _, _, _, _, _, _, _, _, (deedO_e (by decide)).symm, isPen_id _, isPen_id _, isPen_id _, isPen_id _, by subst h0; rfl⟩
  · have h0 : run = false := by simpa using h
    have h1 : pl = 1200 := by simpa using h1
    have h2 : per < 2 := by simpa using h2
    simp only [Bo.start, h0, Bool.false_eq_true, if_false, if_pos h1, if_pos h2]
    exact ⟨v, _, _, _, _, _, _, _, _, _, _, rfl, isPen_id _, isPen_id _, isPen_id _, isPen_id _, rfl⟩
  · have h0 : run = false := by simpa using h
    have h1 : ¬ pl = 1200 := by simpa using h1
    simp only [Bo.start, h0, Bool.false_eq_true, if_false, if_neg h1]
    exact ⟨v, _, _, _, _, _, _, _, _, _, _, rfl, isPen_id _, isPen_id _, isPen_id _, isPen_id _, rfl⟩
theorem stop_callsO {s : Ga} (v : VersO) (x : Ev) :
    CallsS Try.prog 60 [.ptr 0 0, evS x] (goH s v) (fun o h' => ∃ v', o = deedO s.b.stop ∧ h' = goH ⟨s.b.stop.1, s.now, s.out⟩ v') := by
  refine dk_trimO ?_
  obtain ⟨⟨per, pl, run, g0, g1, p0, p1, m0, m1⟩, now, out⟩ := s
  refine calls_of_run (C := cx [] [] [] [] none) (cx_ok trivial trivial) rfl fn_60 rfl 1000 ?_
  simp only [goH, gaC, vecL, outL, evS, Try.f60, Try.f48, go_sem, ↓reduceIte, Nat.reduceAdd, Nat.reduceSub, Nat.reduceMul, Nat.reduceEqDiff, Nat.reduceLT, Nat.reduceLeDiff, Int.reduceToNat, Int.reduceLE, Int.reduceLT, Int.reduceEq, Int.reduceNeg, reduceCtorEq]
  refine ⟨fun h => ?_, fun h => ?_⟩
  · have h0 : run = false := by simpa using h
    simp only [Bo.stop, h0, Bool.false_eq_true, if_false]
    exact ⟨v, _, _, _, _, _, _, _, _, _, _, (deedO_e (by decide)).symm, isPen_id _, isPen_id _, isPen_id _, isPen_id _, by subst h0; rfl⟩
  · have h0 : run = true := by simpa using h
    simp only [Bo.stop, if_pos h0]
    exact ⟨v, _, _, _, _, _, _, _, _, _, _, rfl, isPen_id _, isPen_id _, isPen_id _, isPen_id _, rfl⟩
theorem give_callsO {s : Ga} (hs : s.Ok) (v : VersO) (x : Ev) (hk : 3 ≤ x.k ∧ x.k ≤ 6) (ht : x.t = 0 ∨ x.t = 1) :
    CallsS Try.prog 62 [.ptr 0 0, evS x] (goH s v) (fun o h' => ∃ v', o = deedO (s.b.give x.k x.t x.p) ∧ h' = goH ⟨(s.b.give x.k x.t x.p).1, s.now, s.out⟩ v') := by
  refine dk_trimO ?_
  obtain ⟨xk, xs, xt, xp⟩ := x
  simp only at hk ht ⊢
  have l0 := hs.b.p0.1
  have l1 := hs.b.p1.1
  have l2 := hs.b.m0.1
  have l3 := hs.b.m1.1
  have hk : xk = 3 ∨ xk = 4 ∨ xk = 5 ∨ xk = 6 := by omega
  obtain ⟨⟨per, pl, run, g0, g1, p0, p1, m0, m1⟩, now, out⟩ := s
  simp only at l0 l1 l2 l3
  refine calls_of_run (C := cx [] [] [] [(62, 3, p62_3), (62, 7, p62_7), (62, 12, p62_12), (62, 13, p62_13)] none) (cx_ok trivial trivial) rfl fn_62 rfl 1000 ?_
  cases run
  · rcases ht with rfl | rfl <;> rcases hk with rfl | rfl | rfl | rfl
    all_goals simp only [goH, gaC, vecL, outL, evS, Try.f62, Try.f48, p62_3, p62_7, p62_12, p62_13, go_sem, ↓reduceIte, Nat.reduceAdd, Nat.reduceSub, Nat.reduceMul, Nat.reduceEqDiff, Nat.reduceLT, Nat.reduceLeDiff, Int.reduceToNat, Int.reduceLE, Int.reduceLT, Int.reduceEq, Int.reduceNeg, reduceCtorEq]
    all_goals repeat' apply And.intro
    all_goals first
      | (show planOk _ _ = true; kernel_rfl)
      | (show keepOk _ _ = true; kernel_rfl)
      | omega
      | (simp only [Bo.give, gives, givesM, Bool.false_eq_true, if_false, if_true, List.append_nil, Int.reduceEq, snoc2]
         first
           | refine ⟨⟨v.a + 1, v.b, v.c, v.d, v.e⟩, _, _, _, _, _, _, _, _, _, _, rfl, ?_, ?_, ?_, ?_, rfl⟩
           | refine ⟨⟨v.a + 1 + 1, v.b, v.c, v.d, v.e⟩, _, _, _, _, _, _, _, _, _, _, rfl, ?_, ?_, ?_, ?_, rfl⟩
           | refine ⟨⟨v.a, v.b + 1, v.c, v.d, v.e⟩, _, _, _, _, _, _, _, _, _, _, rfl, ?_, ?_, ?_, ?_, rfl⟩
           | refine ⟨⟨v.a, v.b + 1 + 1, v.c, v.d, v.e⟩, _, _, _, _, _, _, _, _, _, _, rfl, ?_, ?_, ?_, ?_, rfl⟩
           | refine ⟨⟨v.a, v.b, v.c + 1, v.d, v.e⟩, _, _, _, _, _, _, _, _, _, _, rfl, ?_, ?_, ?_, ?_, rfl⟩
           | refine ⟨⟨v.a, v.b, v.c, v.d + 1, v.e⟩, _, _, _, _, _, _, _, _, _, _, rfl, ?_, ?_, ?_, ?_, rfl⟩
         all_goals first | exact isPen_id _ | exact isPen_snoc (isPen_id _) | exact isPen_snoc (isPen_snoc (isPen_id _)))
  · simp only [goH, gaC, vecL, outL, evS, Try.f62, Try.f48, p62_3, p62_7, p62_12, p62_13, go_sem, ↓reduceIte, Nat.reduceAdd, Nat.reduceSub, Nat.reduceMul, Nat.reduceEqDiff, Nat.reduceLT, Nat.reduceLeDiff, Int.reduceToNat, Int.reduceLE, Int.reduceLT, Int.reduceEq, Int.reduceNeg, reduceCtorEq]
    exact ⟨v, _, _, _, _, _, _, _, _, _, _, (deedO_e (by decide)).symm, isPen_id _, isPen_id _, isPen_id _, isPen_id _, rfl⟩
theorem goal_callsO {s : Ga} (hs : s.Ok) (v : VersO) (x : Ev) (ht : x.t = 0 ∨ x.t = 1) :
    CallsS Try.prog 61 [.ptr 0 0, evS x] (goH s v) (fun o h' => ∃ v', o = deedO (s.b.goal x.t) ∧ h' = goH ⟨(s.b.goal x.t).1, s.now, s.out⟩ v') := by
  refine dk_trimO ?_
  obtain ⟨xk, xs, xt, xp⟩ := x
  simp only at ht ⊢
  have hg0 := hs.b.g0
  have hg1 := hs.b.g1
  have l0 := hs.b.p0.1
  have l1 := hs.b.p1.1
  obtain ⟨⟨per, pl, run, g0, g1, p0, p1, m0, m1⟩, now, out⟩ := s
  simp only at hg0 hg1 l0 l1
  have w0 : IntKind.i64.wrap (g0 + 1) = g0 + 1 := wrap_id (by omega) (by omega)
  have w1 : IntKind.i64.wrap (g1 + 1) = g1 + 1 := wrap_id (by omega) (by omega)
  have w2 : IntKind.i64.wrap (1 - 0) = 1 := rfl
  have w3 : IntKind.i64.wrap (1 - 1) = 0 := rfl
  refine calls_of_run (C := cx [] [] [(35, servedPBase), (64, strengthPBase)] [(61, 2, p61_2), (61, 5, p61_5), (61, 10, p61_10)] none) (cx_ok trivial ⟨servedP_base, strengthP_base, trivial⟩) rfl fn_61 rfl 1000 ?_
  cases run
  · simp only [goH, gaC, vecL, outL, evS, Try.f61, Try.f60, Try.f48, go_sem, ↓reduceIte, Nat.reduceAdd, Nat.reduceSub, Nat.reduceMul, Nat.reduceEqDiff, Nat.reduceLT, Nat.reduceLeDiff, Int.reduceToNat, Int.reduceLE, Int.reduceLT, Int.reduceEq, Int.reduceNeg, reduceCtorEq]
    exact ⟨v, _, _, _, _, _, _, _, _, _, _, (deedO_e (by decide)).symm, isPen_id _, isPen_id _, isPen_id _, isPen_id _, rfl⟩
  · rcases ht with rfl | rfl
    all_goals simp only [goH, gaC, vecL, outL, evS, Try.f61, Try.f60, Try.f48, p61_2, p61_5, p61_10, servedP_eq, strengthP_eq, w2, w3, go_sem, ↓reduceIte, Nat.reduceAdd, Nat.reduceSub, Nat.reduceMul, Nat.reduceEqDiff, Nat.reduceLT, Nat.reduceLeDiff, Int.reduceToNat, Int.reduceLE, Int.reduceLT, Int.reduceEq, Int.reduceNeg, reduceCtorEq]
    · refine ⟨⟨by kernel_rfl, by kernel_rfl⟩, by omega, by omega, by omega, ⟨by kernel_rfl, by kernel_rfl⟩, by omega, by omega, by omega, fun e1 => ?_, fun e1 => ⟨by omega, ?_⟩⟩
      · rw [pl_pf, pl_pf] at e1
        simp only [decide_eq_true_eq] at e1
        simp only [Bo.goal, stren, if_pos, ge_iff_le, if_pos e1, w0]
        exact ⟨v, _, _, _, _, _, _, _, _, _, _, rfl, isPen_id _, isPen_id _, isPen_id _, isPen_id _, rfl⟩
      · rw [pl_pf, pl_pf] at e1
        simp only [decide_eq_false_iff_not] at e1
        have hgo : (⟨per, pl, true, g0, g1, p0, p1, m0, m1⟩ : Bo).goal 0 = (⟨per, pl, false, g0 + 1, g1, p0, goalL p1, m0, m1⟩, 0) := by
          simp only [Bo.goal, stren, if_pos, ge_iff_le, if_neg e1]
        rw [hgo, w0]
        rw [pl_pf]
        refine loop_of { i : Nat // i ≤ nS p1 ∧ ∀ j, j < i → pf p1 (wS p1 j).toNat 1 ≠ 3 } (fun i => [(49, .int .i64 (i.1 : Int)), (48, .int .i64 (nS p1 : Int)), (47, .row (nS p1) 1 (fun i _ => .int .i64 (wS p1 i))), (5, .vec 1 v.b), (4, .int .i64 1), (0, .ptr 0 0)]) (fun _ => ⟨[.live 61 [.int .i64 per, .int .i64 pl, .bool false, .int .i64 (g0 + 1), .int .i64 g1, .vec 0 v.a, .vec 1 v.b, .vec 2 v.c, .vec 3 v.d, .int .i64 now, (.func 39 [.ptr 1 0])], .live 40 [.vec 4 v.e], .dead, .dead], [vecL v.a p0, vecL v.b p1, vecL v.c m0, vecL v.d m1, outL v.e out]⟩) (fun i => nS p1 - i.1) (fun _ => ⟨rfl, rfl⟩) ⟨0, by omega, fun j hj => by omega⟩ (by simp only [vecL, outL]; (apply sub_of <;> simp only [go_sem, ↓reduceIte, Nat.reduceAdd, Nat.reduceSub, Nat.reduceMul, Nat.reduceEqDiff, Nat.reduceLT, Nat.reduceLeDiff, Int.reduceToNat, Int.reduceLE, Int.reduceLT, Int.reduceEq, Int.reduceNeg, reduceCtorEq] <;> (try simp [catF]) <;> (try exact fun j _ => Bd_nth (by simp [BdL, Bd]) j) <;> (try exact bd_setL (by simp [bdAs, BdL, Bd])) <;> (try exact nestF_bd _ _ _ _ _ _ _ _ _))) ?_
        rintro ⟨i, hi, h3⟩
        simp only [goH, gaC, vecL, outL, evS, Try.f61, Try.f60, Try.f48, p61_2, p61_5, p61_10, servedP_eq, strengthP_eq, w2, w3, go_sem, ↓reduceIte, Nat.reduceAdd, Nat.reduceSub, Nat.reduceMul, Nat.reduceEqDiff, Nat.reduceLT, Nat.reduceLeDiff, Int.reduceToNat, Int.reduceLE, Int.reduceLT, Int.reduceEq, Int.reduceNeg, reduceCtorEq]
        have h2 := nS_le p1
        have hw3 : IntKind.i64.wrap ((i : Int) + 1) = ((i + 1 : Nat) : Int) := by rw [wrap_id (by omega) (by omega)]; omega
        refine ⟨fun e2 => ?_, fun e2 => ?_⟩
        all_goals simp only [decide_eq_true_eq, decide_eq_false_iff_not] at e2
        · have hwi := wS_lt (l := p1) (k := i) (by omega)
          have hw4 : IntKind.i64.wrap (wS p1 i + 1) = wS p1 i + 1 := wrap_id (by omega) (by omega)
          refine ⟨⟨by omega, by omega⟩, hwi, by omega, fun e3 => ?_, fun e3 => ?_⟩
          all_goals simp only [decide_eq_true_eq, decide_eq_false_iff_not] at e3
          · rw [hw4]
            refine ⟨⟨by kernel_rfl, by kernel_rfl⟩, by omega, by omega, by omega, by omega, ?_⟩
            rw [goalL_at (l := p1) (by omega) h3 e3]
            exact ⟨⟨v.a, v.b + 2, v.c, v.d, v.e⟩, _, _, _, _, _, _, _, _, _, _, rfl, isPen_id _, isPen_erase hwi, isPen_id _, isPen_id _, rfl⟩
          · refine ⟨⟨i + 1, by omega, fun j hj => ?_⟩, by simp only []; omega, ?_⟩
            · rcases Nat.lt_or_ge j i with h | h
              · exact h3 j h
              · obtain rfl : j = i := by omega
                exact e3
            · apply sub_of <;> simp only [hw3, vecL, outL, go_sem, ↓reduceIte, Nat.reduceAdd, Nat.reduceSub, Nat.reduceMul, Nat.reduceEqDiff, Nat.reduceLT, Nat.reduceLeDiff, Int.reduceToNat, Int.reduceLE, Int.reduceLT, Int.reduceEq, Int.reduceNeg, reduceCtorEq] <;> (try simp) <;> (try exact fun j _ => Bd_nth (by simp [BdL, Bd]) j) <;> (try exact bd_setL (by simp [bdAs, BdL, Bd])) <;> (try exact nestF_bd _ _ _ _ _ _ _ _ _)
        · have hgl : goalL p1 = p1 := goalL_no (fun j hj => h3 j (by omega))
          rw [hgl]
          exact ⟨v, _, _, _, _, _, _, _, _, _, _, rfl, isPen_id _, isPen_id _, isPen_id _, isPen_id _, rfl⟩
    · refine ⟨⟨by kernel_rfl, by kernel_rfl⟩, by omega, by omega, by omega, ⟨by kernel_rfl, by kernel_rfl⟩, by omega, by omega, by omega, fun e1 => ?_, fun e1 => ⟨by omega, ?_⟩⟩
      · rw [pl_pf, pl_pf] at e1
        simp only [decide_eq_true_eq] at e1
        have hgo : (⟨per, pl, true, g0, g1, p0, p1, m0, m1⟩ : Bo).goal 1 = (⟨per, pl, false, g0, g1 + 1, p0, p1, m0, m1⟩, 0) := by
          simp only [Bo.goal, stren, if_pos, ge_iff_le, if_pos e1, Int.reduceEq, if_false]
        rw [hgo, w1]
        exact ⟨v, _, _, _, _, _, _, _, _, _, _, rfl, isPen_id _, isPen_id _, isPen_id _, isPen_id _, rfl⟩
      · rw [pl_pf, pl_pf] at e1
        simp only [decide_eq_false_iff_not] at e1
        have hgo : (⟨per, pl, true, g0, g1, p0, p1, m0, m1⟩ : Bo).goal 1 = (⟨per, pl, false, g0, g1 + 1, goalL p0, p1, m0, m1⟩, 0) := by
          simp only [Bo.goal, stren, if_pos, ge_iff_le, if_neg e1, Int.reduceEq, if_false]
        rw [hgo, w1]
        rw [pl_pf]
        refine loop_of { i : Nat // i ≤ nS p0 ∧ ∀ j, j < i → pf p0 (wS p0 j).toNat 1 ≠ 3 } (fun i => [(49, .int .i64 (i.1 : Int)), (48, .int .i64 (nS p0 : Int)), (47, .row (nS p0) 1 (fun i _ => .int .i64 (wS p0 i))), (5, .vec 0 v.a), (4, .int .i64 0), (0, .ptr 0 0)]) (fun _ => ⟨[.live 61 [.int .i64 per, .int .i64 pl, .bool false, .int .i64 g0, .int .i64 (g1 + 1), .vec 0 v.a, .vec 1 v.b, .vec 2 v.c, .vec 3 v.d, .int .i64 now, (.func 39 [.ptr 1 0])], .live 40 [.vec 4 v.e], .dead, .dead], [vecL v.a p0, vecL v.b p1, vecL v.c m0, vecL v.d m1, outL v.e out]⟩) (fun i => nS p0 - i.1) (fun _ => ⟨rfl, rfl⟩) ⟨0, by omega, fun j hj => by omega⟩ (by simp only [vecL, outL]; (apply sub_of <;> simp only [go_sem, ↓reduceIte, Nat.reduceAdd, Nat.reduceSub, Nat.reduceMul, Nat.reduceEqDiff, Nat.reduceLT, Nat.reduceLeDiff, Int.reduceToNat, Int.reduceLE, Int.reduceLT, Int.reduceEq, Int.reduceNeg, reduceCtorEq] <;> (try simp [catF]) <;> (try exact fun j _ => Bd_nth (by simp [BdL, Bd]) j) <;> (try exact bd_setL (by simp [bdAs, BdL, Bd])) <;> (try exact nestF_bd _ _ _ _ _ _ _ _ _))) ?_
        rintro ⟨i, hi, h3⟩
        simp only [goH, gaC, vecL, outL, evS, Try.f61, Try.f60, Try.f48, p61_2, p61_5, p61_10, servedP_eq, strengthP_eq, w2, w3, go_sem, ↓reduceIte, Nat.reduceAdd, Nat.reduceSub, Nat.reduceMul, Nat.reduceEqDiff, Nat.reduceLT, Nat.reduceLeDiff, Int.reduceToNat, Int.reduceLE, Int.reduceLT, Int.reduceEq, Int.reduceNeg, reduceCtorEq]
        have h2 := nS_le p0
        have hw3 : IntKind.i64.wrap ((i : Int) + 1) = ((i + 1 : Nat) : Int) := by rw [wrap_id (by omega) (by omega)]; omega
        refine ⟨fun e2 => ?_, fun e2 => ?_⟩
        all_goals simp only [decide_eq_true_eq, decide_eq_false_iff_not] at e2
        · have hwi := wS_lt (l := p0) (k := i) (by omega)
          have hw4 : IntKind.i64.wrap (wS p0 i + 1) = wS p0 i + 1 := wrap_id (by omega) (by omega)
          refine ⟨⟨by omega, by omega⟩, hwi, by omega, fun e3 => ?_, fun e3 => ?_⟩
          all_goals simp only [decide_eq_true_eq, decide_eq_false_iff_not] at e3
          · rw [hw4]
            refine ⟨⟨by kernel_rfl, by kernel_rfl⟩, by omega, by omega, by omega, by omega, ?_⟩
            rw [goalL_at (l := p0) (by omega) h3 e3]
            exact ⟨⟨v.a + 2, v.b, v.c, v.d, v.e⟩, _, _, _, _, _, _, _, _, _, _, rfl, isPen_erase hwi, isPen_id _, isPen_id _, isPen_id _, rfl⟩
          · refine ⟨⟨i + 1, by omega, fun j hj => ?_⟩, by simp only []; omega, ?_⟩
            · rcases Nat.lt_or_ge j i with h | h
              · exact h3 j h
              · obtain rfl : j = i := by omega
                exact e3
            · apply sub_of <;> simp only [hw3, vecL, outL, go_sem, ↓reduceIte, Nat.reduceAdd, Nat.reduceSub, Nat.reduceMul, Nat.reduceEqDiff, Nat.reduceLT, Nat.reduceLeDiff, Int.reduceToNat, Int.reduceLE, Int.reduceLT, Int.reduceEq, Int.reduceNeg, reduceCtorEq] <;> (try simp) <;> (try exact fun j _ => Bd_nth (by simp [BdL, Bd]) j) <;> (try exact bd_setL (by simp [bdAs, BdL, Bd])) <;> (try exact nestF_bd _ _ _ _ _ _ _ _ _)
        · have hgl : goalL p0 = p0 := goalL_no (fun j hj => h3 j (by omega))
          rw [hgl]
          exact ⟨v, _, _, _, _, _, _, _, _, _, _, rfl, isPen_id _, isPen_id _, isPen_id _, isPen_id _, rfl⟩
end Go.Eng
end

/- clock: calls with a game among other things. -/
section
namespace Go.Eng
open Go Go.RowKit Go.Proofs
set_option maxRecDepth 100000
set_option maxHeartbeats 4000000
attribute [local irreducible] OwnT DefS
theorem ga_at {g : Nat} {xs : List SV} {O : Out} {s s' : Ga} {v : Vers} (hx : BdL 1 4 xs) (hx' : renL (nmN [0]) (nmN [0, 1, 2, 3]) xs = xs) (hO : bdO 1 4 O) (hO' : renO (nmN [0]) (nmN [0, 1, 2, 3]) O = O)
    (hc : CallsS Try.prog g (.ptr 0 0 :: xs) (gaH s v) (fun o h' => ∃ v', o = O ∧ h' = gaH s' v')) (B : List Blk) (V : List Vc) :
    CallsS Try.prog g (.ptr 0 0 :: xs) ⟨.live 61 (gaC s.b s.now v.a v.b v.c v.d .nilf) :: B, vecL v.a s.b.p0 :: vecL v.b s.b.p1 :: vecL v.c s.b.m0 :: vecL v.d s.b.m1 :: V⟩
      (fun o h' => ∃ v' : Vers, o = O ∧ h' = ⟨.live 61 (gaC s'.b s'.now v'.a v'.b v'.c v'.d .nilf) :: B, vecL v'.a s'.b.p0 :: vecL v'.b s'.b.p1 :: vecL v'.c s'.b.m0 :: vecL v'.d s'.b.m1 :: V⟩) := by
  have := calls_ren (h := ⟨.live 61 (gaC s.b s.now v.a v.b v.c v.d .nilf) :: B, vecL v.a s.b.p0 :: vecL v.b s.b.p1 :: vecL v.c s.b.m0 :: vecL v.d s.b.m1 :: V⟩) [0] [0, 1, 2, 3] hc (by decide) (by decide) ⟨by simp [Bd], hx⟩ (by simp [gaH, gaC, bdB, BdL, Bd]) (by simp [gaH, vecL, outL, bdV, Bd])
    (by simp only [gaH, gaC, go_sem, ↓reduceIte, Nat.reduceAdd, Nat.reduceSub, Nat.reduceMul, Nat.reduceEqDiff, Nat.reduceLT, Nat.reduceLeDiff, Int.reduceToNat, Int.reduceLE, Int.reduceLT, Int.reduceEq, Int.reduceNeg, reduceCtorEq]) (by simp only [gaH, vecL, outL, go_sem, ↓reduceIte, Nat.reduceAdd, Nat.reduceSub, Nat.reduceMul, Nat.reduceEqDiff, Nat.reduceLT, Nat.reduceLeDiff, Int.reduceToNat, Int.reduceLE, Int.reduceLT, Int.reduceEq, Int.reduceNeg, reduceCtorEq]) (by intro k hk; simp at hk; simp [lenB]; omega) (by intro k hk; simp at hk; simp [lenV]; omega)
    (by rintro o h' ⟨v', rfl, rfl⟩; exact ⟨rfl, rfl, by simp [gaH, gaC, bdB, BdL, Bd], by simp [gaH, vecL, outL, bdV, Bd], hO⟩)
  simp only [renL, renS, hx'] at this
  refine calls_mono ?_ this
  rintro o h' ⟨o0, h0', ⟨v', rfl, rfl⟩, rfl, rfl⟩
  refine ⟨v', hO', ?_⟩
  simp only [gaH, gaC, vecL, outL, go_sem, ↓reduceIte, Nat.reduceAdd, Nat.reduceSub, Nat.reduceMul, Nat.reduceEqDiff, Nat.reduceLT, Nat.reduceLeDiff, Int.reduceToNat, Int.reduceLE, Int.reduceLT, Int.reduceEq, Int.reduceNeg, reduceCtorEq]

theorem ga_atO {g : Nat} {xs : List SV} {O : Out} {s s' : Ga} {v : VersO} (hx : BdL 2 5 xs) (hx' : renL (nmN [0, 1]) (nmN [0, 1, 2, 3, 4]) xs = xs) (hO : bdO 2 5 O) (hO' : renO (nmN [0, 1]) (nmN [0, 1, 2, 3, 4]) O = O)
    (hc : CallsS Try.prog g (.ptr 0 0 :: xs) (goH s v) (fun o h' => ∃ v', o = O ∧ h' = goH s' v')) (B : List Blk) (V : List Vc) :
    CallsS Try.prog g (.ptr 0 0 :: xs) ⟨.live 61 (gaC s.b s.now v.a v.b v.c v.d (.func 39 [.ptr 1 0])) :: .live 40 [.vec 4 v.e] :: B, vecL v.a s.b.p0 :: vecL v.b s.b.p1 :: vecL v.c s.b.m0 :: vecL v.d s.b.m1 :: outL v.e s.out :: V⟩
      (fun o h' => ∃ v' : VersO, o = O ∧ h' = ⟨.live 61 (gaC s'.b s'.now v'.a v'.b v'.c v'.d (.func 39 [.ptr 1 0])) :: .live 40 [.vec 4 v'.e] :: B, vecL v'.a s'.b.p0 :: vecL v'.b s'.b.p1 :: vecL v'.c s'.b.m0 :: vecL v'.d s'.b.m1 :: outL v'.e s'.out :: V⟩) := by
  have := calls_ren (h := ⟨.live 61 (gaC s.b s.now v.a v.b v.c v.d (.func 39 [.ptr 1 0])) :: .live 40 [.vec 4 v.e] :: B, vecL v.a s.b.p0 :: vecL v.b s.b.p1 :: vecL v.c s.b.m0 :: vecL v.d s.b.m1 :: outL v.e s.out :: V⟩) [0, 1] [0, 1, 2, 3, 4] hc (by decide) (by decide) ⟨by simp [Bd], hx⟩ (by simp [goH, gaC, bdB, BdL, Bd]) (by simp [goH, vecL, outL, bdV, Bd])
    (by simp only [goH, gaC, go_sem, ↓reduceIte, Nat.reduceAdd, Nat.reduceSub, Nat.reduceMul, Nat.reduceEqDiff, Nat.reduceLT, Nat.reduceLeDiff, Int.reduceToNat, Int.reduceLE, Int.reduceLT, Int.reduceEq, Int.reduceNeg, reduceCtorEq]) (by simp only [goH, vecL, outL, go_sem, ↓reduceIte, Nat.reduceAdd, Nat.reduceSub, Nat.reduceMul, Nat.reduceEqDiff, Nat.reduceLT, Nat.reduceLeDiff, Int.reduceToNat, Int.reduceLE, Int.reduceLT, Int.reduceEq, Int.reduceNeg, reduceCtorEq]) (by intro k hk; simp at hk; simp [lenB]; omega) (by intro k hk; simp at hk; simp [lenV]; omega)
    (by rintro o h' ⟨v', rfl, rfl⟩; exact ⟨rfl, rfl, by simp [goH, gaC, bdB, BdL, Bd], by simp [goH, vecL, outL, bdV, Bd], hO⟩)
  simp only [renL, renS, hx'] at this
  refine calls_mono ?_ this
  rintro o h' ⟨o0, h0', ⟨v', rfl, rfl⟩, rfl, rfl⟩
  refine ⟨v', hO', ?_⟩
  simp only [goH, gaC, vecL, outL, go_sem, ↓reduceIte, Nat.reduceAdd, Nat.reduceSub, Nat.reduceMul, Nat.reduceEqDiff, Nat.reduceLT, Nat.reduceLeDiff, Int.reduceToNat, Int.reduceLE, Int.reduceLT, Int.reduceEq, Int.reduceNeg, reduceCtorEq]
end Go.Eng
end

/- clock: events one after the other (plain), and the deferred function. -/
section
namespace Go.Eng
open Go Go.RowKit Go.Proofs
set_option maxRecDepth 100000
set_option maxHeartbeats 4000000
attribute [local irreducible] OwnT DefS
theorem setB_last : ∀ (l : List Blk) (a b : Blk), setB (snocB l a) (lenB l) b = snocB l b
  | [], _, _ => rfl
  | x :: l, a, b => by simp [setB, snocB, lenB, setB_last l a b]
theorem def46_none (h : HS) (e : Nat) : DefS Try.prog 46 [.ptr e 0] none h (fun p' h' => p' = none ∧ h' = h) := by
  refine defS_of_run (C := cx [] [] [] [] (some [])) (cx_ok trivial trivial) (g := 46) (fn := Try.f46) fn_46 rfl rfl rfl 1000 1000 ?_
  simp only [Try.f46, go_sem, ↓reduceIte, Nat.reduceAdd, Nat.reduceSub, Nat.reduceMul, Nat.reduceEqDiff, Nat.reduceLT, Nat.reduceLeDiff, Int.reduceToNat, Int.reduceLE, Int.reduceLT, Int.reduceEq, Int.reduceNeg, reduceCtorEq]
theorem def46_some (h : HS) (e : Nat) (m k : Int) (he : getB h.blks e = .live 29 [.int .i64 k]) : DefS Try.prog 46 [.ptr e 0] (some (.iface 82 (.agg [.int .i64 m]))) h (fun p' h' => p' = none ∧ h' = { h with blks := setB (snocB h.blks (.live 82 [.int .i64 m])) e (.live 29 [.int .i64 m]) }) := by
  have hlt := getB_lt he
  have ha : ∀ b, getB (snocB h.blks b) (lenB h.blks) = b := fun b => by simp [getB_snoc]
  have hb : ∀ b, getB (snocB h.blks b) e = .live 29 [.int .i64 k] := fun b => by rw [getB_snoc, if_neg (by omega), he]
  refine defS_of_run (C := cx [] [] [] [] (some [])) (cx_ok trivial trivial) (g := 46) (fn := Try.f46) fn_46 rfl rfl rfl 1000 1000 ?_
  simp only [Try.f46, he, ha, hb, setB_last, go_sem, ↓reduceIte, Nat.reduceAdd, Nat.reduceSub, Nat.reduceMul, Nat.reduceEqDiff, Nat.reduceLT, Nat.reduceLeDiff, Int.reduceToNat, Int.reduceLE, Int.reduceLT, Int.reduceEq, Int.reduceNeg, reduceCtorEq]
def evOk (x : Ev) : Bool := in3 x.k 0 6 && in3 x.s 0 1048576 && (decide (x.k < 2) || in3 x.t 0 1) && (decide (x.k < 3) || in3 x.p 0 4095)
theorem evOk_iff {x : Ev} : evOk x = true ↔ (0 ≤ x.k ∧ x.k ≤ 6) ∧ (0 ≤ x.s ∧ x.s ≤ 1048576) ∧ (x.k < 2 ∨ (0 ≤ x.t ∧ x.t ≤ 1)) ∧ (x.k < 3 ∨ (0 ≤ x.p ∧ x.p ≤ 4095)) := by
  simp [evOk, in3_iff, and_assoc]
def isEventBase : BaseF := fun args => match args with
  | [.agg [.int .i64 k, .int .i64 s, .int .i64 t, .int .i64 p]] => some (True, .bool (evOk ⟨k, s, t, p⟩))
  | _ => none
theorem isEvent_eq (k : Int) (s : Int) (t : Int) (p : Int) : isEventBase [.agg [.int .i64 k, .int .i64 s, .int .i64 t, .int .i64 p]] = some (True, .bool (evOk ⟨k, s, t, p⟩)) := rfl
theorem isEvent_base : Base Try.prog 49 isEventBase := by
  intro args p v hq hp
  unfold isEventBase at hq
  split at hq
  rotate_left
  · cases hq
  rename_i k s t p
  cases hq
  refine base_of (C := cx [] [] [(32, withinBase)] [] none) (cx_ok trivial ⟨within_base, trivial⟩) rfl (g := 49) (fn := Try.f49)
    (args' := [.agg [.int .i64 k, .int .i64 s, .int .i64 t, .int .i64 p]]) (fn_49) rfl 1000 (by simp only [BdL, Bd, and_self, and_true, true_and]) ⟨SameD.rfl' _, trivial⟩ ?_
  simp only [within_eq, Try.f49, go_sem, ↓reduceIte, Nat.reduceAdd, Nat.reduceSub, Nat.reduceMul, Nat.reduceEqDiff, Nat.reduceLT, Nat.reduceLeDiff, Int.reduceToNat, Int.reduceLE, Int.reduceLT, Int.reduceEq, Int.reduceNeg, reduceCtorEq]
  all_goals repeat' refine spl_intro (fun _ => ?_) (fun _ => ?_)
  all_goals
    refine congrArg SV.bool (Bool.eq_iff_iff.2 ?_)
    simp only [evOk_iff, in3_iff, in3_false, decide_eq_true_eq, decide_eq_false_iff_not, Bool.not_eq_true', Bool.not_eq_false', Bool.false_eq_true] at *
    constructor <;> intro h <;> first | exact h.elim | rfl | omega
def eventRBase : BaseF := fun args => match args with
  | [.agg [.int .i64 k, .int .i64 s, .int .i64 t, .int .i64 p]] => some (True, .bool (evOk ⟨k, s, t, p⟩))
  | _ => none
theorem eventR_eq (k : Int) (s : Int) (t : Int) (p : Int) : eventRBase [.agg [.int .i64 k, .int .i64 s, .int .i64 t, .int .i64 p]] = some (True, .bool (evOk ⟨k, s, t, p⟩)) := rfl
theorem eventR_base : Base Try.prog 57 eventRBase := by
  intro args p v hq hp
  unfold eventRBase at hq
  split at hq
  rotate_left
  · cases hq
  rename_i k s t p
  cases hq
  refine base_of (C := cx [] [] [(42, inBase)] [] none) (cx_ok trivial ⟨in_base, trivial⟩) rfl (g := 57) (fn := Try.f57)
    (args' := [.agg [.int .i64 k, .int .i64 s, .int .i64 t, .int .i64 p]]) (fn_57) rfl 1000 (by simp only [BdL, Bd, and_self, and_true, true_and]) ⟨SameD.rfl' _, trivial⟩ ?_
  simp only [in_eq, Try.f57, go_sem, ↓reduceIte, Nat.reduceAdd, Nat.reduceSub, Nat.reduceMul, Nat.reduceEqDiff, Nat.reduceLT, Nat.reduceLeDiff, Int.reduceToNat, Int.reduceLE, Int.reduceLT, Int.reduceEq, Int.reduceNeg, reduceCtorEq]
  all_goals repeat' refine spl_intro (fun _ => ?_) (fun _ => ?_)
  all_goals
    refine congrArg SV.bool (Bool.eq_iff_iff.2 ?_)
    simp only [evOk_iff, in3_iff, in3_false, decide_eq_true_eq, decide_eq_false_iff_not, Bool.not_eq_true', Bool.not_eq_false', Bool.false_eq_true] at *
    constructor <;> intro h <;> first | exact h.elim | rfl | omega
def passF (s : Ga) (to : Int) : Ga := passP (to - s.now).toNat s to
/-- The game behind events up to a second, how many were right, and the error. -/
def playP (ev : Nat → Ev) (to : Int) : Nat → Nat → Ga → Ga × Nat × Int
  | 0, i, s => (s, i, 0)
  | k + 1, i, s => if evOk (ev i) = false then (s, i, 1) else if i ≠ 0 ∧ (ev i).s < (ev (i - 1)).s then (s, i, 7) else
    if (ev i).s ≤ to then
      if ((passF s (ev i).s).b.deed (ev i)).2 ≠ 0 then (⟨((passF s (ev i).s).b.deed (ev i)).1, (ev i).s, (passF s (ev i).s).out⟩, i, ((passF s (ev i).s).b.deed (ev i)).2)
      else playP ev to k (i + 1) ⟨((passF s (ev i).s).b.deed (ev i)).1, (ev i).s, (passF s (ev i).s).out⟩
    else playP ev to k (i + 1) s
theorem passF_now (s : Ga) (to : Int) : (passF s to).now = to := passP_now _ _
theorem passF_ok {to : Int} (hto : 0 ≤ to ∧ to ≤ 1048576) {s : Ga} (h : s.Ok) : (passF s to).Ok := passP_ok hto _ _ h
/-- How much there can be behind n events. -/
structure Bo.Cnt (b : Bo) (n : Nat) : Prop where
  p0 : b.p0.length ≤ 2 * n
  p1 : b.p1.length ≤ 2 * n
  m0 : b.m0.length ≤ 2 * n
  m1 : b.m1.length ≤ 2 * n
  g0 : b.g0 ≤ n
  g1 : b.g1 ≤ n
theorem goneW_len (m : Nat) (w : Nat → Int) (n : Int) (l : List Pen) : (goneW m w n l).length ≤ l.length := by
  refine Nat.le_trans (List.length_filter_le _ _) ?_
  unfold decW
  rw [pl_len]
  exact Nat.le_refl _
theorem passP_cnt {to : Int} {n : Nat} : ∀ (k : Nat) (s : Ga), s.b.Cnt n → (passP k s to).b.Cnt n
  | 0, s, h => h
  | k + 1, s, h => by
    simp only [passP]
    split
    · refine passP_cnt k _ ⟨Nat.le_trans (goneW_len _ _ _ _) h.p0, Nat.le_trans (goneW_len _ _ _ _) h.p1, Nat.le_trans (goneW_len _ _ _ _) h.m0, Nat.le_trans (goneW_len _ _ _ _) h.m1, h.g0, h.g1⟩
    · exact h
theorem goalL_sub (l : List Pen) : (goalL l).length ≤ l.length ∧ ∀ p ∈ goalL l, p ∈ l := by
  unfold goalL
  split
  · exact ⟨by rw [List.length_eraseIdx]; split <;> omega, fun p hp => List.mem_of_mem_eraseIdx hp⟩
  · split
    · exact ⟨by rw [List.length_eraseIdx]; split <;> omega, fun p hp => List.mem_of_mem_eraseIdx hp⟩
    · exact ⟨Nat.le_refl _, fun p hp => hp⟩
theorem gives_ok (k p : Int) : (gives k p).length ≤ 2 ∧ ∀ q ∈ gives k p, 1 ≤ q.l ∧ q.l ≤ 1000 := by
  unfold gives
  repeat' split
  all_goals simp
theorem givesM_ok (k p : Int) : (givesM k p).length ≤ 2 ∧ ∀ q ∈ givesM k p, 1 ≤ q.l ∧ q.l ≤ 1000 := by
  unfold givesM
  repeat' split
  all_goals simp
theorem deed_cnt {b : Bo} {n : Nat} (h : b.Cnt n) (x : Ev) : (b.deed x).1.Cnt (n + 1) := by
  obtain ⟨h0, h1, h2, h3, h4, h5⟩ := h
  have a1 := (gives_ok x.k x.p).1
  have a2 := (givesM_ok x.k x.p).1
  have b0 := (goalL_sub b.p0).1
  have b1 := (goalL_sub b.p1).1
  unfold Bo.deed Bo.start Bo.stop Bo.goal Bo.give
  repeat' split
  all_goals constructor
  all_goals simp only [List.length_append]
  all_goals omega
theorem lOk_app {l k : List Pen} (h : lOk l) (hl : (l ++ k).length ≤ 100000) (hk : ∀ p ∈ k, 1 ≤ p.l ∧ p.l ≤ 1000) : lOk (l ++ k) :=
  ⟨hl, fun p hp => by rcases List.mem_append.1 hp with h1 | h1; exact h.2 p h1; exact hk p h1⟩
theorem lOk_goal {l : List Pen} (h : lOk l) : lOk (goalL l) := ⟨Nat.le_trans (goalL_sub l).1 h.1, fun p hp => h.2 p ((goalL_sub l).2 p hp)⟩
theorem deed_ok {s : Ga} (h : s.Ok) {n : Nat} (hc : s.b.Cnt n) (hn : n ≤ 1000) (x : Ev) : (⟨(s.b.deed x).1, s.now, s.out⟩ : Ga).Ok := by
  have hc1 := deed_cnt hc x
  obtain ⟨⟨h1, h2, h3, h4, h5, h6, h7, h8, h9⟩, h10, h11⟩ := h
  obtain ⟨c0, c1, c2, c3, c4, c5⟩ := hc1
  have a1 := (gives_ok x.k x.p).2
  have a2 := (givesM_ok x.k x.p).2
  have b0 := lOk_goal h6
  have b1 := lOk_goal h7
  have key : ∀ r : Bo, (0 ≤ r.per ∧ r.per ≤ 2) → (0 ≤ r.pl ∧ r.pl ≤ 1200) → (r.run = true → r.pl < 1200) → 0 ≤ r.g0 → 0 ≤ r.g1 → (∀ p ∈ r.p0, 1 ≤ p.l ∧ p.l ≤ 1000) → (∀ p ∈ r.p1, 1 ≤ p.l ∧ p.l ≤ 1000) → (∀ p ∈ r.m0, 1 ≤ p.l ∧ p.l ≤ 1000) → (∀ p ∈ r.m1, 1 ≤ p.l ∧ p.l ≤ 1000) →
      s.b.per * 1200 + s.b.pl ≤ r.per * 1200 + r.pl → r = (s.b.deed x).1 → (⟨r, s.now, s.out⟩ : Ga).Ok := fun r k1 k2 k3 k4 k5 k6 k7 k8 k9 k10 e => by
    subst e
    exact ⟨⟨k1, k2, k3, ⟨k4, by dsimp only; omega⟩, ⟨k5, by dsimp only; omega⟩, ⟨by dsimp only; omega, k6⟩, ⟨by dsimp only; omega, k7⟩, ⟨by dsimp only; omega, k8⟩, ⟨by dsimp only; omega, k9⟩⟩, h10, by dsimp only; omega⟩
  have app : ∀ {l k : List Pen}, (∀ p ∈ l, 1 ≤ p.l ∧ p.l ≤ 1000) → (∀ p ∈ k, 1 ≤ p.l ∧ p.l ≤ 1000) → ∀ p ∈ l ++ k, 1 ≤ p.l ∧ p.l ≤ 1000 := fun h1 h2 p hp => by
    rcases List.mem_append.1 hp with h | h
    · exact h1 p h
    · exact h2 p h
  refine key _ ?_ ?_ ?_ ?_ ?_ ?_ ?_ ?_ ?_ ?_ rfl
  all_goals clear key c0 c1 c2 c3 c4 c5 hc
  all_goals unfold Bo.deed Bo.start Bo.stop Bo.goal Bo.give
  all_goals repeat' split
  all_goals first
    | exact h6.2 | exact h7.2 | exact h8.2 | exact h9.2 | exact b0.2 | exact b1.2 | exact app h6.2 a1 | exact app h7.2 a1 | exact app h8.2 a2 | exact app h9.2 a2
    | exact h1 | exact h2 | exact h3 | (simp only []; omega) | (intro h; simp only [] at h ⊢; first | omega | cases h | (rename_i q; exact absurd h q)) | skip
end Go.Eng
end

/- clock: play. -/
section
namespace Go.Eng
open Go Go.RowKit Go.Proofs
set_option maxRecDepth 100000
set_option maxHeartbeats 4000000
attribute [local irreducible] OwnT DefS
def evN (l : Nat → Nat → Int) (i : Nat) : Ev := ⟨l i 0, l i 1, l i 2, l i 3⟩
def q30_10 : Plan := .quiet 0 (.quiet 1 (.quiet 2 (.quiet 3 (.quiet 4 (.loud 5 [] (.done))))))

def plK (r : Ga × Nat × Int) (o : Out) (h' : HS) : Prop := ∃ (v' : Vers) (B : List Blk) (V : List Vc), o = .ret (.tup [.int .i64 (r.2.1 : Int), .int .i64 r.2.2]) ∧ h' = ⟨.live 61 (gaC r.1.b r.1.now v'.a v'.b v'.c v'.d .nilf) :: B, vecL v'.a r.1.b.p0 :: vecL v'.b r.1.b.p1 :: vecL v'.c r.1.b.m0 :: vecL v'.d r.1.b.m1 :: V⟩

theorem play_calls {s : Ga} (hs : s.Ok) (hc0 : s.b.Cnt 0) {n : Nat} (hn : n ≤ 300) {l : Nat → Nat → Int} {to : Int} (hto : 0 ≤ to ∧ to ≤ 1048576) (v : Vers) :
    CallsS Try.prog 30 [.ptr 0 0, .row n 4 (fun i j => .int .i64 (l i j)), .int .i64 to] (gaH s v)
      (fun o h' => ∃ v', o = .ret (.tup [.int .i64 ((playP (evN l) to n 0 s).2.1 : Int), .int .i64 (playP (evN l) to n 0 s).2.2]) ∧ h' = gaH (playP (evN l) to n 0 s).1 v') := by
  refine calls_trim (K := plK (playP (evN l) to n 0 s)) ?_ ?_
  · refine calls_of_defer (C := cx [50, 59, 60, 61, 62] [] [(49, isEventBase)] [(30, 7, p30_7), (30, 10, q30_10)] (some [6, 7])) (cx_ok trivial ⟨isEvent_base, trivial⟩) (g := 30) (fn := Try.f30) fn_30 rfl rfl 1000 1000 ?_
    simp only [gaH, gaC, vecL, outL, Try.f30, Try.f47, go_sem, ↓reduceIte, Nat.reduceAdd, Nat.reduceSub, Nat.reduceMul, Nat.reduceEqDiff, Nat.reduceLT, Nat.reduceLeDiff, Int.reduceToNat, Int.reduceLE, Int.reduceLT, Int.reduceEq, Int.reduceNeg, reduceCtorEq]
    refine loop_of { x : Nat × Ga × Vers // x.1 ≤ n ∧ x.2.1.Ok ∧ x.2.1.b.Cnt x.1 ∧ playP (evN l) to (n - x.1) x.1 x.2.1 = playP (evN l) to n 0 s }
      (fun x => [(16, .int .i64 (x.1.1 : Int)), (15, .int .i64 (n : Int)), (14, .row n 4 (fun i j => .int .i64 (l i j))), (8, .ptr 3 0), (7, .ptr 1 0), (6, .int .i64 (x.1.1 : Int)), (2, .int .i64 to), (1, .row n 4 (fun i j => .int .i64 (l i j))), (0, .ptr 0 0)])
      (fun x => ⟨[.live 61 (gaC x.1.2.1.b x.1.2.1.now x.1.2.2.a x.1.2.2.b x.1.2.2.c x.1.2.2.d .nilf), .live 29 [.int .i64 0], .dead, .live 85 [.meth 59 [.ptr 0 0], .meth 60 [.ptr 0 0], .meth 61 [.ptr 0 0], .meth 62 [.ptr 0 0], .meth 62 [.ptr 0 0], .meth 62 [.ptr 0 0], .meth 62 [.ptr 0 0]]],
        [vecL x.1.2.2.a x.1.2.1.b.p0, vecL x.1.2.2.b x.1.2.1.b.p1, vecL x.1.2.2.c x.1.2.1.b.m0, vecL x.1.2.2.d x.1.2.1.b.m1]⟩) (fun x => n - x.1.1) (fun _ => ⟨rfl, rfl⟩) ⟨(0, s, v), by omega, hs, hc0, rfl⟩ (by simp only [gaC, vecL, outL]; (apply sub_of <;> simp only [go_sem, ↓reduceIte, Nat.reduceAdd, Nat.reduceSub, Nat.reduceMul, Nat.reduceEqDiff, Nat.reduceLT, Nat.reduceLeDiff, Int.reduceToNat, Int.reduceLE, Int.reduceLT, Int.reduceEq, Int.reduceNeg, reduceCtorEq] <;> (try simp [catF]) <;> (try exact fun j _ => Bd_nth (by simp [BdL, Bd]) j) <;> (try exact bd_setL (by simp [bdAs, BdL, Bd])) <;> (try exact nestF_bd _ _ _ _ _ _ _ _ _))) ?_
    rintro ⟨⟨i, S, v⟩, hi, hs', hc, hp⟩
    simp only at hi hs' hc hp
    simp only [gaC, vecL, outL, Try.f30, Try.f48, isEvent_eq, p30_7, q30_10, go_sem, ↓reduceIte, Nat.reduceAdd, Nat.reduceSub, Nat.reduceMul, Nat.reduceEqDiff, Nat.reduceLT, Nat.reduceLeDiff, Int.reduceToNat, Int.reduceLE, Int.reduceLT, Int.reduceEq, Int.reduceNeg, reduceCtorEq]
    have hw3 : IntKind.i64.wrap ((i : Int) + 1) = ((i + 1 : Nat) : Int) := by rw [wrap_id (by omega) (by omega)]; omega
    refine ⟨fun e1 => ?_, fun e1 => ?_⟩
    all_goals simp only [decide_eq_true_eq, decide_eq_false_iff_not] at e1
    · obtain ⟨k, hk⟩ : ∃ k, n - i = k + 1 := ⟨n - i - 1, by omega⟩
      rw [hk] at hp
      have hwm : i ≠ 0 → IntKind.i64.wrap ((i : Int) - 1) = ((i - 1 : Nat) : Int) := fun h => by rw [wrap_id (by omega) (by omega)]; omega
      have goOn : evOk (evN l i) = true → ¬ (i ≠ 0 ∧ (evN l i).s < (evN l (i - 1)).s) → ¬ (evN l i).s ≤ to → playP (evN l) to k (i + 1) S = playP (evN l) to n 0 s := fun h1 h2 h3 => by
        rw [← hp, playP, if_neg (by rw [h1]; simp), if_neg h2, if_neg h3]
      have bad : evOk (evN l i) = true → ¬ (i ≠ 0 ∧ (evN l i).s < (evN l (i - 1)).s) → (evN l i).s ≤ to → ((passF S (evN l i).s).b.deed (evN l i)).2 ≠ 0 → playP (evN l) to n 0 s = (⟨((passF S (evN l i).s).b.deed (evN l i)).1, (evN l i).s, (passF S (evN l i).s).out⟩, i, ((passF S (evN l i).s).b.deed (evN l i)).2) := fun h1 h2 h3 h4 => by
        rw [← hp, playP, if_neg (by rw [h1]; simp), if_neg h2, if_pos h3, if_pos h4]
      have good : evOk (evN l i) = true → ¬ (i ≠ 0 ∧ (evN l i).s < (evN l (i - 1)).s) → (evN l i).s ≤ to → ((passF S (evN l i).s).b.deed (evN l i)).2 = 0 → playP (evN l) to k (i + 1) ⟨((passF S (evN l i).s).b.deed (evN l i)).1, (evN l i).s, (passF S (evN l i).s).out⟩ = playP (evN l) to n 0 s := fun h1 h2 h3 h4 => by
        rw [← hp, playP, if_neg (by rw [h1]; simp), if_neg h2, if_pos h3, if_neg (by rw [h4]; simp)]
      refine ⟨⟨by omega, by omega⟩, fun e2 => ?_, fun e2 => ⟨⟨by kernel_rfl, by kernel_rfl⟩, fun e3 => ⟨fun e4 => ?_, fun e4 => ?_⟩, fun e3 => ⟨?_, fun e4 => ?_, fun e4 => ⟨fun e5 => ?_, fun e5 => ?_⟩⟩⟩⟩
      · have hpl : playP (evN l) to n 0 s = (S, i, 1) := by
          rw [← hp, playP, if_pos]
          simpa [evN] using e2
        rw [hpl]
        refine defS_mono (def46_some _ _ _ 0 (by simp only [go_sem, ↓reduceIte, Nat.reduceAdd, Nat.reduceSub, Nat.reduceMul, Nat.reduceEqDiff, Nat.reduceLT, Nat.reduceLeDiff, Int.reduceToNat, Int.reduceLE, Int.reduceLT, Int.reduceEq, Int.reduceNeg, reduceCtorEq])) ?_
        rintro p' h' ⟨rfl, rfl⟩
        simp only [go_sem, ↓reduceIte, Nat.reduceAdd, Nat.reduceSub, Nat.reduceMul, Nat.reduceEqDiff, Nat.reduceLT, Nat.reduceLeDiff, Int.reduceToNat, Int.reduceLE, Int.reduceLT, Int.reduceEq, Int.reduceNeg, reduceCtorEq]
        exact ⟨v, _, _, rfl, rfl⟩
      · -- the first event
        have hev : evOk (evN l i) = true := by simpa [evN] using e2
        have hord : ¬ (i ≠ 0 ∧ (evN l i).s < (evN l (i - 1)).s) := by simp only [decide_eq_true_eq] at e3; omega
        have hto2 : (evN l i).s ≤ to := by simpa [evN] using e4
        have hx := evOk_iff.1 hev
        simp only [evN] at hx
        have hl1 : (evN l i).s = l i 1 := rfl
        unfold callS
        refine calls_mono ?_ (ga_at (xs := [.int .i64 (l i 1)]) (O := .ret (.tup [])) (by simp [BdL, Bd]) rfl (by simp [bdO, Bd, BdL]) rfl (pass_calls hs' hx.2.1 v (l i 1 - S.now).toNat (by omega)) _ _)
        rintro o h' ⟨v1, rfl, rfl⟩
        have h1 := passF_ok hx.2.1 hs'
        have h2 : (passF S (l i 1)).now = l i 1 := passF_now _ _
        have h3 : (passF S (l i 1)).b.Cnt i := passP_cnt _ _ hc
        have hbad := bad hev hord hto2
        have hgood := good hev hord hto2
        rw [hl1] at hbad hgood
        rw [show passP (l i 1 - S.now).toNat S (l i 1) = passF S (l i 1) from rfl]
        generalize passF S (l i 1) = S1 at h1 h2 h3 hbad hgood
        have hki : l i 0 = 0 ∨ l i 0 = 1 ∨ l i 0 = 2 ∨ l i 0 = 3 ∨ l i 0 = 4 ∨ l i 0 = 5 ∨ l i 0 = 6 := by omega
        have hkk : (evN l i).k = l i 0 := rfl
        have hd1 := deed_ok h1 h3 (by omega) (evN l i)
        have hd2 := deed_cnt h3 (evN l i)
        have bO : ∀ r : Bo × Int, ∀ L M, bdO L M (deedO r) := fun r L M => by unfold deedO; split <;> simp [bdO, Bd, BdL]
        have rO : ∀ r : Bo × Int, ∀ b u, renO b u (deedO r) = deedO r := fun r b u => by unfold deedO; split <;> rfl
        rcases hki with hk0 | hk0 | hk0 | hk0 | hk0 | hk0 | hk0
        · have hr : S1.b.deed (evN l i) = S1.b.start := by simp [Bo.deed, hkk, hk0]
          simp only [hk0, gaC, vecL, outL, Try.f30, Try.f48, q30_10, go_sem, ↓reduceIte, Nat.reduceAdd, Nat.reduceSub, Nat.reduceMul, Nat.reduceEqDiff, Nat.reduceLT, Nat.reduceLeDiff, Int.reduceToNat, Int.reduceLE, Int.reduceLT, Int.reduceEq, Int.reduceNeg, reduceCtorEq]
          refine ⟨⟨by kernel_rfl, by kernel_rfl⟩, by omega, ?_⟩
          refine calls_mono ?_ (ga_at (xs := [evS ⟨0, l i 1, l i 2, l i 3⟩]) (O := deedO (S1.b.start)) (by simp [evS, BdL, Bd]) rfl (bO _ _ _) (rO _ _ _) (start_calls h1 v1 _) _ _)
          rw [← hr]
          rintro o h' ⟨v2, rfl, rfl⟩
          rw [h2] at hd1 ⊢
          generalize S1.b.deed (evN l i) = r at hbad hgood hd1 hd2
          by_cases h0 : r.2 = 0
          · rw [deedO, if_pos h0]
            simp only [gaC, vecL, outL, Try.f30, Try.f48, q30_10, go_sem, ↓reduceIte, Nat.reduceAdd, Nat.reduceSub, Nat.reduceMul, Nat.reduceEqDiff, Nat.reduceLT, Nat.reduceLeDiff, Int.reduceToNat, Int.reduceLE, Int.reduceLT, Int.reduceEq, Int.reduceNeg, reduceCtorEq]
            refine ⟨⟨(i + 1, ⟨r.1, l i 1, S1.out⟩, v2), by omega, hd1, hd2, ?_⟩, by simp only []; omega, ?_⟩
            · simp only []
              rw [show n - (i + 1) = k by omega]
              exact hgood h0
            · apply sub_of <;> simp only [hw3, gaC, vecL, outL, go_sem, ↓reduceIte, Nat.reduceAdd, Nat.reduceSub, Nat.reduceMul, Nat.reduceEqDiff, Nat.reduceLT, Nat.reduceLeDiff, Int.reduceToNat, Int.reduceLE, Int.reduceLT, Int.reduceEq, Int.reduceNeg, reduceCtorEq] <;> (try simp) <;> (try exact fun j _ => Bd_nth (by simp [BdL, Bd]) j) <;> (try exact bd_setL (by simp [bdAs, BdL, Bd])) <;> (try exact nestF_bd _ _ _ _ _ _ _ _ _)
          · rw [deedO, if_neg h0]
            simp only [gaC, vecL, outL, Try.f30, Try.f48, q30_10, go_sem, ↓reduceIte, Nat.reduceAdd, Nat.reduceSub, Nat.reduceMul, Nat.reduceEqDiff, Nat.reduceLT, Nat.reduceLeDiff, Int.reduceToNat, Int.reduceLE, Int.reduceLT, Int.reduceEq, Int.reduceNeg, reduceCtorEq]
            refine defS_mono (def46_some _ _ _ 0 (by simp only [go_sem, ↓reduceIte, Nat.reduceAdd, Nat.reduceSub, Nat.reduceMul, Nat.reduceEqDiff, Nat.reduceLT, Nat.reduceLeDiff, Int.reduceToNat, Int.reduceLE, Int.reduceLT, Int.reduceEq, Int.reduceNeg, reduceCtorEq])) ?_
            rintro p' h' ⟨rfl, rfl⟩
            simp only [go_sem, ↓reduceIte, Nat.reduceAdd, Nat.reduceSub, Nat.reduceMul, Nat.reduceEqDiff, Nat.reduceLT, Nat.reduceLeDiff, Int.reduceToNat, Int.reduceLE, Int.reduceLT, Int.reduceEq, Int.reduceNeg, reduceCtorEq]
            rw [hbad h0]
            exact ⟨v2, _, _, rfl, rfl⟩
        · have hr : S1.b.deed (evN l i) = S1.b.stop := by simp [Bo.deed, hkk, hk0]
          simp only [hk0, gaC, vecL, outL, Try.f30, Try.f48, q30_10, go_sem, ↓reduceIte, Nat.reduceAdd, Nat.reduceSub, Nat.reduceMul, Nat.reduceEqDiff, Nat.reduceLT, Nat.reduceLeDiff, Int.reduceToNat, Int.reduceLE, Int.reduceLT, Int.reduceEq, Int.reduceNeg, reduceCtorEq]
          refine ⟨⟨by kernel_rfl, by kernel_rfl⟩, by omega, ?_⟩
          refine calls_mono ?_ (ga_at (xs := [evS ⟨1, l i 1, l i 2, l i 3⟩]) (O := deedO (S1.b.stop)) (by simp [evS, BdL, Bd]) rfl (bO _ _ _) (rO _ _ _) (stop_calls v1 _) _ _)
          rw [← hr]
          rintro o h' ⟨v2, rfl, rfl⟩
          rw [h2] at hd1 ⊢
          generalize S1.b.deed (evN l i) = r at hbad hgood hd1 hd2
          by_cases h0 : r.2 = 0
          · rw [deedO, if_pos h0]
            simp only [gaC, vecL, outL, Try.f30, Try.f48, q30_10, go_sem, ↓reduceIte, Nat.reduceAdd, Nat.reduceSub, Nat.reduceMul, Nat.reduceEqDiff, Nat.reduceLT, Nat.reduceLeDiff, Int.reduceToNat, Int.reduceLE, Int.reduceLT, Int.reduceEq, Int.reduceNeg, reduceCtorEq]
            refine ⟨⟨(i + 1, ⟨r.1, l i 1, S1.out⟩, v2), by omega, hd1, hd2, ?_⟩, by simp only []; omega, ?_⟩
            · simp only []
              rw [show n - (i + 1) = k by omega]
              exact hgood h0
            · apply sub_of <;> simp only [hw3, gaC, vecL, outL, go_sem, ↓reduceIte, Nat.reduceAdd, Nat.reduceSub, Nat.reduceMul, Nat.reduceEqDiff, Nat.reduceLT, Nat.reduceLeDiff, Int.reduceToNat, Int.reduceLE, Int.reduceLT, Int.reduceEq, Int.reduceNeg, reduceCtorEq] <;> (try simp) <;> (try exact fun j _ => Bd_nth (by simp [BdL, Bd]) j) <;> (try exact bd_setL (by simp [bdAs, BdL, Bd])) <;> (try exact nestF_bd _ _ _ _ _ _ _ _ _)
          · rw [deedO, if_neg h0]
            simp only [gaC, vecL, outL, Try.f30, Try.f48, q30_10, go_sem, ↓reduceIte, Nat.reduceAdd, Nat.reduceSub, Nat.reduceMul, Nat.reduceEqDiff, Nat.reduceLT, Nat.reduceLeDiff, Int.reduceToNat, Int.reduceLE, Int.reduceLT, Int.reduceEq, Int.reduceNeg, reduceCtorEq]
            refine defS_mono (def46_some _ _ _ 0 (by simp only [go_sem, ↓reduceIte, Nat.reduceAdd, Nat.reduceSub, Nat.reduceMul, Nat.reduceEqDiff, Nat.reduceLT, Nat.reduceLeDiff, Int.reduceToNat, Int.reduceLE, Int.reduceLT, Int.reduceEq, Int.reduceNeg, reduceCtorEq])) ?_
            rintro p' h' ⟨rfl, rfl⟩
            simp only [go_sem, ↓reduceIte, Nat.reduceAdd, Nat.reduceSub, Nat.reduceMul, Nat.reduceEqDiff, Nat.reduceLT, Nat.reduceLeDiff, Int.reduceToNat, Int.reduceLE, Int.reduceLT, Int.reduceEq, Int.reduceNeg, reduceCtorEq]
            rw [hbad h0]
            exact ⟨v2, _, _, rfl, rfl⟩
        · have hr : S1.b.deed (evN l i) = S1.b.goal (l i 2) := by simp [Bo.deed, hkk, hk0]; rfl
          simp only [hk0, gaC, vecL, outL, Try.f30, Try.f48, q30_10, go_sem, ↓reduceIte, Nat.reduceAdd, Nat.reduceSub, Nat.reduceMul, Nat.reduceEqDiff, Nat.reduceLT, Nat.reduceLeDiff, Int.reduceToNat, Int.reduceLE, Int.reduceLT, Int.reduceEq, Int.reduceNeg, reduceCtorEq]
          refine ⟨⟨by kernel_rfl, by kernel_rfl⟩, by omega, ?_⟩
          refine calls_mono ?_ (ga_at (xs := [evS ⟨2, l i 1, l i 2, l i 3⟩]) (O := deedO (S1.b.goal (l i 2))) (by simp [evS, BdL, Bd]) rfl (bO _ _ _) (rO _ _ _) (goal_calls h1 v1 _ (by dsimp only; omega)) _ _)
          rw [← hr]
          rintro o h' ⟨v2, rfl, rfl⟩
          rw [h2] at hd1 ⊢
          generalize S1.b.deed (evN l i) = r at hbad hgood hd1 hd2
          by_cases h0 : r.2 = 0
          · rw [deedO, if_pos h0]
            simp only [gaC, vecL, outL, Try.f30, Try.f48, q30_10, go_sem, ↓reduceIte, Nat.reduceAdd, Nat.reduceSub, Nat.reduceMul, Nat.reduceEqDiff, Nat.reduceLT, Nat.reduceLeDiff, Int.reduceToNat, Int.reduceLE, Int.reduceLT, Int.reduceEq, Int.reduceNeg, reduceCtorEq]
            refine ⟨⟨(i + 1, ⟨r.1, l i 1, S1.out⟩, v2), by omega, hd1, hd2, ?_⟩, by simp only []; omega, ?_⟩
            · simp only []
              rw [show n - (i + 1) = k by omega]
              exact hgood h0
            · apply sub_of <;> simp only [hw3, gaC, vecL, outL, go_sem, ↓reduceIte, Nat.reduceAdd, Nat.reduceSub, Nat.reduceMul, Nat.reduceEqDiff, Nat.reduceLT, Nat.reduceLeDiff, Int.reduceToNat, Int.reduceLE, Int.reduceLT, Int.reduceEq, Int.reduceNeg, reduceCtorEq] <;> (try simp) <;> (try exact fun j _ => Bd_nth (by simp [BdL, Bd]) j) <;> (try exact bd_setL (by simp [bdAs, BdL, Bd])) <;> (try exact nestF_bd _ _ _ _ _ _ _ _ _)
          · rw [deedO, if_neg h0]
            simp only [gaC, vecL, outL, Try.f30, Try.f48, q30_10, go_sem, ↓reduceIte, Nat.reduceAdd, Nat.reduceSub, Nat.reduceMul, Nat.reduceEqDiff, Nat.reduceLT, Nat.reduceLeDiff, Int.reduceToNat, Int.reduceLE, Int.reduceLT, Int.reduceEq, Int.reduceNeg, reduceCtorEq]
            refine defS_mono (def46_some _ _ _ 0 (by simp only [go_sem, ↓reduceIte, Nat.reduceAdd, Nat.reduceSub, Nat.reduceMul, Nat.reduceEqDiff, Nat.reduceLT, Nat.reduceLeDiff, Int.reduceToNat, Int.reduceLE, Int.reduceLT, Int.reduceEq, Int.reduceNeg, reduceCtorEq])) ?_
            rintro p' h' ⟨rfl, rfl⟩
            simp only [go_sem, ↓reduceIte, Nat.reduceAdd, Nat.reduceSub, Nat.reduceMul, Nat.reduceEqDiff, Nat.reduceLT, Nat.reduceLeDiff, Int.reduceToNat, Int.reduceLE, Int.reduceLT, Int.reduceEq, Int.reduceNeg, reduceCtorEq]
            rw [hbad h0]
            exact ⟨v2, _, _, rfl, rfl⟩
        · have hr : S1.b.deed (evN l i) = S1.b.give 3 (l i 2) (l i 3) := by simp [Bo.deed, hkk, hk0]; rfl
          simp only [hk0, gaC, vecL, outL, Try.f30, Try.f48, q30_10, go_sem, ↓reduceIte, Nat.reduceAdd, Nat.reduceSub, Nat.reduceMul, Nat.reduceEqDiff, Nat.reduceLT, Nat.reduceLeDiff, Int.reduceToNat, Int.reduceLE, Int.reduceLT, Int.reduceEq, Int.reduceNeg, reduceCtorEq]
          refine ⟨⟨by kernel_rfl, by kernel_rfl⟩, by omega, ?_⟩
          refine calls_mono ?_ (ga_at (xs := [evS ⟨3, l i 1, l i 2, l i 3⟩]) (O := deedO (S1.b.give 3 (l i 2) (l i 3))) (by simp [evS, BdL, Bd]) rfl (bO _ _ _) (rO _ _ _) (give_calls h1 v1 _ (by dsimp only; omega) (by dsimp only; omega)) _ _)
          rw [← hr]
          rintro o h' ⟨v2, rfl, rfl⟩
          rw [h2] at hd1 ⊢
          generalize S1.b.deed (evN l i) = r at hbad hgood hd1 hd2
          by_cases h0 : r.2 = 0
          · rw [deedO, if_pos h0]
            simp only [gaC, vecL, outL, Try.f30, Try.f48, q30_10, go_sem, ↓reduceIte, Nat.reduceAdd, Nat.reduceSub, Nat.reduceMul, Nat.reduceEqDiff, Nat.reduceLT, Nat.reduceLeDiff, Int.reduceToNat, Int.reduceLE, Int.reduceLT, Int.reduceEq, Int.reduceNeg, reduceCtorEq]
            refine ⟨⟨(i + 1, ⟨r.1, l i 1, S1.out⟩, v2), by omega, hd1, hd2, ?_⟩, by simp only []; omega, ?_⟩
            · simp only []
              rw [show n - (i + 1) = k by omega]
              exact hgood h0
            · apply sub_of <;> simp only [hw3, gaC, vecL, outL, go_sem, ↓reduceIte, Nat.reduceAdd, Nat.reduceSub, Nat.reduceMul, Nat.reduceEqDiff, Nat.reduceLT, Nat.reduceLeDiff, Int.reduceToNat, Int.reduceLE, Int.reduceLT, Int.reduceEq, Int.reduceNeg, reduceCtorEq] <;> (try simp) <;> (try exact fun j _ => Bd_nth (by simp [BdL, Bd]) j) <;> (try exact bd_setL (by simp [bdAs, BdL, Bd])) <;> (try exact nestF_bd _ _ _ _ _ _ _ _ _)
          · rw [deedO, if_neg h0]
            simp only [gaC, vecL, outL, Try.f30, Try.f48, q30_10, go_sem, ↓reduceIte, Nat.reduceAdd, Nat.reduceSub, Nat.reduceMul, Nat.reduceEqDiff, Nat.reduceLT, Nat.reduceLeDiff, Int.reduceToNat, Int.reduceLE, Int.reduceLT, Int.reduceEq, Int.reduceNeg, reduceCtorEq]
            refine defS_mono (def46_some _ _ _ 0 (by simp only [go_sem, ↓reduceIte, Nat.reduceAdd, Nat.reduceSub, Nat.reduceMul, Nat.reduceEqDiff, Nat.reduceLT, Nat.reduceLeDiff, Int.reduceToNat, Int.reduceLE, Int.reduceLT, Int.reduceEq, Int.reduceNeg, reduceCtorEq])) ?_
            rintro p' h' ⟨rfl, rfl⟩
            simp only [go_sem, ↓reduceIte, Nat.reduceAdd, Nat.reduceSub, Nat.reduceMul, Nat.reduceEqDiff, Nat.reduceLT, Nat.reduceLeDiff, Int.reduceToNat, Int.reduceLE, Int.reduceLT, Int.reduceEq, Int.reduceNeg, reduceCtorEq]
            rw [hbad h0]
            exact ⟨v2, _, _, rfl, rfl⟩
        · have hr : S1.b.deed (evN l i) = S1.b.give 4 (l i 2) (l i 3) := by simp [Bo.deed, hkk, hk0]; rfl
          simp only [hk0, gaC, vecL, outL, Try.f30, Try.f48, q30_10, go_sem, ↓reduceIte, Nat.reduceAdd, Nat.reduceSub, Nat.reduceMul, Nat.reduceEqDiff, Nat.reduceLT, Nat.reduceLeDiff, Int.reduceToNat, Int.reduceLE, Int.reduceLT, Int.reduceEq, Int.reduceNeg, reduceCtorEq]
          refine ⟨⟨by kernel_rfl, by kernel_rfl⟩, by omega, ?_⟩
          refine calls_mono ?_ (ga_at (xs := [evS ⟨4, l i 1, l i 2, l i 3⟩]) (O := deedO (S1.b.give 4 (l i 2) (l i 3))) (by simp [evS, BdL, Bd]) rfl (bO _ _ _) (rO _ _ _) (give_calls h1 v1 _ (by dsimp only; omega) (by dsimp only; omega)) _ _)
          rw [← hr]
          rintro o h' ⟨v2, rfl, rfl⟩
          rw [h2] at hd1 ⊢
          generalize S1.b.deed (evN l i) = r at hbad hgood hd1 hd2
          by_cases h0 : r.2 = 0
          · rw [deedO, if_pos h0]
            simp only [gaC, vecL, outL, Try.f30, Try.f48, q30_10, go_sem, ↓reduceIte, Nat.reduceAdd, Nat.reduceSub, Nat.reduceMul, Nat.reduceEqDiff, Nat.reduceLT, Nat.reduceLeDiff, Int.reduceToNat, Int.reduceLE, Int.reduceLT, Int.reduceEq, Int.reduceNeg, reduceCtorEq]
            refine ⟨⟨(i + 1, ⟨r.1, l i 1, S1.out⟩, v2), by omega, hd1, hd2, ?_⟩, by simp only []; omega, ?_⟩
            · simp only []
              rw [show n - (i + 1) = k by omega]
              exact hgood h0
            · apply sub_of <;> simp only [hw3, gaC, vecL, outL, go_sem, ↓reduceIte, Nat.reduceAdd, Nat.reduceSub, Nat.reduceMul, Nat.reduceEqDiff, Nat.reduceLT, Nat.reduceLeDiff, Int.reduceToNat, Int.reduceLE, Int.reduceLT, Int.reduceEq, Int.reduceNeg, reduceCtorEq] <;> (try simp) <;> (try exact fun j _ => Bd_nth (by simp [BdL, Bd]) j) <;> (try exact bd_setL (by simp [bdAs, BdL, Bd])) <;> (try exact nestF_bd _ _ _ _ _ _ _ _ _)
          · rw [deedO, if_neg h0]
            simp only [gaC, vecL, outL, Try.f30, Try.f48, q30_10, go_sem, ↓reduceIte, Nat.reduceAdd, Nat.reduceSub, Nat.reduceMul, Nat.reduceEqDiff, Nat.reduceLT, Nat.reduceLeDiff, Int.reduceToNat, Int.reduceLE, Int.reduceLT, Int.reduceEq, Int.reduceNeg, reduceCtorEq]
            refine defS_mono (def46_some _ _ _ 0 (by simp only [go_sem, ↓reduceIte, Nat.reduceAdd, Nat.reduceSub, Nat.reduceMul, Nat.reduceEqDiff, Nat.reduceLT, Nat.reduceLeDiff, Int.reduceToNat, Int.reduceLE, Int.reduceLT, Int.reduceEq, Int.reduceNeg, reduceCtorEq])) ?_
            rintro p' h' ⟨rfl, rfl⟩
            simp only [go_sem, ↓reduceIte, Nat.reduceAdd, Nat.reduceSub, Nat.reduceMul, Nat.reduceEqDiff, Nat.reduceLT, Nat.reduceLeDiff, Int.reduceToNat, Int.reduceLE, Int.reduceLT, Int.reduceEq, Int.reduceNeg, reduceCtorEq]
            rw [hbad h0]
            exact ⟨v2, _, _, rfl, rfl⟩
        · have hr : S1.b.deed (evN l i) = S1.b.give 5 (l i 2) (l i 3) := by simp [Bo.deed, hkk, hk0]; rfl
          simp only [hk0, gaC, vecL, outL, Try.f30, Try.f48, q30_10, go_sem, ↓reduceIte, Nat.reduceAdd, Nat.reduceSub, Nat.reduceMul, Nat.reduceEqDiff, Nat.reduceLT, Nat.reduceLeDiff, Int.reduceToNat, Int.reduceLE, Int.reduceLT, Int.reduceEq, Int.reduceNeg, reduceCtorEq]
          refine ⟨⟨by kernel_rfl, by kernel_rfl⟩, by omega, ?_⟩
          refine calls_mono ?_ (ga_at (xs := [evS ⟨5, l i 1, l i 2, l i 3⟩]) (O := deedO (S1.b.give 5 (l i 2) (l i 3))) (by simp [evS, BdL, Bd]) rfl (bO _ _ _) (rO _ _ _) (give_calls h1 v1 _ (by dsimp only; omega) (by dsimp only; omega)) _ _)
          rw [← hr]
          rintro o h' ⟨v2, rfl, rfl⟩
          rw [h2] at hd1 ⊢
          generalize S1.b.deed (evN l i) = r at hbad hgood hd1 hd2
          by_cases h0 : r.2 = 0
          · rw [deedO, if_pos h0]
            simp only [gaC, vecL, outL, Try.f30, Try.f48, q30_10, go_sem, ↓reduceIte, Nat.reduceAdd, Nat.reduceSub, Nat.reduceMul, Nat.reduceEqDiff, Nat.reduceLT, Nat.reduceLeDiff, Int.reduceToNat, Int.reduceLE, Int.reduceLT, Int.reduceEq, Int.reduceNeg, reduceCtorEq]
            refine ⟨⟨(i + 1, ⟨r.1, l i 1, S1.out⟩, v2), by omega, hd1, hd2, ?_⟩, by simp only []; omega, ?_⟩
            · simp only []
              rw [show n - (i + 1) = k by omega]
              exact hgood h0
            · apply sub_of <;> simp only [hw3, gaC, vecL, outL, go_sem, ↓reduceIte, Nat.reduceAdd, Nat.reduceSub, Nat.reduceMul, Nat.reduceEqDiff, Nat.reduceLT, Nat.reduceLeDiff, Int.reduceToNat, Int.reduceLE, Int.reduceLT, Int.reduceEq, Int.reduceNeg, reduceCtorEq] <;> (try simp) <;> (try exact fun j _ => Bd_nth (by simp [BdL, Bd]) j) <;> (try exact bd_setL (by simp [bdAs, BdL, Bd])) <;> (try exact nestF_bd _ _ _ _ _ _ _ _ _)
          · rw [deedO, if_neg h0]
            simp only [gaC, vecL, outL, Try.f30, Try.f48, q30_10, go_sem, ↓reduceIte, Nat.reduceAdd, Nat.reduceSub, Nat.reduceMul, Nat.reduceEqDiff, Nat.reduceLT, Nat.reduceLeDiff, Int.reduceToNat, Int.reduceLE, Int.reduceLT, Int.reduceEq, Int.reduceNeg, reduceCtorEq]
            refine defS_mono (def46_some _ _ _ 0 (by simp only [go_sem, ↓reduceIte, Nat.reduceAdd, Nat.reduceSub, Nat.reduceMul, Nat.reduceEqDiff, Nat.reduceLT, Nat.reduceLeDiff, Int.reduceToNat, Int.reduceLE, Int.reduceLT, Int.reduceEq, Int.reduceNeg, reduceCtorEq])) ?_
            rintro p' h' ⟨rfl, rfl⟩
            simp only [go_sem, ↓reduceIte, Nat.reduceAdd, Nat.reduceSub, Nat.reduceMul, Nat.reduceEqDiff, Nat.reduceLT, Nat.reduceLeDiff, Int.reduceToNat, Int.reduceLE, Int.reduceLT, Int.reduceEq, Int.reduceNeg, reduceCtorEq]
            rw [hbad h0]
            exact ⟨v2, _, _, rfl, rfl⟩
        · have hr : S1.b.deed (evN l i) = S1.b.give 6 (l i 2) (l i 3) := by simp [Bo.deed, hkk, hk0]; rfl
          simp only [hk0, gaC, vecL, outL, Try.f30, Try.f48, q30_10, go_sem, ↓reduceIte, Nat.reduceAdd, Nat.reduceSub, Nat.reduceMul, Nat.reduceEqDiff, Nat.reduceLT, Nat.reduceLeDiff, Int.reduceToNat, Int.reduceLE, Int.reduceLT, Int.reduceEq, Int.reduceNeg, reduceCtorEq]
          refine ⟨⟨by kernel_rfl, by kernel_rfl⟩, by omega, ?_⟩
          refine calls_mono ?_ (ga_at (xs := [evS ⟨6, l i 1, l i 2, l i 3⟩]) (O := deedO (S1.b.give 6 (l i 2) (l i 3))) (by simp [evS, BdL, Bd]) rfl (bO _ _ _) (rO _ _ _) (give_calls h1 v1 _ (by dsimp only; omega) (by dsimp only; omega)) _ _)
          rw [← hr]
          rintro o h' ⟨v2, rfl, rfl⟩
          rw [h2] at hd1 ⊢
          generalize S1.b.deed (evN l i) = r at hbad hgood hd1 hd2
          by_cases h0 : r.2 = 0
          · rw [deedO, if_pos h0]
            simp only [gaC, vecL, outL, Try.f30, Try.f48, q30_10, go_sem, ↓reduceIte, Nat.reduceAdd, Nat.reduceSub, Nat.reduceMul, Nat.reduceEqDiff, Nat.reduceLT, Nat.reduceLeDiff, Int.reduceToNat, Int.reduceLE, Int.reduceLT, Int.reduceEq, Int.reduceNeg, reduceCtorEq]
            refine ⟨⟨(i + 1, ⟨r.1, l i 1, S1.out⟩, v2), by omega, hd1, hd2, ?_⟩, by simp only []; omega, ?_⟩
            · simp only []
              rw [show n - (i + 1) = k by omega]
              exact hgood h0
            · apply sub_of <;> simp only [hw3, gaC, vecL, outL, go_sem, ↓reduceIte, Nat.reduceAdd, Nat.reduceSub, Nat.reduceMul, Nat.reduceEqDiff, Nat.reduceLT, Nat.reduceLeDiff, Int.reduceToNat, Int.reduceLE, Int.reduceLT, Int.reduceEq, Int.reduceNeg, reduceCtorEq] <;> (try simp) <;> (try exact fun j _ => Bd_nth (by simp [BdL, Bd]) j) <;> (try exact bd_setL (by simp [bdAs, BdL, Bd])) <;> (try exact nestF_bd _ _ _ _ _ _ _ _ _)
          · rw [deedO, if_neg h0]
            simp only [gaC, vecL, outL, Try.f30, Try.f48, q30_10, go_sem, ↓reduceIte, Nat.reduceAdd, Nat.reduceSub, Nat.reduceMul, Nat.reduceEqDiff, Nat.reduceLT, Nat.reduceLeDiff, Int.reduceToNat, Int.reduceLE, Int.reduceLT, Int.reduceEq, Int.reduceNeg, reduceCtorEq]
            refine defS_mono (def46_some _ _ _ 0 (by simp only [go_sem, ↓reduceIte, Nat.reduceAdd, Nat.reduceSub, Nat.reduceMul, Nat.reduceEqDiff, Nat.reduceLT, Nat.reduceLeDiff, Int.reduceToNat, Int.reduceLE, Int.reduceLT, Int.reduceEq, Int.reduceNeg, reduceCtorEq])) ?_
            rintro p' h' ⟨rfl, rfl⟩
            simp only [go_sem, ↓reduceIte, Nat.reduceAdd, Nat.reduceSub, Nat.reduceMul, Nat.reduceEqDiff, Nat.reduceLT, Nat.reduceLeDiff, Int.reduceToNat, Int.reduceLE, Int.reduceLT, Int.reduceEq, Int.reduceNeg, reduceCtorEq]
            rw [hbad h0]
            exact ⟨v2, _, _, rfl, rfl⟩
      · -- not now
        have hev : evOk (evN l i) = true := by simpa [evN] using e2
        have hord : ¬ (i ≠ 0 ∧ (evN l i).s < (evN l (i - 1)).s) := by simp only [decide_eq_true_eq] at e3; omega
        have hto2 : ¬ (evN l i).s ≤ to := by simpa [evN] using e4
        refine ⟨⟨(i + 1, S, v), by omega, hs', ⟨by have := hc.p0; dsimp only; omega, by have := hc.p1; dsimp only; omega, by have := hc.m0; dsimp only; omega, by have := hc.m1; dsimp only; omega, by have := hc.g0; dsimp only; omega, by have := hc.g1; dsimp only; omega⟩, ?_⟩, by simp only []; omega, ?_⟩
        · simp only []
          rw [show n - (i + 1) = k by omega]
          exact goOn hev hord hto2
        · apply sub_of <;> simp only [hw3, gaC, vecL, outL, go_sem, ↓reduceIte, Nat.reduceAdd, Nat.reduceSub, Nat.reduceMul, Nat.reduceEqDiff, Nat.reduceLT, Nat.reduceLeDiff, Int.reduceToNat, Int.reduceLE, Int.reduceLT, Int.reduceEq, Int.reduceNeg, reduceCtorEq] <;> (try simp) <;> (try exact fun j _ => Bd_nth (by simp [BdL, Bd]) j) <;> (try exact bd_setL (by simp [bdAs, BdL, Bd])) <;> (try exact nestF_bd _ _ _ _ _ _ _ _ _)
      · simp only [decide_eq_false_iff_not] at e3
        rw [hwm (by omega)]; omega
      · simp only [decide_eq_false_iff_not] at e3
        rw [hwm (by omega)] at e4
        have hev : evOk (evN l i) = true := by simpa [evN] using e2
        have hpl : playP (evN l) to n 0 s = (S, i, 7) := by
          rw [← hp, playP, if_neg (by rw [hev]; simp), if_pos ⟨by omega, by simpa [evN] using e4⟩]
        rw [hpl]
        refine defS_mono (def46_some _ _ _ 0 (by simp only [go_sem, ↓reduceIte, Nat.reduceAdd, Nat.reduceSub, Nat.reduceMul, Nat.reduceEqDiff, Nat.reduceLT, Nat.reduceLeDiff, Int.reduceToNat, Int.reduceLE, Int.reduceLT, Int.reduceEq, Int.reduceNeg, reduceCtorEq])) ?_
        rintro p' h' ⟨rfl, rfl⟩
        simp only [go_sem, ↓reduceIte, Nat.reduceAdd, Nat.reduceSub, Nat.reduceMul, Nat.reduceEqDiff, Nat.reduceLT, Nat.reduceLeDiff, Int.reduceToNat, Int.reduceLE, Int.reduceLT, Int.reduceEq, Int.reduceNeg, reduceCtorEq]
        exact ⟨v, _, _, rfl, rfl⟩
      · simp only [decide_eq_false_iff_not] at e3
        rw [hwm (by omega)] at e4
        have hev : evOk (evN l i) = true := by simpa [evN] using e2
        have hord : ¬ (i ≠ 0 ∧ (evN l i).s < (evN l (i - 1)).s) := by
          have : ¬ (evN l i).s < (evN l (i - 1)).s := by simpa [evN] using e4
          exact fun h => this h.2
        have hto2 : (evN l i).s ≤ to := by simpa [evN] using e5
        have hx := evOk_iff.1 hev
        simp only [evN] at hx
        have hl1 : (evN l i).s = l i 1 := rfl
        unfold callS
        refine calls_mono ?_ (ga_at (xs := [.int .i64 (l i 1)]) (O := .ret (.tup [])) (by simp [BdL, Bd]) rfl (by simp [bdO, Bd, BdL]) rfl (pass_calls hs' hx.2.1 v (l i 1 - S.now).toNat (by omega)) _ _)
        rintro o h' ⟨v1, rfl, rfl⟩
        have h1 := passF_ok hx.2.1 hs'
        have h2 : (passF S (l i 1)).now = l i 1 := passF_now _ _
        have h3 : (passF S (l i 1)).b.Cnt i := passP_cnt _ _ hc
        have hbad := bad hev hord hto2
        have hgood := good hev hord hto2
        rw [hl1] at hbad hgood
        rw [show passP (l i 1 - S.now).toNat S (l i 1) = passF S (l i 1) from rfl]
        generalize passF S (l i 1) = S1 at h1 h2 h3 hbad hgood
        have hki : l i 0 = 0 ∨ l i 0 = 1 ∨ l i 0 = 2 ∨ l i 0 = 3 ∨ l i 0 = 4 ∨ l i 0 = 5 ∨ l i 0 = 6 := by omega
        have hkk : (evN l i).k = l i 0 := rfl
        have hd1 := deed_ok h1 h3 (by omega) (evN l i)
        have hd2 := deed_cnt h3 (evN l i)
        have bO : ∀ r : Bo × Int, ∀ L M, bdO L M (deedO r) := fun r L M => by unfold deedO; split <;> simp [bdO, Bd, BdL]
        have rO : ∀ r : Bo × Int, ∀ b u, renO b u (deedO r) = deedO r := fun r b u => by unfold deedO; split <;> rfl
        rcases hki with hk0 | hk0 | hk0 | hk0 | hk0 | hk0 | hk0
        · have hr : S1.b.deed (evN l i) = S1.b.start := by simp [Bo.deed, hkk, hk0]
          simp only [hk0, gaC, vecL, outL, Try.f30, Try.f48, q30_10, go_sem, ↓reduceIte, Nat.reduceAdd, Nat.reduceSub, Nat.reduceMul, Nat.reduceEqDiff, Nat.reduceLT, Nat.reduceLeDiff, Int.reduceToNat, Int.reduceLE, Int.reduceLT, Int.reduceEq, Int.reduceNeg, reduceCtorEq]
          refine ⟨⟨by kernel_rfl, by kernel_rfl⟩, by omega, ?_⟩
          refine calls_mono ?_ (ga_at (xs := [evS ⟨0, l i 1, l i 2, l i 3⟩]) (O := deedO (S1.b.start)) (by simp [evS, BdL, Bd]) rfl (bO _ _ _) (rO _ _ _) (start_calls h1 v1 _) _ _)
          rw [← hr]
          rintro o h' ⟨v2, rfl, rfl⟩
          rw [h2] at hd1 ⊢
          generalize S1.b.deed (evN l i) = r at hbad hgood hd1 hd2
          by_cases h0 : r.2 = 0
          · rw [deedO, if_pos h0]
            simp only [gaC, vecL, outL, Try.f30, Try.f48, q30_10, go_sem, ↓reduceIte, Nat.reduceAdd, Nat.reduceSub, Nat.reduceMul, Nat.reduceEqDiff, Nat.reduceLT, Nat.reduceLeDiff, Int.reduceToNat, Int.reduceLE, Int.reduceLT, Int.reduceEq, Int.reduceNeg, reduceCtorEq]
            refine ⟨⟨(i + 1, ⟨r.1, l i 1, S1.out⟩, v2), by omega, hd1, hd2, ?_⟩, by simp only []; omega, ?_⟩
            · simp only []
              rw [show n - (i + 1) = k by omega]
              exact hgood h0
            · apply sub_of <;> simp only [hw3, gaC, vecL, outL, go_sem, ↓reduceIte, Nat.reduceAdd, Nat.reduceSub, Nat.reduceMul, Nat.reduceEqDiff, Nat.reduceLT, Nat.reduceLeDiff, Int.reduceToNat, Int.reduceLE, Int.reduceLT, Int.reduceEq, Int.reduceNeg, reduceCtorEq] <;> (try simp) <;> (try exact fun j _ => Bd_nth (by simp [BdL, Bd]) j) <;> (try exact bd_setL (by simp [bdAs, BdL, Bd])) <;> (try exact nestF_bd _ _ _ _ _ _ _ _ _)
          · rw [deedO, if_neg h0]
            simp only [gaC, vecL, outL, Try.f30, Try.f48, q30_10, go_sem, ↓reduceIte, Nat.reduceAdd, Nat.reduceSub, Nat.reduceMul, Nat.reduceEqDiff, Nat.reduceLT, Nat.reduceLeDiff, Int.reduceToNat, Int.reduceLE, Int.reduceLT, Int.reduceEq, Int.reduceNeg, reduceCtorEq]
            refine defS_mono (def46_some _ _ _ 0 (by simp only [go_sem, ↓reduceIte, Nat.reduceAdd, Nat.reduceSub, Nat.reduceMul, Nat.reduceEqDiff, Nat.reduceLT, Nat.reduceLeDiff, Int.reduceToNat, Int.reduceLE, Int.reduceLT, Int.reduceEq, Int.reduceNeg, reduceCtorEq])) ?_
            rintro p' h' ⟨rfl, rfl⟩
            simp only [go_sem, ↓reduceIte, Nat.reduceAdd, Nat.reduceSub, Nat.reduceMul, Nat.reduceEqDiff, Nat.reduceLT, Nat.reduceLeDiff, Int.reduceToNat, Int.reduceLE, Int.reduceLT, Int.reduceEq, Int.reduceNeg, reduceCtorEq]
            rw [hbad h0]
            exact ⟨v2, _, _, rfl, rfl⟩
        · have hr : S1.b.deed (evN l i) = S1.b.stop := by simp [Bo.deed, hkk, hk0]
          simp only [hk0, gaC, vecL, outL, Try.f30, Try.f48, q30_10, go_sem, ↓reduceIte, Nat.reduceAdd, Nat.reduceSub, Nat.reduceMul, Nat.reduceEqDiff, Nat.reduceLT, Nat.reduceLeDiff, Int.reduceToNat, Int.reduceLE, Int.reduceLT, Int.reduceEq, Int.reduceNeg, reduceCtorEq]
          refine ⟨⟨by kernel_rfl, by kernel_rfl⟩, by omega, ?_⟩
          refine calls_mono ?_ (ga_at (xs := [evS ⟨1, l i 1, l i 2, l i 3⟩]) (O := deedO (S1.b.stop)) (by simp [evS, BdL, Bd]) rfl (bO _ _ _) (rO _ _ _) (stop_calls v1 _) _ _)
          rw [← hr]
          rintro o h' ⟨v2, rfl, rfl⟩
          rw [h2] at hd1 ⊢
          generalize S1.b.deed (evN l i) = r at hbad hgood hd1 hd2
          by_cases h0 : r.2 = 0
          · rw [deedO, if_pos h0]
            simp only [gaC, vecL, outL, Try.f30, Try.f48, q30_10, go_sem, ↓reduceIte, Nat.reduceAdd, Nat.reduceSub, Nat.reduceMul, Nat.reduceEqDiff, Nat.reduceLT, Nat.reduceLeDiff, Int.reduceToNat, Int.reduceLE, Int.reduceLT, Int.reduceEq, Int.reduceNeg, reduceCtorEq]
            refine ⟨⟨(i + 1, ⟨r.1, l i 1, S1.out⟩, v2), by omega, hd1, hd2, ?_⟩, by simp only []; omega, ?_⟩
            · simp only []
              rw [show n - (i + 1) = k by omega]
              exact hgood h0
            · apply sub_of <;> simp only [hw3, gaC, vecL, outL, go_sem, ↓reduceIte, Nat.reduceAdd, Nat.reduceSub, Nat.reduceMul, Nat.reduceEqDiff, Nat.reduceLT, Nat.reduceLeDiff, Int.reduceToNat, Int.reduceLE, Int.reduceLT, Int.reduceEq, Int.reduceNeg, reduceCtorEq] <;> (try simp) <;> (try exact fun j _ => Bd_nth (by simp [BdL, Bd]) j) <;> (try exact bd_setL (by simp [bdAs, BdL, Bd])) <;> (try exact nestF_bd _ _ _ _ _ _ _ _ _)
          · rw [deedO, if_neg h0]
            simp only [gaC, vecL, outL, Try.f30, Try.f48, q30_10, go_sem, ↓reduceIte, Nat.reduceAdd, Nat.reduceSub, Nat.reduceMul, Nat.reduceEqDiff, Nat.reduceLT, Nat.reduceLeDiff, Int.reduceToNat, Int.reduceLE, Int.reduceLT, Int.reduceEq, Int.reduceNeg, reduceCtorEq]
            refine defS_mono (def46_some _ _ _ 0 (by simp only [go_sem, ↓reduceIte, Nat.reduceAdd, Nat.reduceSub, Nat.reduceMul, Nat.reduceEqDiff, Nat.reduceLT, Nat.reduceLeDiff, Int.reduceToNat, Int.reduceLE, Int.reduceLT, Int.reduceEq, Int.reduceNeg, reduceCtorEq])) ?_
            rintro p' h' ⟨rfl, rfl⟩
            simp only [go_sem, ↓reduceIte, Nat.reduceAdd, Nat.reduceSub, Nat.reduceMul, Nat.reduceEqDiff, Nat.reduceLT, Nat.reduceLeDiff, Int.reduceToNat, Int.reduceLE, Int.reduceLT, Int.reduceEq, Int.reduceNeg, reduceCtorEq]
            rw [hbad h0]
            exact ⟨v2, _, _, rfl, rfl⟩
        · have hr : S1.b.deed (evN l i) = S1.b.goal (l i 2) := by simp [Bo.deed, hkk, hk0]; rfl
          simp only [hk0, gaC, vecL, outL, Try.f30, Try.f48, q30_10, go_sem, ↓reduceIte, Nat.reduceAdd, Nat.reduceSub, Nat.reduceMul, Nat.reduceEqDiff, Nat.reduceLT, Nat.reduceLeDiff, Int.reduceToNat, Int.reduceLE, Int.reduceLT, Int.reduceEq, Int.reduceNeg, reduceCtorEq]
          refine ⟨⟨by kernel_rfl, by kernel_rfl⟩, by omega, ?_⟩
          refine calls_mono ?_ (ga_at (xs := [evS ⟨2, l i 1, l i 2, l i 3⟩]) (O := deedO (S1.b.goal (l i 2))) (by simp [evS, BdL, Bd]) rfl (bO _ _ _) (rO _ _ _) (goal_calls h1 v1 _ (by dsimp only; omega)) _ _)
          rw [← hr]
          rintro o h' ⟨v2, rfl, rfl⟩
          rw [h2] at hd1 ⊢
          generalize S1.b.deed (evN l i) = r at hbad hgood hd1 hd2
          by_cases h0 : r.2 = 0
          · rw [deedO, if_pos h0]
            simp only [gaC, vecL, outL, Try.f30, Try.f48, q30_10, go_sem, ↓reduceIte, Nat.reduceAdd, Nat.reduceSub, Nat.reduceMul, Nat.reduceEqDiff, Nat.reduceLT, Nat.reduceLeDiff, Int.reduceToNat, Int.reduceLE, Int.reduceLT, Int.reduceEq, Int.reduceNeg, reduceCtorEq]
            refine ⟨⟨(i + 1, ⟨r.1, l i 1, S1.out⟩, v2), by omega, hd1, hd2, ?_⟩, by simp only []; omega, ?_⟩
            · simp only []
              rw [show n - (i + 1) = k by omega]
              exact hgood h0
            · apply sub_of <;> simp only [hw3, gaC, vecL, outL, go_sem, ↓reduceIte, Nat.reduceAdd, Nat.reduceSub, Nat.reduceMul, Nat.reduceEqDiff, Nat.reduceLT, Nat.reduceLeDiff, Int.reduceToNat, Int.reduceLE, Int.reduceLT, Int.reduceEq, Int.reduceNeg, reduceCtorEq] <;> (try simp) <;> (try exact fun j _ => Bd_nth (by simp [BdL, Bd]) j) <;> (try exact bd_setL (by simp [bdAs, BdL, Bd])) <;> (try exact nestF_bd _ _ _ _ _ _ _ _ _)
          · rw [deedO, if_neg h0]
            simp only [gaC, vecL, outL, Try.f30, Try.f48, q30_10, go_sem, ↓reduceIte, Nat.reduceAdd, Nat.reduceSub, Nat.reduceMul, Nat.reduceEqDiff, Nat.reduceLT, Nat.reduceLeDiff, Int.reduceToNat, Int.reduceLE, Int.reduceLT, Int.reduceEq, Int.reduceNeg, reduceCtorEq]
            refine defS_mono (def46_some _ _ _ 0 (by simp only [go_sem, ↓reduceIte, Nat.reduceAdd, Nat.reduceSub, Nat.reduceMul, Nat.reduceEqDiff, Nat.reduceLT, Nat.reduceLeDiff, Int.reduceToNat, Int.reduceLE, Int.reduceLT, Int.reduceEq, Int.reduceNeg, reduceCtorEq])) ?_
            rintro p' h' ⟨rfl, rfl⟩
            simp only [go_sem, ↓reduceIte, Nat.reduceAdd, Nat.reduceSub, Nat.reduceMul, Nat.reduceEqDiff, Nat.reduceLT, Nat.reduceLeDiff, Int.reduceToNat, Int.reduceLE, Int.reduceLT, Int.reduceEq, Int.reduceNeg, reduceCtorEq]
            rw [hbad h0]
            exact ⟨v2, _, _, rfl, rfl⟩
        · have hr : S1.b.deed (evN l i) = S1.b.give 3 (l i 2) (l i 3) := by simp [Bo.deed, hkk, hk0]; rfl
          simp only [hk0, gaC, vecL, outL, Try.f30, Try.f48, q30_10, go_sem, ↓reduceIte, Nat.reduceAdd, Nat.reduceSub, Nat.reduceMul, Nat.reduceEqDiff, Nat.reduceLT, Nat.reduceLeDiff, Int.reduceToNat, Int.reduceLE, Int.reduceLT, Int.reduceEq, Int.reduceNeg, reduceCtorEq]
          refine ⟨⟨by kernel_rfl, by kernel_rfl⟩, by omega, ?_⟩
          refine calls_mono ?_ (ga_at (xs := [evS ⟨3, l i 1, l i 2, l i 3⟩]) (O := deedO (S1.b.give 3 (l i 2) (l i 3))) (by simp [evS, BdL, Bd]) rfl (bO _ _ _) (rO _ _ _) (give_calls h1 v1 _ (by dsimp only; omega) (by dsimp only; omega)) _ _)
          rw [← hr]
          rintro o h' ⟨v2, rfl, rfl⟩
          rw [h2] at hd1 ⊢
          generalize S1.b.deed (evN l i) = r at hbad hgood hd1 hd2
          by_cases h0 : r.2 = 0
          · rw [deedO, if_pos h0]
            simp only [gaC, vecL, outL, Try.f30, Try.f48, q30_10, go_sem, ↓reduceIte, Nat.reduceAdd, Nat.reduceSub, Nat.reduceMul, Nat.reduceEqDiff, Nat.reduceLT, Nat.reduceLeDiff, Int.reduceToNat, Int.reduceLE, Int.reduceLT, Int.reduceEq, Int.reduceNeg, reduceCtorEq]
            refine ⟨⟨(i + 1, ⟨r.1, l i 1, S1.out⟩, v2), by omega, hd1, hd2, ?_⟩, by simp only []; omega, ?_⟩
            · simp only []
              rw [show n - (i + 1) = k by omega]
              exact hgood h0
            · apply sub_of <;> simp only [hw3, gaC, vecL, outL, go_sem, ↓reduceIte, Nat.reduceAdd, Nat.reduceSub, Nat.reduceMul, Nat.reduceEqDiff, Nat.reduceLT, Nat.reduceLeDiff, Int.reduceToNat, Int.reduceLE, Int.reduceLT, Int.reduceEq, Int.reduceNeg, reduceCtorEq] <;> (try simp) <;> (try exact fun j _ => Bd_nth (by simp [BdL, Bd]) j) <;> (try exact bd_setL (by simp [bdAs, BdL, Bd])) <;> (try exact nestF_bd _ _ _ _ _ _ _ _ _)
          · rw [deedO, if_neg h0]
            simp only [gaC, vecL, outL, Try.f30, Try.f48, q30_10, go_sem, ↓reduceIte, Nat.reduceAdd, Nat.reduceSub, Nat.reduceMul, Nat.reduceEqDiff, Nat.reduceLT, Nat.reduceLeDiff, Int.reduceToNat, Int.reduceLE, Int.reduceLT, Int.reduceEq, Int.reduceNeg, reduceCtorEq]
            refine defS_mono (def46_some _ _ _ 0 (by simp only [go_sem, ↓reduceIte, Nat.reduceAdd, Nat.reduceSub, Nat.reduceMul, Nat.reduceEqDiff, Nat.reduceLT, Nat.reduceLeDiff, Int.reduceToNat, Int.reduceLE, Int.reduceLT, Int.reduceEq, Int.reduceNeg, reduceCtorEq])) ?_
            rintro p' h' ⟨rfl, rfl⟩
            simp only [go_sem, ↓reduceIte, Nat.reduceAdd, Nat.reduceSub, Nat.reduceMul, Nat.reduceEqDiff, Nat.reduceLT, Nat.reduceLeDiff, Int.reduceToNat, Int.reduceLE, Int.reduceLT, Int.reduceEq, Int.reduceNeg, reduceCtorEq]
            rw [hbad h0]
            exact ⟨v2, _, _, rfl, rfl⟩
        · have hr : S1.b.deed (evN l i) = S1.b.give 4 (l i 2) (l i 3) := by simp [Bo.deed, hkk, hk0]; rfl
          simp only [hk0, gaC, vecL, outL, Try.f30, Try.f48, q30_10, go_sem, ↓reduceIte, Nat.reduceAdd, Nat.reduceSub, Nat.reduceMul, Nat.reduceEqDiff, Nat.reduceLT, Nat.reduceLeDiff, Int.reduceToNat, Int.reduceLE, Int.reduceLT, Int.reduceEq, Int.reduceNeg, reduceCtorEq]
          refine ⟨⟨by kernel_rfl, by kernel_rfl⟩, by omega, ?_⟩
          refine calls_mono ?_ (ga_at (xs := [evS ⟨4, l i 1, l i 2, l i 3⟩]) (O := deedO (S1.b.give 4 (l i 2) (l i 3))) (by simp [evS, BdL, Bd]) rfl (bO _ _ _) (rO _ _ _) (give_calls h1 v1 _ (by dsimp only; omega) (by dsimp only; omega)) _ _)
          rw [← hr]
          rintro o h' ⟨v2, rfl, rfl⟩
          rw [h2] at hd1 ⊢
          generalize S1.b.deed (evN l i) = r at hbad hgood hd1 hd2
          by_cases h0 : r.2 = 0
          · rw [deedO, if_pos h0]
            simp only [gaC, vecL, outL, Try.f30, Try.f48, q30_10, go_sem, ↓reduceIte, Nat.reduceAdd, Nat.reduceSub, Nat.reduceMul, Nat.reduceEqDiff, Nat.reduceLT, Nat.reduceLeDiff, Int.reduceToNat, Int.reduceLE, Int.reduceLT, Int.reduceEq, Int.reduceNeg, reduceCtorEq]
            refine ⟨⟨(i + 1, ⟨r.1, l i 1, S1.out⟩, v2), by omega, hd1, hd2, ?_⟩, by simp only []; omega, ?_⟩
            · simp only []
              rw [show n - (i + 1) = k by omega]
              exact hgood h0
            · apply sub_of <;> simp only [hw3, gaC, vecL, outL, go_sem, ↓reduceIte, Nat.reduceAdd, Nat.reduceSub, Nat.reduceMul, Nat.reduceEqDiff, Nat.reduceLT, Nat.reduceLeDiff, Int.reduceToNat, Int.reduceLE, Int.reduceLT, Int.reduceEq, Int.reduceNeg, reduceCtorEq] <;> (try simp) <;> (try exact fun j _ => Bd_nth (by simp [BdL, Bd]) j) <;> (try exact bd_setL (by simp [bdAs, BdL, Bd])) <;> (try exact nestF_bd _ _ _ _ _ _ _ _ _)
          · rw [deedO, if_neg h0]
            simp only [gaC, vecL, outL, Try.f30, Try.f48, q30_10, go_sem, ↓reduceIte, Nat.reduceAdd, Nat.reduceSub, Nat.reduceMul, Nat.reduceEqDiff, Nat.reduceLT, Nat.reduceLeDiff, Int.reduceToNat, Int.reduceLE, Int.reduceLT, Int.reduceEq, Int.reduceNeg, reduceCtorEq]
            refine defS_mono (def46_some _ _ _ 0 (by simp only [go_sem, ↓reduceIte, Nat.reduceAdd, Nat.reduceSub, Nat.reduceMul, Nat.reduceEqDiff, Nat.reduceLT, Nat.reduceLeDiff, Int.reduceToNat, Int.reduceLE, Int.reduceLT, Int.reduceEq, Int.reduceNeg, reduceCtorEq])) ?_
            rintro p' h' ⟨rfl, rfl⟩
            simp only [go_sem, ↓reduceIte, Nat.reduceAdd, Nat.reduceSub, Nat.reduceMul, Nat.reduceEqDiff, Nat.reduceLT, Nat.reduceLeDiff, Int.reduceToNat, Int.reduceLE, Int.reduceLT, Int.reduceEq, Int.reduceNeg, reduceCtorEq]
            rw [hbad h0]
            exact ⟨v2, _, _, rfl, rfl⟩
        · have hr : S1.b.deed (evN l i) = S1.b.give 5 (l i 2) (l i 3) := by simp [Bo.deed, hkk, hk0]; rfl
          simp only [hk0, gaC, vecL, outL, Try.f30, Try.f48, q30_10, go_sem, ↓reduceIte, Nat.reduceAdd, Nat.reduceSub, Nat.reduceMul, Nat.reduceEqDiff, Nat.reduceLT, Nat.reduceLeDiff, Int.reduceToNat, Int.reduceLE, Int.reduceLT, Int.reduceEq, Int.reduceNeg, reduceCtorEq]
          refine ⟨⟨by kernel_rfl, by kernel_rfl⟩, by omega, ?_⟩
          refine calls_mono ?_ (ga_at (xs := [evS ⟨5, l i 1, l i 2, l i 3⟩]) (O := deedO (S1.b.give 5 (l i 2) (l i 3))) (by simp [evS, BdL, Bd]) rfl (bO _ _ _) (rO _ _ _) (give_calls h1 v1 _ (by dsimp only; omega) (by dsimp only; omega)) _ _)
          rw [← hr]
          rintro o h' ⟨v2, rfl, rfl⟩
          rw [h2] at hd1 ⊢
          generalize S1.b.deed (evN l i) = r at hbad hgood hd1 hd2
          by_cases h0 : r.2 = 0
          · rw [deedO, if_pos h0]
            simp only [gaC, vecL, outL, Try.f30, Try.f48, q30_10, go_sem, ↓reduceIte, Nat.reduceAdd, Nat.reduceSub, Nat.reduceMul, Nat.reduceEqDiff, Nat.reduceLT, Nat.reduceLeDiff, Int.reduceToNat, Int.reduceLE, Int.reduceLT, Int.reduceEq, Int.reduceNeg, reduceCtorEq]
            refine ⟨⟨(i + 1, ⟨r.1, l i 1, S1.out⟩, v2), by omega, hd1, hd2, ?_⟩, by simp only []; omega, ?_⟩
            · simp only []
              rw [show n - (i + 1) = k by omega]
              exact hgood h0
            · apply sub_of <;> simp only [hw3, gaC, vecL, outL, go_sem, ↓reduceIte, Nat.reduceAdd, Nat.reduceSub, Nat.reduceMul, Nat.reduceEqDiff, Nat.reduceLT, Nat.reduceLeDiff, Int.reduceToNat, Int.reduceLE, Int.reduceLT, Int.reduceEq, Int.reduceNeg, reduceCtorEq] <;> (try simp) <;> (try exact fun j _ => Bd_nth (by simp [BdL, Bd]) j) <;> (try exact bd_setL (by simp [bdAs, BdL, Bd])) <;> (try exact nestF_bd _ _ _ _ _ _ _ _ _)
          · rw [deedO, if_neg h0]
            simp only [gaC, vecL, outL, Try.f30, Try.f48, q30_10, go_sem, ↓reduceIte, Nat.reduceAdd, Nat.reduceSub, Nat.reduceMul, Nat.reduceEqDiff, Nat.reduceLT, Nat.reduceLeDiff, Int.reduceToNat, Int.reduceLE, Int.reduceLT, Int.reduceEq, Int.reduceNeg, reduceCtorEq]
            refine defS_mono (def46_some _ _ _ 0 (by simp only [go_sem, ↓reduceIte, Nat.reduceAdd, Nat.reduceSub, Nat.reduceMul, Nat.reduceEqDiff, Nat.reduceLT, Nat.reduceLeDiff, Int.reduceToNat, Int.reduceLE, Int.reduceLT, Int.reduceEq, Int.reduceNeg, reduceCtorEq])) ?_
            rintro p' h' ⟨rfl, rfl⟩
            simp only [go_sem, ↓reduceIte, Nat.reduceAdd, Nat.reduceSub, Nat.reduceMul, Nat.reduceEqDiff, Nat.reduceLT, Nat.reduceLeDiff, Int.reduceToNat, Int.reduceLE, Int.reduceLT, Int.reduceEq, Int.reduceNeg, reduceCtorEq]
            rw [hbad h0]
            exact ⟨v2, _, _, rfl, rfl⟩
        · have hr : S1.b.deed (evN l i) = S1.b.give 6 (l i 2) (l i 3) := by simp [Bo.deed, hkk, hk0]; rfl
          simp only [hk0, gaC, vecL, outL, Try.f30, Try.f48, q30_10, go_sem, ↓reduceIte, Nat.reduceAdd, Nat.reduceSub, Nat.reduceMul, Nat.reduceEqDiff, Nat.reduceLT, Nat.reduceLeDiff, Int.reduceToNat, Int.reduceLE, Int.reduceLT, Int.reduceEq, Int.reduceNeg, reduceCtorEq]
          refine ⟨⟨by kernel_rfl, by kernel_rfl⟩, by omega, ?_⟩
          refine calls_mono ?_ (ga_at (xs := [evS ⟨6, l i 1, l i 2, l i 3⟩]) (O := deedO (S1.b.give 6 (l i 2) (l i 3))) (by simp [evS, BdL, Bd]) rfl (bO _ _ _) (rO _ _ _) (give_calls h1 v1 _ (by dsimp only; omega) (by dsimp only; omega)) _ _)
          rw [← hr]
          rintro o h' ⟨v2, rfl, rfl⟩
          rw [h2] at hd1 ⊢
          generalize S1.b.deed (evN l i) = r at hbad hgood hd1 hd2
          by_cases h0 : r.2 = 0
          · rw [deedO, if_pos h0]
            simp only [gaC, vecL, outL, Try.f30, Try.f48, q30_10, go_sem, ↓reduceIte, Nat.reduceAdd, Nat.reduceSub, Nat.reduceMul, Nat.reduceEqDiff, Nat.reduceLT, Nat.reduceLeDiff, Int.reduceToNat, Int.reduceLE, Int.reduceLT, Int.reduceEq, Int.reduceNeg, reduceCtorEq]
            refine ⟨⟨(i + 1, ⟨r.1, l i 1, S1.out⟩, v2), by omega, hd1, hd2, ?_⟩, by simp only []; omega, ?_⟩
            · simp only []
              rw [show n - (i + 1) = k by omega]
              exact hgood h0
            · apply sub_of <;> simp only [hw3, gaC, vecL, outL, go_sem, ↓reduceIte, Nat.reduceAdd, Nat.reduceSub, Nat.reduceMul, Nat.reduceEqDiff, Nat.reduceLT, Nat.reduceLeDiff, Int.reduceToNat, Int.reduceLE, Int.reduceLT, Int.reduceEq, Int.reduceNeg, reduceCtorEq] <;> (try simp) <;> (try exact fun j _ => Bd_nth (by simp [BdL, Bd]) j) <;> (try exact bd_setL (by simp [bdAs, BdL, Bd])) <;> (try exact nestF_bd _ _ _ _ _ _ _ _ _)
          · rw [deedO, if_neg h0]
            simp only [gaC, vecL, outL, Try.f30, Try.f48, q30_10, go_sem, ↓reduceIte, Nat.reduceAdd, Nat.reduceSub, Nat.reduceMul, Nat.reduceEqDiff, Nat.reduceLT, Nat.reduceLeDiff, Int.reduceToNat, Int.reduceLE, Int.reduceLT, Int.reduceEq, Int.reduceNeg, reduceCtorEq]
            refine defS_mono (def46_some _ _ _ 0 (by simp only [go_sem, ↓reduceIte, Nat.reduceAdd, Nat.reduceSub, Nat.reduceMul, Nat.reduceEqDiff, Nat.reduceLT, Nat.reduceLeDiff, Int.reduceToNat, Int.reduceLE, Int.reduceLT, Int.reduceEq, Int.reduceNeg, reduceCtorEq])) ?_
            rintro p' h' ⟨rfl, rfl⟩
            simp only [go_sem, ↓reduceIte, Nat.reduceAdd, Nat.reduceSub, Nat.reduceMul, Nat.reduceEqDiff, Nat.reduceLT, Nat.reduceLeDiff, Int.reduceToNat, Int.reduceLE, Int.reduceLT, Int.reduceEq, Int.reduceNeg, reduceCtorEq]
            rw [hbad h0]
            exact ⟨v2, _, _, rfl, rfl⟩
      · simp only [decide_eq_false_iff_not] at e3
        rw [hwm (by omega)] at e4
        have hev : evOk (evN l i) = true := by simpa [evN] using e2
        have hord : ¬ (i ≠ 0 ∧ (evN l i).s < (evN l (i - 1)).s) := by
          have : ¬ (evN l i).s < (evN l (i - 1)).s := by simpa [evN] using e4
          exact fun h => this h.2
        have hto2 : ¬ (evN l i).s ≤ to := by simpa [evN] using e5
        refine ⟨⟨(i + 1, S, v), by omega, hs', ⟨by have := hc.p0; dsimp only; omega, by have := hc.p1; dsimp only; omega, by have := hc.m0; dsimp only; omega, by have := hc.m1; dsimp only; omega, by have := hc.g0; dsimp only; omega, by have := hc.g1; dsimp only; omega⟩, ?_⟩, by simp only []; omega, ?_⟩
        · simp only []
          rw [show n - (i + 1) = k by omega]
          exact goOn hev hord hto2
        · apply sub_of <;> simp only [hw3, gaC, vecL, outL, go_sem, ↓reduceIte, Nat.reduceAdd, Nat.reduceSub, Nat.reduceMul, Nat.reduceEqDiff, Nat.reduceLT, Nat.reduceLeDiff, Int.reduceToNat, Int.reduceLE, Int.reduceLT, Int.reduceEq, Int.reduceNeg, reduceCtorEq] <;> (try simp) <;> (try exact fun j _ => Bd_nth (by simp [BdL, Bd]) j) <;> (try exact bd_setL (by simp [bdAs, BdL, Bd])) <;> (try exact nestF_bd _ _ _ _ _ _ _ _ _)
    · have hpl : playP (evN l) to n 0 s = (S, i, 0) := by
        rw [← hp, show n - i = 0 by omega, playP]
      rw [hpl]
      refine defS_mono (def46_none _ _) ?_
      rintro p' h' ⟨rfl, rfl⟩
      simp only [go_sem, ↓reduceIte, Nat.reduceAdd, Nat.reduceSub, Nat.reduceMul, Nat.reduceEqDiff, Nat.reduceLT, Nat.reduceLeDiff, Int.reduceToNat, Int.reduceLE, Int.reduceLT, Int.reduceEq, Int.reduceNeg, reduceCtorEq]
      exact ⟨v, _, _, rfl, rfl⟩
  · rintro o h' ⟨v', B, V, rfl, rfl⟩
    refine ⟨_, _, gaH (playP (evN l) to n 0 s).1 v', ⟨rfl, v', rfl, rfl⟩, ⟨?_, ?_, ?_, ?_, ?_, ?_⟩, ⟨?_, ?_⟩, ⟨?_, ?_⟩⟩ <;> (try simp only [gaH, gaC, vecL, outL, go_sem, ↓reduceIte, Nat.reduceAdd, Nat.reduceSub, Nat.reduceMul, Nat.reduceEqDiff, Nat.reduceLT, Nat.reduceLeDiff, Int.reduceToNat, Int.reduceLE, Int.reduceLT, Int.reduceEq, Int.reduceNeg, reduceCtorEq]) <;> (try simp)
end Go.Eng
end

/- clock: play. -/
section
namespace Go.Eng
open Go Go.RowKit Go.Proofs
set_option maxRecDepth 100000
set_option maxHeartbeats 4000000
attribute [local irreducible] OwnT DefS

def plKO (r : Ga × Nat × Int) (o : Out) (h' : HS) : Prop := ∃ (v' : VersO) (B : List Blk) (V : List Vc), o = .ret (.tup [.int .i64 (r.2.1 : Int), .int .i64 r.2.2]) ∧ h' = ⟨.live 61 (gaC r.1.b r.1.now v'.a v'.b v'.c v'.d (.func 39 [.ptr 1 0])) :: .live 40 [.vec 4 v'.e] :: B, vecL v'.a r.1.b.p0 :: vecL v'.b r.1.b.p1 :: vecL v'.c r.1.b.m0 :: vecL v'.d r.1.b.m1 :: outL v'.e r.1.out :: V⟩

theorem play_callsO {s : Ga} (hs : s.Ok) (hc0 : s.b.Cnt 0) {n : Nat} (hn : n ≤ 300) {l : Nat → Nat → Int} {to : Int} (hto : 0 ≤ to ∧ to ≤ 1048576) (v : VersO) :
    CallsS Try.prog 30 [.ptr 0 0, .row n 4 (fun i j => .int .i64 (l i j)), .int .i64 to] (goH s v)
      (fun o h' => ∃ v', o = .ret (.tup [.int .i64 ((playP (evN l) to n 0 s).2.1 : Int), .int .i64 (playP (evN l) to n 0 s).2.2]) ∧ h' = goH (playP (evN l) to n 0 s).1 v') := by
  refine calls_trim (K := plKO (playP (evN l) to n 0 s)) ?_ ?_
  · refine calls_of_defer (C := cx [50, 59, 60, 61, 62] [] [(49, isEventBase)] [(30, 7, p30_7), (30, 10, q30_10)] (some [6, 7])) (cx_ok trivial ⟨isEvent_base, trivial⟩) (g := 30) (fn := Try.f30) fn_30 rfl rfl 1000 1000 ?_
    simp only [goH, gaC, vecL, outL, Try.f30, Try.f47, go_sem, ↓reduceIte, Nat.reduceAdd, Nat.reduceSub, Nat.reduceMul, Nat.reduceEqDiff, Nat.reduceLT, Nat.reduceLeDiff, Int.reduceToNat, Int.reduceLE, Int.reduceLT, Int.reduceEq, Int.reduceNeg, reduceCtorEq]
    refine loop_of { x : Nat × Ga × VersO // x.1 ≤ n ∧ x.2.1.Ok ∧ x.2.1.b.Cnt x.1 ∧ playP (evN l) to (n - x.1) x.1 x.2.1 = playP (evN l) to n 0 s }
      (fun x => [(16, .int .i64 (x.1.1 : Int)), (15, .int .i64 (n : Int)), (14, .row n 4 (fun i j => .int .i64 (l i j))), (8, .ptr 4 0), (7, .ptr 2 0), (6, .int .i64 (x.1.1 : Int)), (2, .int .i64 to), (1, .row n 4 (fun i j => .int .i64 (l i j))), (0, .ptr 0 0)])
      (fun x => ⟨[.live 61 (gaC x.1.2.1.b x.1.2.1.now x.1.2.2.a x.1.2.2.b x.1.2.2.c x.1.2.2.d (.func 39 [.ptr 1 0])), .live 40 [.vec 4 x.1.2.2.e], .live 29 [.int .i64 0], .dead, .live 85 [.meth 59 [.ptr 0 0], .meth 60 [.ptr 0 0], .meth 61 [.ptr 0 0], .meth 62 [.ptr 0 0], .meth 62 [.ptr 0 0], .meth 62 [.ptr 0 0], .meth 62 [.ptr 0 0]]],
        [vecL x.1.2.2.a x.1.2.1.b.p0, vecL x.1.2.2.b x.1.2.1.b.p1, vecL x.1.2.2.c x.1.2.1.b.m0, vecL x.1.2.2.d x.1.2.1.b.m1, outL x.1.2.2.e x.1.2.1.out]⟩) (fun x => n - x.1.1) (fun _ => ⟨rfl, rfl⟩) ⟨(0, s, v), by omega, hs, hc0, rfl⟩ (by simp only [gaC, vecL, outL]; (apply sub_of <;> simp only [go_sem, ↓reduceIte, Nat.reduceAdd, Nat.reduceSub, Nat.reduceMul, Nat.reduceEqDiff, Nat.reduceLT, Nat.reduceLeDiff, Int.reduceToNat, Int.reduceLE, Int.reduceLT, Int.reduceEq, Int.reduceNeg, reduceCtorEq] <;> (try simp [catF]) <;> (try exact fun j _ => Bd_nth (by simp [BdL, Bd]) j) <;> (try exact bd_setL (by simp [bdAs, BdL, Bd])) <;> (try exact nestF_bd _ _ _ _ _ _ _ _ _))) ?_
    rintro ⟨⟨i, S, v⟩, hi, hs', hc, hp⟩
    simp only at hi hs' hc hp
    simp only [gaC, vecL, outL, Try.f30, Try.f48, isEvent_eq, p30_7, q30_10, go_sem, ↓reduceIte, Nat.reduceAdd, Nat.reduceSub, Nat.reduceMul, Nat.reduceEqDiff, Nat.reduceLT, Nat.reduceLeDiff, Int.reduceToNat, Int.reduceLE, Int.reduceLT, Int.reduceEq, Int.reduceNeg, reduceCtorEq]
    have hw3 : IntKind.i64.wrap ((i : Int) + 1) = ((i + 1 : Nat) : Int) := by rw [wrap_id (by omega) (by omega)]; omega
    refine ⟨fun e1 => ?_, fun e1 => ?_⟩
    all_goals simp only [decide_eq_true_eq, decide_eq_false_iff_not] at e1
    · obtain ⟨k, hk⟩ : ∃ k, n - i = k + 1 := ⟨n - i - 1, by omega⟩
      rw [hk] at hp
      have hwm : i ≠ 0 → IntKind.i64.wrap ((i : Int) - 1) = ((i - 1 : Nat) : Int) := fun h => by rw [wrap_id (by omega) (by omega)]; omega
      have goOn : evOk (evN l i) = true → ¬ (i ≠ 0 ∧ (evN l i).s < (evN l (i - 1)).s) → ¬ (evN l i).s ≤ to → playP (evN l) to k (i + 1) S = playP (evN l) to n 0 s := fun h1 h2 h3 => by
        rw [← hp, playP, if_neg (by rw [h1]; simp), if_neg h2, if_neg h3]
      have bad : evOk (evN l i) = true → ¬ (i ≠ 0 ∧ (evN l i).s < (evN l (i - 1)).s) → (evN l i).s ≤ to → ((passF S (evN l i).s).b.deed (evN l i)).2 ≠ 0 → playP (evN l) to n 0 s = (⟨((passF S (evN l i).s).b.deed (evN l i)).1, (evN l i).s, (passF S (evN l i).s).out⟩, i, ((passF S (evN l i).s).b.deed (evN l i)).2) := fun h1 h2 h3 h4 => by
        rw [← hp, playP, if_neg (by rw [h1]; simp), if_neg h2, if_pos h3, if_pos h4]
      have good : evOk (evN l i) = true → ¬ (i ≠ 0 ∧ (evN l i).s < (evN l (i - 1)).s) → (evN l i).s ≤ to → ((passF S (evN l i).s).b.deed (evN l i)).2 = 0 → playP (evN l) to k (i + 1) ⟨((passF S (evN l i).s).b.deed (evN l i)).1, (evN l i).s, (passF S (evN l i).s).out⟩ = playP (evN l) to n 0 s := fun h1 h2 h3 h4 => by
        rw [← hp, playP, if_neg (by rw [h1]; simp), if_neg h2, if_pos h3, if_neg (by rw [h4]; simp)]
      refine ⟨⟨by omega, by omega⟩, fun e2 => ?_, fun e2 => ⟨⟨by kernel_rfl, by kernel_rfl⟩, fun e3 => ⟨fun e4 => ?_, fun e4 => ?_⟩, fun e3 => ⟨?_, fun e4 => ?_, fun e4 => ⟨fun e5 => ?_, fun e5 => ?_⟩⟩⟩⟩
      · have hpl : playP (evN l) to n 0 s = (S, i, 1) := by
          rw [← hp, playP, if_pos]
          simpa [evN] using e2
        rw [hpl]
        refine defS_mono (def46_some _ _ _ 0 (by simp only [go_sem, ↓reduceIte, Nat.reduceAdd, Nat.reduceSub, Nat.reduceMul, Nat.reduceEqDiff, Nat.reduceLT, Nat.reduceLeDiff, Int.reduceToNat, Int.reduceLE, Int.reduceLT, Int.reduceEq, Int.reduceNeg, reduceCtorEq])) ?_
        rintro p' h' ⟨rfl, rfl⟩
        simp only [go_sem, ↓reduceIte, Nat.reduceAdd, Nat.reduceSub, Nat.reduceMul, Nat.reduceEqDiff, Nat.reduceLT, Nat.reduceLeDiff, Int.reduceToNat, Int.reduceLE, Int.reduceLT, Int.reduceEq, Int.reduceNeg, reduceCtorEq]
        exact ⟨v, _, _, rfl, rfl⟩
      · -- the first event
        have hev : evOk (evN l i) = true := by simpa [evN] using e2
        have hord : ¬ (i ≠ 0 ∧ (evN l i).s < (evN l (i - 1)).s) := by simp only [decide_eq_true_eq] at e3; omega
        have hto2 : (evN l i).s ≤ to := by simpa [evN] using e4
        have hx := evOk_iff.1 hev
        simp only [evN] at hx
        have hl1 : (evN l i).s = l i 1 := rfl
        unfold callS
        refine calls_mono ?_ (ga_atO (xs := [.int .i64 (l i 1)]) (O := .ret (.tup [])) (by simp [BdL, Bd]) rfl (by simp [bdO, Bd, BdL]) rfl (passO_calls hs' hx.2.1 v (l i 1 - S.now).toNat (by omega)) _ _)
        rintro o h' ⟨v1, rfl, rfl⟩
        have h1 := passF_ok hx.2.1 hs'
        have h2 : (passF S (l i 1)).now = l i 1 := passF_now _ _
        have h3 : (passF S (l i 1)).b.Cnt i := passP_cnt _ _ hc
        have hbad := bad hev hord hto2
        have hgood := good hev hord hto2
        rw [hl1] at hbad hgood
        rw [show passP (l i 1 - S.now).toNat S (l i 1) = passF S (l i 1) from rfl]
        generalize passF S (l i 1) = S1 at h1 h2 h3 hbad hgood
        have hki : l i 0 = 0 ∨ l i 0 = 1 ∨ l i 0 = 2 ∨ l i 0 = 3 ∨ l i 0 = 4 ∨ l i 0 = 5 ∨ l i 0 = 6 := by omega
        have hkk : (evN l i).k = l i 0 := rfl
        have hd1 := deed_ok h1 h3 (by omega) (evN l i)
        have hd2 := deed_cnt h3 (evN l i)
        have bO : ∀ r : Bo × Int, ∀ L M, bdO L M (deedO r) := fun r L M => by unfold deedO; split <;> simp [bdO, Bd, BdL]
        have rO : ∀ r : Bo × Int, ∀ b u, renO b u (deedO r) = deedO r := fun r b u => by unfold deedO; split <;> rfl
        rcases hki with hk0 | hk0 | hk0 | hk0 | hk0 | hk0 | hk0
        · have hr : S1.b.deed (evN l i) = S1.b.start := by simp [Bo.deed, hkk, hk0]
          simp only [hk0, gaC, vecL, outL, Try.f30, Try.f48, q30_10, go_sem, ↓reduceIte, Nat.reduceAdd, Nat.reduceSub, Nat.reduceMul, Nat.reduceEqDiff, Nat.reduceLT, Nat.reduceLeDiff, Int.reduceToNat, Int.reduceLE, Int.reduceLT, Int.reduceEq, Int.reduceNeg, reduceCtorEq]
          refine ⟨⟨by kernel_rfl, by kernel_rfl⟩, by omega, ?_⟩
          refine calls_mono ?_ (ga_atO (xs := [evS ⟨0, l i 1, l i 2, l i 3⟩]) (O := deedO (S1.b.start)) (by simp [evS, BdL, Bd]) rfl (bO _ _ _) (rO _ _ _) (start_callsO h1 v1 _) _ _)
          rw [← hr]
          rintro o h' ⟨v2, rfl, rfl⟩
          rw [h2] at hd1 ⊢
          generalize S1.b.deed (evN l i) = r at hbad hgood hd1 hd2
          by_cases h0 : r.2 = 0
          · rw [deedO, if_pos h0]
            simp only [gaC, vecL, outL, Try.f30, Try.f48, q30_10, go_sem, ↓reduceIte, Nat.reduceAdd, Nat.reduceSub, Nat.reduceMul, Nat.reduceEqDiff, Nat.reduceLT, Nat.reduceLeDiff, Int.reduceToNat, Int.reduceLE, Int.reduceLT, Int.reduceEq, Int.reduceNeg, reduceCtorEq]
            refine ⟨⟨(i + 1, ⟨r.1, l i 1, S1.out⟩, v2), by omega, hd1, hd2, ?_⟩, by simp only []; omega, ?_⟩
            · simp only []
              rw [show n - (i + 1) = k by omega]
              exact hgood h0
            · apply sub_of <;> simp only [hw3, gaC, vecL, outL, go_sem, ↓reduceIte, Nat.reduceAdd, Nat.reduceSub, Nat.reduceMul, Nat.reduceEqDiff, Nat.reduceLT, Nat.reduceLeDiff, Int.reduceToNat, Int.reduceLE, Int.reduceLT, Int.reduceEq, Int.reduceNeg, reduceCtorEq] <;> (try simp) <;> (try exact fun j _ => Bd_nth (by simp [BdL, Bd]) j) <;> (try exact bd_setL (by simp [bdAs, BdL, Bd])) <;> (try exact nestF_bd _ _ _ _ _ _ _ _ _)
          · rw [deedO, if_neg h0]
            simp only [gaC, vecL, outL, Try.f30, Try.f48, q30_10, go_sem, ↓reduceIte, Nat.reduceAdd, Nat.reduceSub, Nat.reduceMul, Nat.reduceEqDiff, Nat.reduceLT, Nat.reduceLeDiff, Int.reduceToNat, Int.reduceLE, Int.reduceLT, Int.reduceEq, Int.reduceNeg, reduceCtorEq]
            refine defS_mono (def46_some _ _ _ 0 (by simp only [go_sem, ↓reduceIte, Nat.reduceAdd, Nat.reduceSub, Nat.reduceMul, Nat.reduceEqDiff, Nat.reduceLT, Nat.reduceLeDiff, Int.reduceToNat, Int.reduceLE, Int.reduceLT, Int.reduceEq, Int.reduceNeg, reduceCtorEq])) ?_
            rintro p' h' ⟨rfl, rfl⟩
            simp only [go_sem, ↓reduceIte, Nat.reduceAdd, Nat.reduceSub, Nat.reduceMul, Nat.reduceEqDiff, Nat.reduceLT, Nat.reduceLeDiff, Int.reduceToNat, Int.reduceLE, Int.reduceLT, Int.reduceEq, Int.reduceNeg, reduceCtorEq]
            rw [hbad h0]
            exact ⟨v2, _, _, rfl, rfl⟩
        · have hr : S1.b.deed (evN l i) = S1.b.stop := by simp [Bo.deed, hkk, hk0]
          simp only [hk0, gaC, vecL, outL, Try.f30, Try.f48, q30_10, go_sem, ↓reduceIte, Nat.reduceAdd, Nat.reduceSub, Nat.reduceMul, Nat.reduceEqDiff, Nat.reduceLT, Nat.reduceLeDiff, Int.reduceToNat, Int.reduceLE, Int.reduceLT, Int.reduceEq, Int.reduceNeg, reduceCtorEq]
          refine ⟨⟨by kernel_rfl, by kernel_rfl⟩, by omega, ?_⟩
          refine calls_mono ?_ (ga_atO (xs := [evS ⟨1, l i 1, l i 2, l i 3⟩]) (O := deedO (S1.b.stop)) (by simp [evS, BdL, Bd]) rfl (bO _ _ _) (rO _ _ _) (stop_callsO v1 _) _ _)
          rw [← hr]
          rintro o h' ⟨v2, rfl, rfl⟩
          rw [h2] at hd1 ⊢
          generalize S1.b.deed (evN l i) = r at hbad hgood hd1 hd2
          by_cases h0 : r.2 = 0
          · rw [deedO, if_pos h0]
            simp only [gaC, vecL, outL, Try.f30, Try.f48, q30_10, go_sem, ↓reduceIte, Nat.reduceAdd, Nat.reduceSub, Nat.reduceMul, Nat.reduceEqDiff, Nat.reduceLT, Nat.reduceLeDiff, Int.reduceToNat, Int.reduceLE, Int.reduceLT, Int.reduceEq, Int.reduceNeg, reduceCtorEq]
            refine ⟨⟨(i + 1, ⟨r.1, l i 1, S1.out⟩, v2), by omega, hd1, hd2, ?_⟩, by simp only []; omega, ?_⟩
            · simp only []
              rw [show n - (i + 1) = k by omega]
              exact hgood h0
            · apply sub_of <;> simp only [hw3, gaC, vecL, outL, go_sem, ↓reduceIte, Nat.reduceAdd, Nat.reduceSub, Nat.reduceMul, Nat.reduceEqDiff, Nat.reduceLT, Nat.reduceLeDiff, Int.reduceToNat, Int.reduceLE, Int.reduceLT, Int.reduceEq, Int.reduceNeg, reduceCtorEq] <;> (try simp) <;> (try exact fun j _ => Bd_nth (by simp [BdL, Bd]) j) <;> (try exact bd_setL (by simp [bdAs, BdL, Bd])) <;> (try exact nestF_bd _ _ _ _ _ _ _ _ _)
          · rw [deedO, if_neg h0]
            simp only [gaC, vecL, outL, Try.f30, Try.f48, q30_10, go_sem, ↓reduceIte, Nat.reduceAdd, Nat.reduceSub, Nat.reduceMul, Nat.reduceEqDiff, Nat.reduceLT, Nat.reduceLeDiff, Int.reduceToNat, Int.reduceLE, Int.reduceLT, Int.reduceEq, Int.reduceNeg, reduceCtorEq]
            refine defS_mono (def46_some _ _ _ 0 (by simp only [go_sem, ↓reduceIte, Nat.reduceAdd, Nat.reduceSub, Nat.reduceMul, Nat.reduceEqDiff, Nat.reduceLT, Nat.reduceLeDiff, Int.reduceToNat, Int.reduceLE, Int.reduceLT, Int.reduceEq, Int.reduceNeg, reduceCtorEq])) ?_
            rintro p' h' ⟨rfl, rfl⟩
            simp only [go_sem, ↓reduceIte, Nat.reduceAdd, Nat.reduceSub, Nat.reduceMul, Nat.reduceEqDiff, Nat.reduceLT, Nat.reduceLeDiff, Int.reduceToNat, Int.reduceLE, Int.reduceLT, Int.reduceEq, Int.reduceNeg, reduceCtorEq]
            rw [hbad h0]
            exact ⟨v2, _, _, rfl, rfl⟩
        · have hr : S1.b.deed (evN l i) = S1.b.goal (l i 2) := by simp [Bo.deed, hkk, hk0]; rfl
          simp only [hk0, gaC, vecL, outL, Try.f30, Try.f48, q30_10, go_sem, ↓reduceIte, Nat.reduceAdd, Nat.reduceSub, Nat.reduceMul, Nat.reduceEqDiff, Nat.reduceLT, Nat.reduceLeDiff, Int.reduceToNat, Int.reduceLE, Int.reduceLT, Int.reduceEq, Int.reduceNeg, reduceCtorEq]
          refine ⟨⟨by kernel_rfl, by kernel_rfl⟩, by omega, ?_⟩
          refine calls_mono ?_ (ga_atO (xs := [evS ⟨2, l i 1, l i 2, l i 3⟩]) (O := deedO (S1.b.goal (l i 2))) (by simp [evS, BdL, Bd]) rfl (bO _ _ _) (rO _ _ _) (goal_callsO h1 v1 _ (by dsimp only; omega)) _ _)
          rw [← hr]
          rintro o h' ⟨v2, rfl, rfl⟩
          rw [h2] at hd1 ⊢
          generalize S1.b.deed (evN l i) = r at hbad hgood hd1 hd2
          by_cases h0 : r.2 = 0
          · rw [deedO, if_pos h0]
            simp only [gaC, vecL, outL, Try.f30, Try.f48, q30_10, go_sem, ↓reduceIte, Nat.reduceAdd, Nat.reduceSub, Nat.reduceMul, Nat.reduceEqDiff, Nat.reduceLT, Nat.reduceLeDiff, Int.reduceToNat, Int.reduceLE, Int.reduceLT, Int.reduceEq, Int.reduceNeg, reduceCtorEq]
            refine ⟨⟨(i + 1, ⟨r.1, l i 1, S1.out⟩, v2), by omega, hd1, hd2, ?_⟩, by simp only []; omega, ?_⟩
            · simp only []
              rw [show n - (i + 1) = k by omega]
              exact hgood h0
            · apply sub_of <;> simp only [hw3, gaC, vecL, outL, go_sem, ↓reduceIte, Nat.reduceAdd, Nat.reduceSub, Nat.reduceMul, Nat.reduceEqDiff, Nat.reduceLT, Nat.reduceLeDiff, Int.reduceToNat, Int.reduceLE, Int.reduceLT, Int.reduceEq, Int.reduceNeg, reduceCtorEq] <;> (try simp) <;> (try exact fun j _ => Bd_nth (by simp [BdL, Bd]) j) <;> (try exact bd_setL (by simp [bdAs, BdL, Bd])) <;> (try exact nestF_bd _ _ _ _ _ _ _ _ _)
          · rw [deedO, if_neg h0]
            simp only [gaC, vecL, outL, Try.f30, Try.f48, q30_10, go_sem, ↓reduceIte, Nat.reduceAdd, Nat.reduceSub, Nat.reduceMul, Nat.reduceEqDiff, Nat.reduceLT, Nat.reduceLeDiff, Int.reduceToNat, Int.reduceLE, Int.reduceLT, Int.reduceEq, Int.reduceNeg, reduceCtorEq]
            refine defS_mono (def46_some _ _ _ 0 (by simp only [go_sem, ↓reduceIte, Nat.reduceAdd, Nat.reduceSub, Nat.reduceMul, Nat.reduceEqDiff, Nat.reduceLT, Nat.reduceLeDiff, Int.reduceToNat, Int.reduceLE, Int.reduceLT, Int.reduceEq, Int.reduceNeg, reduceCtorEq])) ?_
            rintro p' h' ⟨rfl, rfl⟩
            simp only [go_sem, ↓reduceIte, Nat.reduceAdd, Nat.reduceSub, Nat.reduceMul, Nat.reduceEqDiff, Nat.reduceLT, Nat.reduceLeDiff, Int.reduceToNat, Int.reduceLE, Int.reduceLT, Int.reduceEq, Int.reduceNeg, reduceCtorEq]
            rw [hbad h0]
            exact ⟨v2, _, _, rfl, rfl⟩
        · have hr : S1.b.deed (evN l i) = S1.b.give 3 (l i 2) (l i 3) := by simp [Bo.deed, hkk, hk0]; rfl
          simp only [hk0, gaC, vecL, outL, Try.f30, Try.f48, q30_10, go_sem, ↓reduceIte, Nat.reduceAdd, Nat.reduceSub, Nat.reduceMul, Nat.reduceEqDiff, Nat.reduceLT, Nat.reduceLeDiff, Int.reduceToNat, Int.reduceLE, Int.reduceLT, Int.reduceEq, Int.reduceNeg, reduceCtorEq]
          refine ⟨⟨by kernel_rfl, by kernel_rfl⟩, by omega, ?_⟩
          refine calls_mono ?_ (ga_atO (xs := [evS ⟨3, l i 1, l i 2, l i 3⟩]) (O := deedO (S1.b.give 3 (l i 2) (l i 3))) (by simp [evS, BdL, Bd]) rfl (bO _ _ _) (rO _ _ _) (give_callsO h1 v1 _ (by dsimp only; omega) (by dsimp only; omega)) _ _)
          rw [← hr]
          rintro o h' ⟨v2, rfl, rfl⟩
          rw [h2] at hd1 ⊢
          generalize S1.b.deed (evN l i) = r at hbad hgood hd1 hd2
          by_cases h0 : r.2 = 0
          · rw [deedO, if_pos h0]
            simp only [gaC, vecL, outL, Try.f30, Try.f48, q30_10, go_sem, ↓reduceIte, Nat.reduceAdd, Nat.reduceSub, Nat.reduceMul, Nat.reduceEqDiff, Nat.reduceLT, Nat.reduceLeDiff, Int.reduceToNat, Int.reduceLE, Int.reduceLT, Int.reduceEq, Int.reduceNeg, reduceCtorEq]
            refine ⟨⟨(i + 1, ⟨r.1, l i 1, S1.out⟩, v2), by omega, hd1, hd2, ?_⟩, by simp only []; omega, ?_⟩
            · simp only []
              rw [show n - (i + 1) = k by omega]
              exact hgood h0
            · apply sub_of <;> simp only [hw3, gaC, vecL, outL, go_sem, ↓reduceIte, Nat.reduceAdd, Nat.reduceSub, Nat.reduceMul, Nat.reduceEqDiff, Nat.reduceLT, Nat.reduceLeDiff, Int.reduceToNat, Int.reduceLE, Int.reduceLT, Int.reduceEq, Int.reduceNeg, reduceCtorEq] <;> (try simp) <;> (try exact fun j _ => Bd_nth (by simp [BdL, Bd]) j) <;> (try exact bd_setL (by simp [bdAs, BdL, Bd])) <;> (try exact nestF_bd _ _ _ _ _ _ _ _ _)
          · rw [deedO, if_neg h0]
            simp only [gaC, vecL, outL, Try.f30, Try.f48, q30_10, go_sem, ↓reduceIte, Nat.reduceAdd, Nat.reduceSub, Nat.reduceMul, Nat.reduceEqDiff, Nat.reduceLT, Nat.reduceLeDiff, Int.reduceToNat, Int.reduceLE, Int.reduceLT, Int.reduceEq, Int.reduceNeg, reduceCtorEq]
            refine defS_mono (def46_some _ _ _ 0 (by simp only [go_sem, ↓reduceIte, Nat.reduceAdd, Nat.reduceSub, Nat.reduceMul, Nat.reduceEqDiff, Nat.reduceLT, Nat.reduceLeDiff, Int.reduceToNat, Int.reduceLE, Int.reduceLT, Int.reduceEq, Int.reduceNeg, reduceCtorEq])) ?_
            rintro p' h' ⟨rfl, rfl⟩
            simp only [go_sem, ↓reduceIte, Nat.reduceAdd, Nat.reduceSub, Nat.reduceMul, Nat.reduceEqDiff, Nat.reduceLT, Nat.reduceLeDiff, Int.reduceToNat, Int.reduceLE, Int.reduceLT, Int.reduceEq, Int.reduceNeg, reduceCtorEq]
            rw [hbad h0]
            exact ⟨v2, _, _, rfl, rfl⟩
        · have hr : S1.b.deed (evN l i) = S1.b.give 4 (l i 2) (l i 3) := by simp [Bo.deed, hkk, hk0]; rfl
          simp only [hk0, gaC, vecL, outL, Try.f30, Try.f48, q30_10, go_sem, ↓reduceIte, Nat.reduceAdd, Nat.reduceSub, Nat.reduceMul, Nat.reduceEqDiff, Nat.reduceLT, Nat.reduceLeDiff, Int.reduceToNat, Int.reduceLE, Int.reduceLT, Int.reduceEq, Int.reduceNeg, reduceCtorEq]
          refine ⟨⟨by kernel_rfl, by kernel_rfl⟩, by omega, ?_⟩
          refine calls_mono ?_ (ga_atO (xs := [evS ⟨4, l i 1, l i 2, l i 3⟩]) (O := deedO (S1.b.give 4 (l i 2) (l i 3))) (by simp [evS, BdL, Bd]) rfl (bO _ _ _) (rO _ _ _) (give_callsO h1 v1 _ (by dsimp only; omega) (by dsimp only; omega)) _ _)
          rw [← hr]
          rintro o h' ⟨v2, rfl, rfl⟩
          rw [h2] at hd1 ⊢
          generalize S1.b.deed (evN l i) = r at hbad hgood hd1 hd2
          by_cases h0 : r.2 = 0
          · rw [deedO, if_pos h0]
            simp only [gaC, vecL, outL, Try.f30, Try.f48, q30_10, go_sem, ↓reduceIte, Nat.reduceAdd, Nat.reduceSub, Nat.reduceMul, Nat.reduceEqDiff, Nat.reduceLT, Nat.reduceLeDiff, Int.reduceToNat, Int.reduceLE, Int.reduceLT, Int.reduceEq, Int.reduceNeg, reduceCtorEq]
            refine ⟨⟨(i + 1, ⟨r.1, l i 1, S1.out⟩, v2), by omega, hd1, hd2, ?_⟩, by simp only []; omega, ?_⟩
            · simp only []
              rw [show n - (i + 1) = k by omega]
              exact hgood h0
            · apply sub_of <;> simp only [hw3, gaC, vecL, outL, go_sem, ↓reduceIte, Nat.reduceAdd, Nat.reduceSub, Nat.reduceMul, Nat.reduceEqDiff, Nat.reduceLT, Nat.reduceLeDiff, Int.reduceToNat, Int.reduceLE, Int.reduceLT, Int.reduceEq, Int.reduceNeg, reduceCtorEq] <;> (try simp) <;> (try exact fun j _ => Bd_nth (by simp [BdL, Bd]) j) <;> (try exact bd_setL (by simp [bdAs, BdL, Bd])) <;> (try exact nestF_bd _ _ _ _ _ _ _ _ _)
          · rw [deedO, if_neg h0]
            simp only [gaC, vecL, outL, Try.f30, Try.f48, q30_10, go_sem, ↓reduceIte, Nat.reduceAdd, Nat.reduceSub, Nat.reduceMul, Nat.reduceEqDiff, Nat.reduceLT, Nat.reduceLeDiff, Int.reduceToNat, Int.reduceLE, Int.reduceLT, Int.reduceEq, Int.reduceNeg, reduceCtorEq]
            refine defS_mono (def46_some _ _ _ 0 (by simp only [go_sem, ↓reduceIte, Nat.reduceAdd, Nat.reduceSub, Nat.reduceMul, Nat.reduceEqDiff, Nat.reduceLT, Nat.reduceLeDiff, Int.reduceToNat, Int.reduceLE, Int.reduceLT, Int.reduceEq, Int.reduceNeg, reduceCtorEq])) ?_
            rintro p' h' ⟨rfl, rfl⟩
            simp only [go_sem, ↓reduceIte, Nat.reduceAdd, Nat.reduceSub, Nat.reduceMul, Nat.reduceEqDiff, Nat.reduceLT, Nat.reduceLeDiff, Int.reduceToNat, Int.reduceLE, Int.reduceLT, Int.reduceEq, Int.reduceNeg, reduceCtorEq]
            rw [hbad h0]
            exact ⟨v2, _, _, rfl, rfl⟩
        · have hr : S1.b.deed (evN l i) = S1.b.give 5 (l i 2) (l i 3) := by simp [Bo.deed, hkk, hk0]; rfl
          simp only [hk0, gaC, vecL, outL, Try.f30, Try.f48, q30_10, go_sem, ↓reduceIte, Nat.reduceAdd, Nat.reduceSub, Nat.reduceMul, Nat.reduceEqDiff, Nat.reduceLT, Nat.reduceLeDiff, Int.reduceToNat, Int.reduceLE, Int.reduceLT, Int.reduceEq, Int.reduceNeg, reduceCtorEq]
          refine ⟨⟨by kernel_rfl, by kernel_rfl⟩, by omega, ?_⟩
          refine calls_mono ?_ (ga_atO (xs := [evS ⟨5, l i 1, l i 2, l i 3⟩]) (O := deedO (S1.b.give 5 (l i 2) (l i 3))) (by simp [evS, BdL, Bd]) rfl (bO _ _ _) (rO _ _ _) (give_callsO h1 v1 _ (by dsimp only; omega) (by dsimp only; omega)) _ _)
          rw [← hr]
          rintro o h' ⟨v2, rfl, rfl⟩
          rw [h2] at hd1 ⊢
          generalize S1.b.deed (evN l i) = r at hbad hgood hd1 hd2
          by_cases h0 : r.2 = 0
          · rw [deedO, if_pos h0]
            simp only [gaC, vecL, outL, Try.f30, Try.f48, q30_10, go_sem, ↓reduceIte, Nat.reduceAdd, Nat.reduceSub, Nat.reduceMul, Nat.reduceEqDiff, Nat.reduceLT, Nat.reduceLeDiff, Int.reduceToNat, Int.reduceLE, Int.reduceLT, Int.reduceEq, Int.reduceNeg, reduceCtorEq]
            refine ⟨⟨(i + 1, ⟨r.1, l i 1, S1.out⟩, v2), by omega, hd1, hd2, ?_⟩, by simp only []; omega, ?_⟩
            · simp only []
              rw [show n - (i + 1) = k by omega]
              exact hgood h0
            · apply sub_of <;> simp only [hw3, gaC, vecL, outL, go_sem, ↓reduceIte, Nat.reduceAdd, Nat.reduceSub, Nat.reduceMul, Nat.reduceEqDiff, Nat.reduceLT, Nat.reduceLeDiff, Int.reduceToNat, Int.reduceLE, Int.reduceLT, Int.reduceEq, Int.reduceNeg, reduceCtorEq] <;> (try simp) <;> (try exact fun j _ => Bd_nth (by simp [BdL, Bd]) j) <;> (try exact bd_setL (by simp [bdAs, BdL, Bd])) <;> (try exact nestF_bd _ _ _ _ _ _ _ _ _)
          · rw [deedO, if_neg h0]
            simp only [gaC, vecL, outL, Try.f30, Try.f48, q30_10, go_sem, ↓reduceIte, Nat.reduceAdd, Nat.reduceSub, Nat.reduceMul, Nat.reduceEqDiff, Nat.reduceLT, Nat.reduceLeDiff, Int.reduceToNat, Int.reduceLE, Int.reduceLT, Int.reduceEq, Int.reduceNeg, reduceCtorEq]
            refine defS_mono (def46_some _ _ _ 0 (by simp only [go_sem, ↓reduceIte, Nat.reduceAdd, Nat.reduceSub, Nat.reduceMul, Nat.reduceEqDiff, Nat.reduceLT, Nat.reduceLeDiff, Int.reduceToNat, Int.reduceLE, Int.reduceLT, Int.reduceEq, Int.reduceNeg, reduceCtorEq])) ?_
            rintro p' h' ⟨rfl, rfl⟩
            simp only [go_sem, ↓reduceIte, Nat.reduceAdd, Nat.reduceSub, Nat.reduceMul, Nat.reduceEqDiff, Nat.reduceLT, Nat.reduceLeDiff, Int.reduceToNat, Int.reduceLE, Int.reduceLT, Int.reduceEq, Int.reduceNeg, reduceCtorEq]
            rw [hbad h0]
            exact ⟨v2, _, _, rfl, rfl⟩
        · have hr : S1.b.deed (evN l i) = S1.b.give 6 (l i 2) (l i 3) := by simp [Bo.deed, hkk, hk0]; rfl
          simp only [hk0, gaC, vecL, outL, Try.f30, Try.f48, q30_10, go_sem, ↓reduceIte, Nat.reduceAdd, Nat.reduceSub, Nat.reduceMul, Nat.reduceEqDiff, Nat.reduceLT, Nat.reduceLeDiff, Int.reduceToNat, Int.reduceLE, Int.reduceLT, Int.reduceEq, Int.reduceNeg, reduceCtorEq]
          refine ⟨⟨by kernel_rfl, by kernel_rfl⟩, by omega, ?_⟩
          refine calls_mono ?_ (ga_atO (xs := [evS ⟨6, l i 1, l i 2, l i 3⟩]) (O := deedO (S1.b.give 6 (l i 2) (l i 3))) (by simp [evS, BdL, Bd]) rfl (bO _ _ _) (rO _ _ _) (give_callsO h1 v1 _ (by dsimp only; omega) (by dsimp only; omega)) _ _)
          rw [← hr]
          rintro o h' ⟨v2, rfl, rfl⟩
          rw [h2] at hd1 ⊢
          generalize S1.b.deed (evN l i) = r at hbad hgood hd1 hd2
          by_cases h0 : r.2 = 0
          · rw [deedO, if_pos h0]
            simp only [gaC, vecL, outL, Try.f30, Try.f48, q30_10, go_sem, ↓reduceIte, Nat.reduceAdd, Nat.reduceSub, Nat.reduceMul, Nat.reduceEqDiff, Nat.reduceLT, Nat.reduceLeDiff, Int.reduceToNat, Int.reduceLE, Int.reduceLT, Int.reduceEq, Int.reduceNeg, reduceCtorEq]
            refine ⟨⟨(i + 1, ⟨r.1, l i 1, S1.out⟩, v2), by omega, hd1, hd2, ?_⟩, by simp only []; omega, ?_⟩
            · simp only []
              rw [show n - (i + 1) = k by omega]
              exact hgood h0
            · apply sub_of <;> simp only [hw3, gaC, vecL, outL, go_sem, ↓reduceIte, Nat.reduceAdd, Nat.reduceSub, Nat.reduceMul, Nat.reduceEqDiff, Nat.reduceLT, Nat.reduceLeDiff, Int.reduceToNat, Int.reduceLE, Int.reduceLT, Int.reduceEq, Int.reduceNeg, reduceCtorEq] <;> (try simp) <;> (try exact fun j _ => Bd_nth (by simp [BdL, Bd]) j) <;> (try exact bd_setL (by simp [bdAs, BdL, Bd])) <;> (try exact nestF_bd _ _ _ _ _ _ _ _ _)
          · rw [deedO, if_neg h0]
            simp only [gaC, vecL, outL, Try.f30, Try.f48, q30_10, go_sem, ↓reduceIte, Nat.reduceAdd, Nat.reduceSub, Nat.reduceMul, Nat.reduceEqDiff, Nat.reduceLT, Nat.reduceLeDiff, Int.reduceToNat, Int.reduceLE, Int.reduceLT, Int.reduceEq, Int.reduceNeg, reduceCtorEq]
            refine defS_mono (def46_some _ _ _ 0 (by simp only [go_sem, ↓reduceIte, Nat.reduceAdd, Nat.reduceSub, Nat.reduceMul, Nat.reduceEqDiff, Nat.reduceLT, Nat.reduceLeDiff, Int.reduceToNat, Int.reduceLE, Int.reduceLT, Int.reduceEq, Int.reduceNeg, reduceCtorEq])) ?_
            rintro p' h' ⟨rfl, rfl⟩
            simp only [go_sem, ↓reduceIte, Nat.reduceAdd, Nat.reduceSub, Nat.reduceMul, Nat.reduceEqDiff, Nat.reduceLT, Nat.reduceLeDiff, Int.reduceToNat, Int.reduceLE, Int.reduceLT, Int.reduceEq, Int.reduceNeg, reduceCtorEq]
            rw [hbad h0]
            exact ⟨v2, _, _, rfl, rfl⟩
      · -- not now
        have hev : evOk (evN l i) = true := by simpa [evN] using e2
        have hord : ¬ (i ≠ 0 ∧ (evN l i).s < (evN l (i - 1)).s) := by simp only [decide_eq_true_eq] at e3; omega
        have hto2 : ¬ (evN l i).s ≤ to := by simpa [evN] using e4
        refine ⟨⟨(i + 1, S, v), by omega, hs', ⟨by have := hc.p0; dsimp only; omega, by have := hc.p1; dsimp only; omega, by have := hc.m0; dsimp only; omega, by have := hc.m1; dsimp only; omega, by have := hc.g0; dsimp only; omega, by have := hc.g1; dsimp only; omega⟩, ?_⟩, by simp only []; omega, ?_⟩
        · simp only []
          rw [show n - (i + 1) = k by omega]
          exact goOn hev hord hto2
        · apply sub_of <;> simp only [hw3, gaC, vecL, outL, go_sem, ↓reduceIte, Nat.reduceAdd, Nat.reduceSub, Nat.reduceMul, Nat.reduceEqDiff, Nat.reduceLT, Nat.reduceLeDiff, Int.reduceToNat, Int.reduceLE, Int.reduceLT, Int.reduceEq, Int.reduceNeg, reduceCtorEq] <;> (try simp) <;> (try exact fun j _ => Bd_nth (by simp [BdL, Bd]) j) <;> (try exact bd_setL (by simp [bdAs, BdL, Bd])) <;> (try exact nestF_bd _ _ _ _ _ _ _ _ _)
      · simp only [decide_eq_false_iff_not] at e3
        rw [hwm (by omega)]; omega
      · simp only [decide_eq_false_iff_not] at e3
        rw [hwm (by omega)] at e4
        have hev : evOk (evN l i) = true := by simpa [evN] using e2
        have hpl : playP (evN l) to n 0 s = (S, i, 7) := by
          rw [← hp, playP, if_neg (by rw [hev]; simp), if_pos ⟨by omega, by simpa [evN] using e4⟩]
        rw [hpl]
        refine defS_mono (def46_some _ _ _ 0 (by simp only [go_sem, ↓reduceIte, Nat.reduceAdd, Nat.reduceSub, Nat.reduceMul, Nat.reduceEqDiff, Nat.reduceLT, Nat.reduceLeDiff, Int.reduceToNat, Int.reduceLE, Int.reduceLT, Int.reduceEq, Int.reduceNeg, reduceCtorEq])) ?_
        rintro p' h' ⟨rfl, rfl⟩
        simp only [go_sem, ↓reduceIte, Nat.reduceAdd, Nat.reduceSub, Nat.reduceMul, Nat.reduceEqDiff, Nat.reduceLT, Nat.reduceLeDiff, Int.reduceToNat, Int.reduceLE, Int.reduceLT, Int.reduceEq, Int.reduceNeg, reduceCtorEq]
        exact ⟨v, _, _, rfl, rfl⟩
      · simp only [decide_eq_false_iff_not] at e3
        rw [hwm (by omega)] at e4
        have hev : evOk (evN l i) = true := by simpa [evN] using e2
        have hord : ¬ (i ≠ 0 ∧ (evN l i).s < (evN l (i - 1)).s) := by
          have : ¬ (evN l i).s < (evN l (i - 1)).s := by simpa [evN] using e4
          exact fun h => this h.2
        have hto2 : (evN l i).s ≤ to := by simpa [evN] using e5
        have hx := evOk_iff.1 hev
        simp only [evN] at hx
        have hl1 : (evN l i).s = l i 1 := rfl
        unfold callS
        refine calls_mono ?_ (ga_atO (xs := [.int .i64 (l i 1)]) (O := .ret (.tup [])) (by simp [BdL, Bd]) rfl (by simp [bdO, Bd, BdL]) rfl (passO_calls hs' hx.2.1 v (l i 1 - S.now).toNat (by omega)) _ _)
        rintro o h' ⟨v1, rfl, rfl⟩
        have h1 := passF_ok hx.2.1 hs'
        have h2 : (passF S (l i 1)).now = l i 1 := passF_now _ _
        have h3 : (passF S (l i 1)).b.Cnt i := passP_cnt _ _ hc
        have hbad := bad hev hord hto2
        have hgood := good hev hord hto2
        rw [hl1] at hbad hgood
        rw [show passP (l i 1 - S.now).toNat S (l i 1) = passF S (l i 1) from rfl]
        generalize passF S (l i 1) = S1 at h1 h2 h3 hbad hgood
        have hki : l i 0 = 0 ∨ l i 0 = 1 ∨ l i 0 = 2 ∨ l i 0 = 3 ∨ l i 0 = 4 ∨ l i 0 = 5 ∨ l i 0 = 6 := by omega
        have hkk : (evN l i).k = l i 0 := rfl
        have hd1 := deed_ok h1 h3 (by omega) (evN l i)
        have hd2 := deed_cnt h3 (evN l i)
        have bO : ∀ r : Bo × Int, ∀ L M, bdO L M (deedO r) := fun r L M => by unfold deedO; split <;> simp [bdO, Bd, BdL]
        have rO : ∀ r : Bo × Int, ∀ b u, renO b u (deedO r) = deedO r := fun r b u => by unfold deedO; split <;> rfl
        rcases hki with hk0 | hk0 | hk0 | hk0 | hk0 | hk0 | hk0
        · have hr : S1.b.deed (evN l i) = S1.b.start := by simp [Bo.deed, hkk, hk0]
          simp only [hk0, gaC, vecL, outL, Try.f30, Try.f48, q30_10, go_sem, ↓reduceIte, Nat.reduceAdd, Nat.reduceSub, Nat.reduceMul, Nat.reduceEqDiff, Nat.reduceLT, Nat.reduceLeDiff, Int.reduceToNat, Int.reduceLE, Int.reduceLT, Int.reduceEq, Int.reduceNeg, reduceCtorEq]
          refine ⟨⟨by kernel_rfl, by kernel_rfl⟩, by omega, ?_⟩
          refine calls_mono ?_ (ga_atO (xs := [evS ⟨0, l i 1, l i 2, l i 3⟩]) (O := deedO (S1.b.start)) (by simp [evS, BdL, Bd]) rfl (bO _ _ _) (rO _ _ _) (start_callsO h1 v1 _) _ _)
          rw [← hr]
          rintro o h' ⟨v2, rfl, rfl⟩
          rw [h2] at hd1 ⊢
          generalize S1.b.deed (evN l i) = r at hbad hgood hd1 hd2
          by_cases h0 : r.2 = 0
          · rw [deedO, if_pos h0]
            simp only [gaC, vecL, outL, Try.f30, Try.f48, q30_10, go_sem, ↓reduceIte, Nat.reduceAdd, Nat.reduceSub, Nat.reduceMul, Nat.reduceEqDiff, Nat.reduceLT, Nat.reduceLeDiff, Int.reduceToNat, Int.reduceLE, Int.reduceLT, Int.reduceEq, Int.reduceNeg, reduceCtorEq]
            refine ⟨⟨(i + 1, ⟨r.1, l i 1, S1.out⟩, v2), by omega, hd1, hd2, ?_⟩, by simp only []; omega, ?_⟩
            · simp only []
              rw [show n - (i + 1) = k by omega]
              exact hgood h0
            · apply sub_of <;> simp only [hw3, gaC, vecL, outL, go_sem, ↓reduceIte, Nat.reduceAdd, Nat.reduceSub, Nat.reduceMul, Nat.reduceEqDiff, Nat.reduceLT, Nat.reduceLeDiff, Int.reduceToNat, Int.reduceLE, Int.reduceLT, Int.reduceEq, Int.reduceNeg, reduceCtorEq] <;> (try simp) <;> (try exact fun j _ => Bd_nth (by simp [BdL, Bd]) j) <;> (try exact bd_setL (by simp [bdAs, BdL, Bd])) <;> (try exact nestF_bd _ _ _ _ _ _ _ _ _)
          · rw [deedO, if_neg h0]
            simp only [gaC, vecL, outL, Try.f30, Try.f48, q30_10, go_sem, ↓reduceIte, Nat.reduceAdd, Nat.reduceSub, Nat.reduceMul, Nat.reduceEqDiff, Nat.reduceLT, Nat.reduceLeDiff, Int.reduceToNat, Int.reduceLE, Int.reduceLT, Int.reduceEq, Int.reduceNeg, reduceCtorEq]
            refine defS_mono (def46_some _ _ _ 0 (by simp only [go_sem, ↓reduceIte, Nat.reduceAdd, Nat.reduceSub, Nat.reduceMul, Nat.reduceEqDiff, Nat.reduceLT, Nat.reduceLeDiff, Int.reduceToNat, Int.reduceLE, Int.reduceLT, Int.reduceEq, Int.reduceNeg, reduceCtorEq])) ?_
            rintro p' h' ⟨rfl, rfl⟩
            simp only [go_sem, ↓reduceIte, Nat.reduceAdd, Nat.reduceSub, Nat.reduceMul, Nat.reduceEqDiff, Nat.reduceLT, Nat.reduceLeDiff, Int.reduceToNat, Int.reduceLE, Int.reduceLT, Int.reduceEq, Int.reduceNeg, reduceCtorEq]
            rw [hbad h0]
            exact ⟨v2, _, _, rfl, rfl⟩
        · have hr : S1.b.deed (evN l i) = S1.b.stop := by simp [Bo.deed, hkk, hk0]
          simp only [hk0, gaC, vecL, outL, Try.f30, Try.f48, q30_10, go_sem, ↓reduceIte, Nat.reduceAdd, Nat.reduceSub, Nat.reduceMul, Nat.reduceEqDiff, Nat.reduceLT, Nat.reduceLeDiff, Int.reduceToNat, Int.reduceLE, Int.reduceLT, Int.reduceEq, Int.reduceNeg, reduceCtorEq]
          refine ⟨⟨by kernel_rfl, by kernel_rfl⟩, by omega, ?_⟩
          refine calls_mono ?_ (ga_atO (xs := [evS ⟨1, l i 1, l i 2, l i 3⟩]) (O := deedO (S1.b.stop)) (by simp [evS, BdL, Bd]) rfl (bO _ _ _) (rO _ _ _) (stop_callsO v1 _) _ _)
          rw [← hr]
          rintro o h' ⟨v2, rfl, rfl⟩
          rw [h2] at hd1 ⊢
          generalize S1.b.deed (evN l i) = r at hbad hgood hd1 hd2
          by_cases h0 : r.2 = 0
          · rw [deedO, if_pos h0]
            simp only [gaC, vecL, outL, Try.f30, Try.f48, q30_10, go_sem, ↓reduceIte, Nat.reduceAdd, Nat.reduceSub, Nat.reduceMul, Nat.reduceEqDiff, Nat.reduceLT, Nat.reduceLeDiff, Int.reduceToNat, Int.reduceLE, Int.reduceLT, Int.reduceEq, Int.reduceNeg, reduceCtorEq]
            refine ⟨⟨(i + 1, ⟨r.1, l i 1, S1.out⟩, v2), by omega, hd1, hd2, ?_⟩, by simp only []; omega, ?_⟩
            · simp only []
              rw [show n - (i + 1) = k by omega]
              exact hgood h0
            · apply sub_of <;> simp only [hw3, gaC, vecL, outL, go_sem, ↓reduceIte, Nat.reduceAdd, Nat.reduceSub, Nat.reduceMul, Nat.reduceEqDiff, Nat.reduceLT, Nat.reduceLeDiff, Int.reduceToNat, Int.reduceLE, Int.reduceLT, Int.reduceEq, Int.reduceNeg, reduceCtorEq] <;> (try simp) <;> (try exact fun j _ => Bd_nth (by simp [BdL, Bd]) j) <;> (try exact bd_setL (by simp [bdAs, BdL, Bd])) <;> (try exact nestF_bd _ _ _ _ _ _ _ _ _)
          · rw [deedO, if_neg h0]
            simp only [gaC, vecL, outL, Try.f30, Try.f48, q30_10, go_sem, ↓reduceIte, Nat.reduceAdd, Nat.reduceSub, Nat.reduceMul, Nat.reduceEqDiff, Nat.reduceLT, Nat.reduceLeDiff, Int.reduceToNat, Int.reduceLE, Int.reduceLT, Int.reduceEq, Int.reduceNeg, reduceCtorEq]
            refine defS_mono (def46_some _ _ _ 0 (by simp only [go_sem, ↓reduceIte, Nat.reduceAdd, Nat.reduceSub, Nat.reduceMul, Nat.reduceEqDiff, Nat.reduceLT, Nat.reduceLeDiff, Int.reduceToNat, Int.reduceLE, Int.reduceLT, Int.reduceEq, Int.reduceNeg, reduceCtorEq])) ?_
            rintro p' h' ⟨rfl, rfl⟩
            simp only [go_sem, ↓reduceIte, Nat.reduceAdd, Nat.reduceSub, Nat.reduceMul, Nat.reduceEqDiff, Nat.reduceLT, Nat.reduceLeDiff, Int.reduceToNat, Int.reduceLE, Int.reduceLT, Int.reduceEq, Int.reduceNeg, reduceCtorEq]
            rw [hbad h0]
            exact ⟨v2, _, _, rfl, rfl⟩
        · have hr : S1.b.deed (evN l i) = S1.b.goal (l i 2) := by simp [Bo.deed, hkk, hk0]; rfl
          simp only [hk0, gaC, vecL, outL, Try.f30, Try.f48, q30_10, go_sem, ↓reduceIte, Nat.reduceAdd, Nat.reduceSub, Nat.reduceMul, Nat.reduceEqDiff, Nat.reduceLT, Nat.reduceLeDiff, Int.reduceToNat, Int.reduceLE, Int.reduceLT, Int.reduceEq, Int.reduceNeg, reduceCtorEq]
          refine ⟨⟨by kernel_rfl, by kernel_rfl⟩, by omega, ?_⟩
          refine calls_mono ?_ (ga_atO (xs := [evS ⟨2, l i 1, l i 2, l i 3⟩]) (O := deedO (S1.b.goal (l i 2))) (by simp [evS, BdL, Bd]) rfl (bO _ _ _) (rO _ _ _) (goal_callsO h1 v1 _ (by dsimp only; omega)) _ _)
          rw [← hr]
          rintro o h' ⟨v2, rfl, rfl⟩
          rw [h2] at hd1 ⊢
          generalize S1.b.deed (evN l i) = r at hbad hgood hd1 hd2
          by_cases h0 : r.2 = 0
          · rw [deedO, if_pos h0]
            simp only [gaC, vecL, outL, Try.f30, Try.f48, q30_10, go_sem, ↓reduceIte, Nat.reduceAdd, Nat.reduceSub, Nat.reduceMul, Nat.reduceEqDiff, Nat.reduceLT, Nat.reduceLeDiff, Int.reduceToNat, Int.reduceLE, Int.reduceLT, Int.reduceEq, Int.reduceNeg, reduceCtorEq]
            refine ⟨⟨(i + 1, ⟨r.1, l i 1, S1.out⟩, v2), by omega, hd1, hd2, ?_⟩, by simp only []; omega, ?_⟩
            · simp only []
              rw [show n - (i + 1) = k by omega]
              exact hgood h0
            · apply sub_of <;> simp only [hw3, gaC, vecL, outL, go_sem, ↓reduceIte, Nat.reduceAdd, Nat.reduceSub, Nat.reduceMul, Nat.reduceEqDiff, Nat.reduceLT, Nat.reduceLeDiff, Int.reduceToNat, Int.reduceLE, Int.reduceLT, Int.reduceEq, Int.reduceNeg, reduceCtorEq] <;> (try simp) <;> (try exact fun j _ => Bd_nth (by simp [BdL, Bd]) j) <;> (try exact bd_setL (by simp [bdAs, BdL, Bd])) <;> (try exact nestF_bd _ _ _ _ _ _ _ _ _)
          · rw [deedO, if_neg h0]
            simp only [gaC, vecL, outL, Try.f30, Try.f48, q30_10, go_sem, ↓reduceIte, Nat.reduceAdd, Nat.reduceSub, Nat.reduceMul, Nat.reduceEqDiff, Nat.reduceLT, Nat.reduceLeDiff, Int.reduceToNat, Int.reduceLE, Int.reduceLT, Int.reduceEq, Int.reduceNeg, reduceCtorEq]
            refine defS_mono (def46_some _ _ _ 0 (by simp only [go_sem, ↓reduceIte, Nat.reduceAdd, Nat.reduceSub, Nat.reduceMul, Nat.reduceEqDiff, Nat.reduceLT, Nat.reduceLeDiff, Int.reduceToNat, Int.reduceLE, Int.reduceLT, Int.reduceEq, Int.reduceNeg, reduceCtorEq])) ?_
            rintro p' h' ⟨rfl, rfl⟩
            simp only [go_sem, ↓reduceIte, Nat.reduceAdd, Nat.reduceSub, Nat.reduceMul, Nat.reduceEqDiff, Nat.reduceLT, Nat.reduceLeDiff, Int.reduceToNat, Int.reduceLE, Int.reduceLT, Int.reduceEq, Int.reduceNeg, reduceCtorEq]
            rw [hbad h0]
            exact ⟨v2, _, _, rfl, rfl⟩
        · have hr : S1.b.deed (evN l i) = S1.b.give 3 (l i 2) (l i 3) := by simp [Bo.deed, hkk, hk0]; rfl
          simp only [hk0, gaC, vecL, outL, Try.f30, Try.f48, q30_10, go_sem, ↓reduceIte, Nat.reduceAdd, Nat.reduceSub, Nat.reduceMul, Nat.reduceEqDiff, Nat.reduceLT, Nat.reduceLeDiff, Int.reduceToNat, Int.reduceLE, Int.reduceLT, Int.reduceEq, Int.reduceNeg, reduceCtorEq]
          refine ⟨⟨by kernel_rfl, by kernel_rfl⟩, by omega, ?_⟩
          refine calls_mono ?_ (ga_atO (xs := [evS ⟨3, l i 1, l i 2, l i 3⟩]) (O := deedO (S1.b.give 3 (l i 2) (l i 3))) (by simp [evS, BdL, Bd]) rfl (bO _ _ _) (rO _ _ _) (give_callsO h1 v1 _ (by dsimp only; omega) (by dsimp only; omega)) _ _)
          rw [← hr]
          rintro o h' ⟨v2, rfl, rfl⟩
          rw [h2] at hd1 ⊢
          generalize S1.b.deed (evN l i) = r at hbad hgood hd1 hd2
          by_cases h0 : r.2 = 0
          · rw [deedO, if_pos h0]
            simp only [gaC, vecL, outL, Try.f30, Try.f48, q30_10, go_sem, ↓reduceIte, Nat.reduceAdd, Nat.reduceSub, Nat.reduceMul, Nat.reduceEqDiff, Nat.reduceLT, Nat.reduceLeDiff, Int.reduceToNat, Int.reduceLE, Int.reduceLT, Int.reduceEq, Int.reduceNeg, reduceCtorEq]
            refine ⟨⟨(i + 1, ⟨r.1, l i 1, S1.out⟩, v2), by omega, hd1, hd2, ?_⟩, by simp only []; omega, ?_⟩
            · simp only []
              rw [show n - (i + 1) = k by omega]
              exact hgood h0
            · apply sub_of <;> simp only [hw3, gaC, vecL, outL, go_sem, ↓reduceIte, Nat.reduceAdd, Nat.reduceSub, Nat.reduceMul, Nat.reduceEqDiff, Nat.reduceLT, Nat.reduceLeDiff, Int.reduceToNat, Int.reduceLE, Int.reduceLT, Int.reduceEq, Int.reduceNeg, reduceCtorEq] <;> (try simp) <;> (try exact fun j _ => Bd_nth (by simp [BdL, Bd]) j) <;> (try exact bd_setL (by simp [bdAs, BdL, Bd])) <;> (try exact nestF_bd _ _ _ _ _ _ _ _ _)
          · rw [deedO, if_neg h0]
            simp only [gaC, vecL, outL, Try.f30, Try.f48, q30_10, go_sem, ↓reduceIte, Nat.reduceAdd, Nat.reduceSub, Nat.reduceMul, Nat.reduceEqDiff, Nat.reduceLT, Nat.reduceLeDiff, Int.reduceToNat, Int.reduceLE, Int.reduceLT, Int.reduceEq, Int.reduceNeg, reduceCtorEq]
            refine defS_mono (def46_some _ _ _ 0 (by simp only [go_sem, ↓reduceIte, Nat.reduceAdd, Nat.reduceSub, Nat.reduceMul, Nat.reduceEqDiff, Nat.reduceLT, Nat.reduceLeDiff, Int.reduceToNat, Int.reduceLE, Int.reduceLT, Int.reduceEq, Int.reduceNeg, reduceCtorEq])) ?_
            rintro p' h' ⟨rfl, rfl⟩
            simp only [go_sem, ↓reduceIte, Nat.reduceAdd, Nat.reduceSub, Nat.reduceMul, Nat.reduceEqDiff, Nat.reduceLT, Nat.reduceLeDiff, Int.reduceToNat, Int.reduceLE, Int.reduceLT, Int.reduceEq, Int.reduceNeg, reduceCtorEq]
            rw [hbad h0]
            exact ⟨v2, _, _, rfl, rfl⟩
        · have hr : S1.b.deed (evN l i) = S1.b.give 4 (l i 2) (l i 3) := by simp [Bo.deed, hkk, hk0]; rfl
          simp only [hk0, gaC, vecL, outL, Try.f30, Try.f48, q30_10, go_sem, ↓reduceIte, Nat.reduceAdd, Nat.reduceSub, Nat.reduceMul, Nat.reduceEqDiff, Nat.reduceLT, Nat.reduceLeDiff, Int.reduceToNat, Int.reduceLE, Int.reduceLT, Int.reduceEq, Int.reduceNeg, reduceCtorEq]
          refine ⟨⟨by kernel_rfl, by kernel_rfl⟩, by omega, ?_⟩
          refine calls_mono ?_ (ga_atO (xs := [evS ⟨4, l i 1, l i 2, l i 3⟩]) (O := deedO (S1.b.give 4 (l i 2) (l i 3))) (by simp [evS, BdL, Bd]) rfl (bO _ _ _) (rO _ _ _) (give_callsO h1 v1 _ (by dsimp only; omega) (by dsimp only; omega)) _ _)
          rw [← hr]
          rintro o h' ⟨v2, rfl, rfl⟩
          rw [h2] at hd1 ⊢
          generalize S1.b.deed (evN l i) = r at hbad hgood hd1 hd2
          by_cases h0 : r.2 = 0
          · rw [deedO, if_pos h0]
            simp only [gaC, vecL, outL, Try.f30, Try.f48, q30_10, go_sem, ↓reduceIte, Nat.reduceAdd, Nat.reduceSub, Nat.reduceMul, Nat.reduceEqDiff, Nat.reduceLT, Nat.reduceLeDiff, Int.reduceToNat, Int.reduceLE, Int.reduceLT, Int.reduceEq, Int.reduceNeg, reduceCtorEq]
            refine ⟨⟨(i + 1, ⟨r.1, l i 1, S1.out⟩, v2), by omega, hd1, hd2, ?_⟩, by simp only []; omega, ?_⟩
            · simp only []
              rw [show n - (i + 1) = k by omega]
              exact hgood h0
            · apply sub_of <;> simp only [hw3, gaC, vecL, outL, go_sem, ↓reduceIte, Nat.reduceAdd, Nat.reduceSub, Nat.reduceMul, Nat.reduceEqDiff, Nat.reduceLT, Nat.reduceLeDiff, Int.reduceToNat, Int.reduceLE, Int.reduceLT, Int.reduceEq, Int.reduceNeg, reduceCtorEq] <;> (try simp) <;> (try exact fun j _ => Bd_nth (by simp [BdL, Bd]) j) <;> (try exact bd_setL (by simp [bdAs, BdL, Bd])) <;> (try exact nestF_bd _ _ _ _ _ _ _ _ _)
          · rw [deedO, if_neg h0]
            simp only [gaC, vecL, outL, Try.f30, Try.f48, q30_10, go_sem, ↓reduceIte, Nat.reduceAdd, Nat.reduceSub, Nat.reduceMul, Nat.reduceEqDiff, Nat.reduceLT, Nat.reduceLeDiff, Int.reduceToNat, Int.reduceLE, Int.reduceLT, Int.reduceEq, Int.reduceNeg, reduceCtorEq]
            refine defS_mono (def46_some _ _ _ 0 (by simp only [go_sem, ↓reduceIte, Nat.reduceAdd, Nat.reduceSub, Nat.reduceMul, Nat.reduceEqDiff, Nat.reduceLT, Nat.reduceLeDiff, Int.reduceToNat, Int.reduceLE, Int.reduceLT, Int.reduceEq, Int.reduceNeg, reduceCtorEq])) ?_
            rintro p' h' ⟨rfl, rfl⟩
            simp only [go_sem, ↓reduceIte, Nat.reduceAdd, Nat.reduceSub, Nat.reduceMul, Nat.reduceEqDiff, Nat.reduceLT, Nat.reduceLeDiff, Int.reduceToNat, Int.reduceLE, Int.reduceLT, Int.reduceEq, Int.reduceNeg, reduceCtorEq]
            rw [hbad h0]
            exact ⟨v2, _, _, rfl, rfl⟩
        · have hr : S1.b.deed (evN l i) = S1.b.give 5 (l i 2) (l i 3) := by simp [Bo.deed, hkk, hk0]; rfl
          simp only [hk0, gaC, vecL, outL, Try.f30, Try.f48, q30_10, go_sem, ↓reduceIte, Nat.reduceAdd, Nat.reduceSub, Nat.reduceMul, Nat.reduceEqDiff, Nat.reduceLT, Nat.reduceLeDiff, Int.reduceToNat, Int.reduceLE, Int.reduceLT, Int.reduceEq, Int.reduceNeg, reduceCtorEq]
          refine ⟨⟨by kernel_rfl, by kernel_rfl⟩, by omega, ?_⟩
          refine calls_mono ?_ (ga_atO (xs := [evS ⟨5, l i 1, l i 2, l i 3⟩]) (O := deedO (S1.b.give 5 (l i 2) (l i 3))) (by simp [evS, BdL, Bd]) rfl (bO _ _ _) (rO _ _ _) (give_callsO h1 v1 _ (by dsimp only; omega) (by dsimp only; omega)) _ _)
          rw [← hr]
          rintro o h' ⟨v2, rfl, rfl⟩
          rw [h2] at hd1 ⊢
          generalize S1.b.deed (evN l i) = r at hbad hgood hd1 hd2
          by_cases h0 : r.2 = 0
          · rw [deedO, if_pos h0]
            simp only [gaC, vecL, outL, Try.f30, Try.f48, q30_10, go_sem, ↓reduceIte, Nat.reduceAdd, Nat.reduceSub, Nat.reduceMul, Nat.reduceEqDiff, Nat.reduceLT, Nat.reduceLeDiff, Int.reduceToNat, Int.reduceLE, Int.reduceLT, Int.reduceEq, Int.reduceNeg, reduceCtorEq]
            refine ⟨⟨(i + 1, ⟨r.1, l i 1, S1.out⟩, v2), by omega, hd1, hd2, ?_⟩, by simp only []; omega, ?_⟩
            · simp only []
              rw [show n - (i + 1) = k by omega]
              exact hgood h0
            · apply sub_of <;> simp only [hw3, gaC, vecL, outL, go_sem, ↓reduceIte, Nat.reduceAdd, Nat.reduceSub, Nat.reduceMul, Nat.reduceEqDiff, Nat.reduceLT, Nat.reduceLeDiff, Int.reduceToNat, Int.reduceLE, Int.reduceLT, Int.reduceEq, Int.reduceNeg, reduceCtorEq] <;> (try simp) <;> (try exact fun j _ => Bd_nth (by simp [BdL, Bd]) j) <;> (try exact bd_setL (by simp [bdAs, BdL, Bd])) <;> (try exact nestF_bd _ _ _ _ _ _ _ _ _)
          · rw [deedO, if_neg h0]
            simp only [gaC, vecL, outL, Try.f30, Try.f48, q30_10, go_sem, ↓reduceIte, Nat.reduceAdd, Nat.reduceSub, Nat.reduceMul, Nat.reduceEqDiff, Nat.reduceLT, Nat.reduceLeDiff, Int.reduceToNat, Int.reduceLE, Int.reduceLT, Int.reduceEq, Int.reduceNeg, reduceCtorEq]
            refine defS_mono (def46_some _ _ _ 0 (by simp only [go_sem, ↓reduceIte, Nat.reduceAdd, Nat.reduceSub, Nat.reduceMul, Nat.reduceEqDiff, Nat.reduceLT, Nat.reduceLeDiff, Int.reduceToNat, Int.reduceLE, Int.reduceLT, Int.reduceEq, Int.reduceNeg, reduceCtorEq])) ?_
            rintro p' h' ⟨rfl, rfl⟩
            simp only [go_sem, ↓reduceIte, Nat.reduceAdd, Nat.reduceSub, Nat.reduceMul, Nat.reduceEqDiff, Nat.reduceLT, Nat.reduceLeDiff, Int.reduceToNat, Int.reduceLE, Int.reduceLT, Int.reduceEq, Int.reduceNeg, reduceCtorEq]
            rw [hbad h0]
            exact ⟨v2, _, _, rfl, rfl⟩
        · have hr : S1.b.deed (evN l i) = S1.b.give 6 (l i 2) (l i 3) := by simp [Bo.deed, hkk, hk0]; rfl
          simp only [hk0, gaC, vecL, outL, Try.f30, Try.f48, q30_10, go_sem, ↓reduceIte, Nat.reduceAdd, Nat.reduceSub, Nat.reduceMul, Nat.reduceEqDiff, Nat.reduceLT, Nat.reduceLeDiff, Int.reduceToNat, Int.reduceLE, Int.reduceLT, Int.reduceEq, Int.reduceNeg, reduceCtorEq]
          refine ⟨⟨by kernel_rfl, by kernel_rfl⟩, by omega, ?_⟩
          refine calls_mono ?_ (ga_atO (xs := [evS ⟨6, l i 1, l i 2, l i 3⟩]) (O := deedO (S1.b.give 6 (l i 2) (l i 3))) (by simp [evS, BdL, Bd]) rfl (bO _ _ _) (rO _ _ _) (give_callsO h1 v1 _ (by dsimp only; omega) (by dsimp only; omega)) _ _)
          rw [← hr]
          rintro o h' ⟨v2, rfl, rfl⟩
          rw [h2] at hd1 ⊢
          generalize S1.b.deed (evN l i) = r at hbad hgood hd1 hd2
          by_cases h0 : r.2 = 0
          · rw [deedO, if_pos h0]
            simp only [gaC, vecL, outL, Try.f30, Try.f48, q30_10, go_sem, ↓reduceIte, Nat.reduceAdd, Nat.reduceSub, Nat.reduceMul, Nat.reduceEqDiff, Nat.reduceLT, Nat.reduceLeDiff, Int.reduceToNat, Int.reduceLE, Int.reduceLT, Int.reduceEq, Int.reduceNeg, reduceCtorEq]
            refine ⟨⟨(i + 1, ⟨r.1, l i 1, S1.out⟩, v2), by omega, hd1, hd2, ?_⟩, by simp only []; omega, ?_⟩
            · simp only []
              rw [show n - (i + 1) = k by omega]
              exact hgood h0
            · apply sub_of <;> simp only [hw3, gaC, vecL, outL, go_sem, ↓reduceIte, Nat.reduceAdd, Nat.reduceSub, Nat.reduceMul, Nat.reduceEqDiff, Nat.reduceLT, Nat.reduceLeDiff, Int.reduceToNat, Int.reduceLE, Int.reduceLT, Int.reduceEq, Int.reduceNeg, reduceCtorEq] <;> (try simp) <;> (try exact fun j _ => Bd_nth (by simp [BdL, Bd]) j) <;> (try exact bd_setL (by simp [bdAs, BdL, Bd])) <;> (try exact nestF_bd _ _ _ _ _ _ _ _ _)
          · rw [deedO, if_neg h0]
            simp only [gaC, vecL, outL, Try.f30, Try.f48, q30_10, go_sem, ↓reduceIte, Nat.reduceAdd, Nat.reduceSub, Nat.reduceMul, Nat.reduceEqDiff, Nat.reduceLT, Nat.reduceLeDiff, Int.reduceToNat, Int.reduceLE, Int.reduceLT, Int.reduceEq, Int.reduceNeg, reduceCtorEq]
            refine defS_mono (def46_some _ _ _ 0 (by simp only [go_sem, ↓reduceIte, Nat.reduceAdd, Nat.reduceSub, Nat.reduceMul, Nat.reduceEqDiff, Nat.reduceLT, Nat.reduceLeDiff, Int.reduceToNat, Int.reduceLE, Int.reduceLT, Int.reduceEq, Int.reduceNeg, reduceCtorEq])) ?_
            rintro p' h' ⟨rfl, rfl⟩
            simp only [go_sem, ↓reduceIte, Nat.reduceAdd, Nat.reduceSub, Nat.reduceMul, Nat.reduceEqDiff, Nat.reduceLT, Nat.reduceLeDiff, Int.reduceToNat, Int.reduceLE, Int.reduceLT, Int.reduceEq, Int.reduceNeg, reduceCtorEq]
            rw [hbad h0]
            exact ⟨v2, _, _, rfl, rfl⟩
      · simp only [decide_eq_false_iff_not] at e3
        rw [hwm (by omega)] at e4
        have hev : evOk (evN l i) = true := by simpa [evN] using e2
        have hord : ¬ (i ≠ 0 ∧ (evN l i).s < (evN l (i - 1)).s) := by
          have : ¬ (evN l i).s < (evN l (i - 1)).s := by simpa [evN] using e4
          exact fun h => this h.2
        have hto2 : ¬ (evN l i).s ≤ to := by simpa [evN] using e5
        refine ⟨⟨(i + 1, S, v), by omega, hs', ⟨by have := hc.p0; dsimp only; omega, by have := hc.p1; dsimp only; omega, by have := hc.m0; dsimp only; omega, by have := hc.m1; dsimp only; omega, by have := hc.g0; dsimp only; omega, by have := hc.g1; dsimp only; omega⟩, ?_⟩, by simp only []; omega, ?_⟩
        · simp only []
          rw [show n - (i + 1) = k by omega]
          exact goOn hev hord hto2
        · apply sub_of <;> simp only [hw3, gaC, vecL, outL, go_sem, ↓reduceIte, Nat.reduceAdd, Nat.reduceSub, Nat.reduceMul, Nat.reduceEqDiff, Nat.reduceLT, Nat.reduceLeDiff, Int.reduceToNat, Int.reduceLE, Int.reduceLT, Int.reduceEq, Int.reduceNeg, reduceCtorEq] <;> (try simp) <;> (try exact fun j _ => Bd_nth (by simp [BdL, Bd]) j) <;> (try exact bd_setL (by simp [bdAs, BdL, Bd])) <;> (try exact nestF_bd _ _ _ _ _ _ _ _ _)
    · have hpl : playP (evN l) to n 0 s = (S, i, 0) := by
        rw [← hp, show n - i = 0 by omega, playP]
      rw [hpl]
      refine defS_mono (def46_none _ _) ?_
      rintro p' h' ⟨rfl, rfl⟩
      simp only [go_sem, ↓reduceIte, Nat.reduceAdd, Nat.reduceSub, Nat.reduceMul, Nat.reduceEqDiff, Nat.reduceLT, Nat.reduceLeDiff, Int.reduceToNat, Int.reduceLE, Int.reduceLT, Int.reduceEq, Int.reduceNeg, reduceCtorEq]
      exact ⟨v, _, _, rfl, rfl⟩
  · rintro o h' ⟨v', B, V, rfl, rfl⟩
    refine ⟨_, _, goH (playP (evN l) to n 0 s).1 v', ⟨rfl, v', rfl, rfl⟩, ⟨?_, ?_, ?_, ?_, ?_, ?_⟩, ⟨?_, ?_⟩, ⟨?_, ?_⟩⟩ <;> (try simp only [goH, gaC, vecL, outL, go_sem, ↓reduceIte, Nat.reduceAdd, Nat.reduceSub, Nat.reduceMul, Nat.reduceEqDiff, Nat.reduceLT, Nat.reduceLeDiff, Int.reduceToNat, Int.reduceLE, Int.reduceLT, Int.reduceEq, Int.reduceNeg, reduceCtorEq]) <;> (try simp)
end Go.Eng
end
