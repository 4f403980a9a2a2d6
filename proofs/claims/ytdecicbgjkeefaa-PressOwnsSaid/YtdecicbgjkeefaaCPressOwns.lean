/-
  PressOwns: for every input the law returns true, and each argument reads afterwards as it read before. No condition.
-/
import Derived.Test.YtdecicbgjkeefaaRows
import Derived.WalkKit
import Derived.Test.YtdecicbgjkeefaaX5
set_option linter.unusedSimpArgs false
set_option linter.unusedVariables false
/- press: no argument is changed, and what is returned is new. -/
section
namespace Go.Eng
open Go Go.RowKit Go.Proofs
set_option maxRecDepth 100000
set_option maxHeartbeats 4000000
attribute [local irreducible] OwnT DefS
def q10_22 : Plan := .quiet 0 (.quiet 1 (.quiet 2 (.quiet 3 (.quiet 4 (.quiet 5 (.quiet 6 (.loud 7 [3, 4] (.quiet 8 (.loud 9 [] (.done))))))))))
theorem behind_any (n : Nat) (A : Nat → Nat → Int) (M : Nat → Nat) (V : Nat → Nat → Nat → Int) (h : Nat) (nd : Nat → Nat → Int) (q : Nat) (pr : Nat → Nat → Int) (st ro pk fr : Int) (m : Nat) (B : Nat → Nat → Int) (K : Nat → Nat) (W : Nat → Nat → Nat → Int) (pre : ((n ≤ 1000000 ∧ ∀ i, i < n → M i ≤ 1000000) ∧ h ≤ 1000000 ∧ q ≤ 1000000) ∧ m ≤ 1000000 ∧ ∀ i, i < m → K i ≤ 1000000) {b : Bool} (hb : psB n A M V h nd q pr st ro pk fr = b)
    (hE : bhE ⟨n, A, M, V, h, nd, pr, st, ro, pk, fr⟩ b m K W ≠ 0) (H : HS) :
    CallsS Try.prog 24 [.agg [.row n 5 (nestF 0 2 A M V), .row h 1 (fun i j => .int .i64 (nd i j)), .row q 1 (fun i j => .int .i64 (pr i j)), .int .i64 st, .int .i64 ro, .int .i64 pk, .int .i64 fr], .row m 1 (nestF 0 1 B K W)] H
      (fun o h' => ∃ e X, e ≠ 0 ∧ o = .ret (.tup [.agg (prC X), .int .i64 e]) ∧ h' = H) := by
  have hns : bhE ⟨n, nsA (nestF 0 2 A M V), M, V, h, nd, pr, st, ro, pk, fr⟩ b m K W = bhE ⟨n, A, M, V, h, nd, pr, st, ro, pk, fr⟩ b m K W := by
    unfold bhE; rw [plM_ns]
  have hc := behind_base _ _ _ (behind_eq n 5 (nestF 0 2 A M V) h 1 (fun i j => .int .i64 (nd i j)) q 1 (fun i j => .int .i64 (pr i j)) st ro pk fr m 1 (nestF 0 1 B K W)) ⟨⟨rfl, of_eq_true (nestR_lit _ _ _ _ _ _ _)⟩, ⟨rfl, fun _ _ _ _ => rfl⟩, ⟨rfl, fun _ _ _ _ => rfl⟩, ⟨rfl, of_eq_true (nestR_lit _ _ _ _ _ _ _)⟩, by simpa only [nsM_lit] using pre⟩
  have e1 : ∀ f : Nat → Nat → Int, ivf (fun i j => .int .i64 (f i j)) = f := fun _ => rfl
  simp only [nsM_lit, nsV_lit, e1, psB_ns, hb, hns] at hc
  obtain ⟨b1, b2, b3⟩ := hc
  refine calls_mono ?_ (frame_calls b3 b1 (fun o => o = .ret _) (fun o h' e => by subst e; exact ⟨rfl, b2⟩) _)
  rintro o h' ⟨rfl, rfl⟩
  exact ⟨_, _, hE, rfl, rfl⟩
theorem chE_0 {b : Bool} {D : PD} (h : chE b D = 0) : b = true ∧ (bestM D D.h (begP D)).isNone = false ∧ chN b D = D.h ∧ chC b D = wx (bestM D D.h (begP D)) := by
  have h2 : chN b D = D.h := by simp only [chN, h, if_true]
  have h3 : chC b D = wx (bestM D D.h (begP D)) := by simp only [chC, h, if_true]
  cases b with
  | false => simp [chE] at h
  | true =>
    cases hq : (bestM D D.h (begP D)).isNone with
    | true => rw [chE, hq] at h; exact absurd h (by decide)
    | false => exact ⟨rfl, rfl, h2, h3⟩
theorem frz_pl (k : Nat) (H : HS) (A : Nat → Nat → Int) (M : Nat → Nat) (V : Nat → Nat → Nat → Int) (i j : Nat) : frzF (k + 1) H (nestF 0 1 A M V i j) = nestF 0 1 A M V i j := by
  simp only [nestF]; split <;> rfl
theorem allU_tt (n : Nat) : allU (fun _ => true) n = true := allU_iff.2 fun _ _ => rfl
theorem flL_len {n : Nat} {A : Nat → Nat → Int} {M : Nat → Nat} {V : Nat → Nat → Nat → Int} {h : Nat} {nd : Nat → Nat → Int} {q : Nat} {pr : Nat → Nat → Int} {m : Nat} {K : Nat → Nat} {W : Nat → Nat → Nat → Int} (p1 : n ≤ 6) (p2 : ∀ i, i < n → M i ≤ 6) (p3 : h ≤ 20) (p4 : q ≤ 20) (p5 : m ≤ 20) (p6 : ∀ i, i < m → K i ≤ 8) : (flL n A M V h nd q pr m K W).length ≤ 1000000 := by
  have ll : ∀ (v : Nat → Nat → Int) k, (lvL v k).length = 2 * k := fun v k => by induction k with | zero => rfl | succ k ih => simp only [lvL, List.length_append, ih, List.length_cons, List.length_nil]; omega
  have pl : ∀ k, k ≤ n → (prL A M V k).length ≤ 16 * k := fun k => by
    induction k with
    | zero => intro _; simp [prL]
    | succ k ih =>
      intro hk
      have h1 := ih (by omega)
      have h2 := p2 k (by omega)
      simp only [prL, List.length_append, ll, List.length_cons, List.length_nil]
      omega
  have kl : ∀ k, k ≤ m → (plL K W k).length ≤ 8 * k := fun k => by
    induction k with
    | zero => intro _; simp [plL]
    | succ k ih =>
      intro hk
      have h1 := ih (by omega)
      have h2 := p6 k (by omega)
      simp only [plL, List.length_append, rwL_len]
      omega
  have := pl n (Nat.le_refl n)
  have := kl m (Nat.le_refl m)
  simp only [flL, List.length_append, rwL_len]
  omega
theorem lenV_ap (l : List Vc) : ∀ V0 : List Vc, lenV (V0 ++ l) = lenV V0 + lenV l
  | [] => by simp [lenV]
  | x :: V0 => by simp only [List.cons_append, lenV, lenV_ap l V0]; omega
theorem getV_apL (l : List Vc) : ∀ (V0 : List Vc) {n : Nat}, n < lenV V0 → getV (V0 ++ l) n = getV V0 n
  | [], n, h => by simp [lenV] at h
  | x :: V0, 0, h => rfl
  | x :: V0, n + 1, h => by simp only [List.cons_append, getV]; exact getV_apL l V0 (by simp only [lenV] at h; omega)
theorem getV_apR (l : List Vc) (k : Nat) : ∀ V0 : List Vc, getV (V0 ++ l) (lenV V0 + k) = getV l k
  | [] => by simp [lenV]
  | x :: V0 => by rw [List.cons_append, lenV, show lenV V0 + 1 + k = (lenV V0 + k) + 1 by omega, getV]; exact getV_apR l k V0
theorem setV_apR (l : List Vc) (k : Nat) (v : Vc) : ∀ V0 : List Vc, setV (V0 ++ l) (lenV V0 + k) v = V0 ++ setV l k v
  | [] => by simp [lenV]
  | x :: V0 => by rw [List.cons_append, lenV, show lenV V0 + 1 + k = (lenV V0 + k) + 1 by omega, setV, setV_apR l k v V0]; rfl
/-- Compressors, each with levels of its own. -/
def prF (b : Nat) (A : Nat → Nat → Int) : Nat → Nat → SV := fun i j => if j = 0 then .vec (fI b i) 0 else .int .i64 (A i j)
theorem prF_0 (b : Nat) (A : Nat → Nat → Int) (i : Nat) : prF b A i 0 = .vec (fI b i) 0 := rfl
theorem prF_bw (D : PD) (g : Nat → Int) (b : Nat) {i j : Nat} (hi : i < D.n) : bwF D g b D.n i j = prF b (bhA D.A g D.n) i j := by
  simp only [bwF, prF]
  by_cases h : j = 0
  · rw [if_pos ⟨h, hi⟩, if_pos h]
  · rw [if_neg (by omega), if_neg h]; simp only [nestF, if_neg h]
def up1 (f : Nat → Nat → Int) (k c : Nat) : Nat → Nat → Int := fun i j => if i = k ∧ j = c then -1 else f i j
theorem up1_at (f : Nat → Nat → Int) (k c i j : Nat) : updF (fun i j => .int .i64 (f i j)) k c 1 [.int .i64 (-1)] i j = .int .i64 (up1 f k c i j) := by
  simp only [updF, up1]
  by_cases h1 : i = k
  · by_cases h2 : j = c
    · subst h1 h2; rw [if_pos ⟨rfl, Nat.le_refl _, Nat.lt_succ_self _⟩, if_pos ⟨rfl, rfl⟩]; simp [nth]
    · rw [if_neg (by omega), if_neg (by omega)]
  · rw [if_neg (by omega), if_neg (by omega)]
theorem prF_up (b : Nat) (A : Nat → Nat → Int) (k i j : Nat) : updF (prF b A) k 4 1 [.int .i64 (-1)] i j = prF b (up1 A k 4) i j := by
  simp only [updF, prF, up1]
  by_cases h1 : i = k
  · by_cases h2 : j = 4
    · subst h1 h2; rw [if_pos ⟨rfl, Nat.le_refl _, Nat.lt_succ_self _⟩]; simp [nth]
    · rw [if_neg (by omega)]; simp [h2]
  · rw [if_neg (by omega)]; simp [h1]
def upG (G : Nat → Nat → Nat → Int) (a k : Nat) : Nat → Nat → Nat → Int := fun b => if b = a then up1 (G a) k 0 else G b
theorem upG_st {D : PD} {G : Nat → Nat → Nat → Int} {a k : Nat} : ∀ b, b < D.n → subVk (updV (fun a => .live 0 55 2 (D.M a) (fun i j => .int .i64 (G a i j))) a (.live 0 55 2 (D.M a) (updF (fun i j => .int .i64 (G a i j)) k 0 1 [.int .i64 (-1)])) b) (.live 0 55 2 (D.M b) (fun i j => .int .i64 (upG G a k b i j))) := fun b _ => by
  by_cases e : b = a
  · subst e; rw [updV_same]; exact ⟨rfl, rfl, rfl, rfl, fun i j _ _ => by rw [up1_at]; simp [upG]⟩
  · rw [updV_ne e]; simp only [upG, if_neg e]; exact subVk_rfl _
theorem prF_bd {b L K n v : Nat} {A : Nat → Nat → Int} (h : b + n ≤ K) : bdV L K [.live v 46 5 n (prF b A)] := ⟨fun i j hi _ => by
  simp only [prF]; split
  · simp only [Bd, fI]; omega
  · trivial, trivial⟩
theorem subV_rfl' : ∀ l : List Vc, subV l l
  | [] => trivial
  | x :: l => ⟨subVk_rfl x, subV_rfl' l⟩
theorem subV_ap (l k : List Vc) (h : subV l k) : ∀ V0 : List Vc, subV (V0 ++ l) (V0 ++ k)
  | [] => h
  | x :: V0 => ⟨subVk_rfl x, subV_ap l k h V0⟩
theorem bdV_ap {L K : Nat} {l : List Vc} (h : bdV L K l) : ∀ V0 : List Vc, bdV L K V0 → bdV L K (V0 ++ l)
  | [], _ => h
  | .live _ _ _ _ _ :: V0, h0 => ⟨h0.1, bdV_ap h V0 h0.2⟩
  | .dead :: V0, h0 => bdV_ap (l := l) h V0 h0
theorem pre_bd {L Z n z : Nat} {f : Nat → Nat → SV} (hf : bdV L Z [.live z 46 5 n f]) (V0 : List Vc) (h0 : bdV L Z V0) : bdV L Z (V0 ++ [.dead, .dead, .dead, .dead, .dead, .live z 46 5 n f]) := bdV_ap (l := [.dead, .dead, .dead, .dead, .dead, .live z 46 5 n f]) hf V0 h0
theorem pre_sub {x y : Vc} (h : subVk x y) (V0 : List Vc) : subV (V0 ++ [.dead, .dead, .dead, .dead, .dead, x]) (V0 ++ [.dead, .dead, .dead, .dead, .dead, y]) := subV_ap [.dead, .dead, .dead, .dead, .dead, x] [.dead, .dead, .dead, .dead, .dead, y] ⟨subVk_rfl _, subVk_rfl _, subVk_rfl _, subVk_rfl _, subVk_rfl _, h, trivial⟩ V0
theorem pre_subF {z n : Nat} {f g : Nat → Nat → SV} (h : ∀ i j, i < n → j < 5 → f i j = g i j) (V0 : List Vc) : subV (V0 ++ [.dead, .dead, .dead, .dead, .dead, .live z 46 5 n f]) (V0 ++ [.dead, .dead, .dead, .dead, .dead, .live z 46 5 n g]) := pre_sub (x := .live z 46 5 n f) (y := .live z 46 5 n g) ⟨rfl, rfl, rfl, rfl, h⟩ V0
theorem bw_bd {D : PD} {g : Nat → Int} {L Z b k n v : Nat} (h : b + k ≤ Z) : bdV L Z [.live v 46 5 n (bwF D g b k)] := ⟨fun i j _ _ => bwF_bd _ _ _ h, trivial⟩
theorem calls_arg {P : Program} {g : Nat} {a a' : List SV} {h : HS} {K : Out → HS → Prop} (e : a' = a) (hc : CallsS P g a h K) : CallsS P g a' h K := by rw [e]; exact hc
theorem ow_bd {m : Nat} {B : Nat → Nat → Int} {K : Nat → Nat} {W : Nat → Nat → Nat → Int} {F : List Int} {v N : Nat} (L Z : Nat) (_ : True) (_ : True) (_ : True) (h : 3 + N ≤ Z) : bdV L Z [.live 0 29 1 1 (oneF [.row m 1 (nestF 0 1 B K W)]), .live 0 3 1 F.length (fun i _ => .int .i64 (gI F i)), .live v 23 1 N (pcG 3)] :=
  ⟨fun i j hi hj => by
    obtain rfl : j = 0 := by omega
    exact nestF_bd _ _ _ _ _ _ _ _ _, fun _ _ _ _ => trivial, fun a b ha hb => by simp only [pcG, Bd, fI]; omega, trivial⟩
theorem ow_bp {D : PD} {i z v : Nat} (L : Nat) {Z : Nat} (h : z < Z) : bdV L Z [.live v 23 1 (i + 1) (catF i (planF D.n (cAt D)) (oneF [.vec z 1])), .live 1 3 1 D.n (fun a _ => .int .i64 ((cAt D i).get a)), .live 0 23 1 1 (oneF [.vec z 1])] :=
  ⟨fun a b ha hb => by
    simp only [catF]
    split
    · exact planF_bd _ _ _ _ _ _
    · obtain rfl : b = 0 := by omega
      exact h, fun _ _ _ _ => trivial, fun a b ha hb => by
      obtain rfl : b = 0 := by omega
      exact h, trivial⟩
theorem nine_st {f : Nat → Int} {k a b : Nat} (hb : b < 1) : updF (fun a _ => .int .i64 (if a < k then 9 else f a)) k 0 1 [.int .i64 9] a b = .int .i64 (if a < k + 1 then 9 else f a) := by
  obtain rfl : b = 0 := by omega
  simp only [updF]
  by_cases h : a = k
  · subst h; rw [if_pos ⟨rfl, Nat.le_refl _, Nat.zero_lt_one⟩, if_pos (Nat.lt_succ_self _)]; rfl
  · have e : (a < k + 1) = (a < k) := by apply propext; omega
    rw [if_neg (by omega)]
    simp only [e]
/-- A slice of hours, of which the first ones are overwritten. -/
def nineV (n : Nat) (f : Nat → Int) : Vc := .live 1 3 1 n (fun a _ => .int .i64 (f a))
def pressOwnsBase : BaseF := fun args => match args with
  | [.agg [.row n sz_A f_A, .row h sz_nd f_nd, .row q sz_pr f_pr, .int .i64 st, .int .i64 ro, .int .i64 pk, .int .i64 fr], .row m sz_B f_B] => some ((sz_A = 5 ∧ NestR n 5 0 2 f_A) ∧ (sz_nd = 1 ∧ IntR h 1 f_nd) ∧ (sz_pr = 1 ∧ IntR q 1 f_pr) ∧ (sz_B = 1 ∧ NestR m 1 0 1 f_B), .bool true)
  | _ => none
theorem pressOwns_base : Base Try.prog 10 pressOwnsBase := by
  intro args p v hq hp
  unfold pressOwnsBase at hq
  split at hq
  rotate_left
  · cases hq
  rename_i n sz_A f_A h sz_nd f_nd q sz_pr f_pr st ro pk fr m sz_B f_B
  cases hq
  obtain ⟨⟨rfl, i_A⟩, ⟨rfl, i_nd⟩, ⟨rfl, i_pr⟩, ⟨rfl, i_B⟩⟩ := hp
  refine base_of (C := cx [14, 24] [(29, 3, flatBase)] [(11, greatBase), (12, slowBase), (13, aliveBase), (30, intsBase), (16, plansBase)] [(10, 22, q10_22)] none) (cx_ok ⟨flat_base, trivial⟩ ⟨great_base, slow_base, alive_base, ints_base, plans_base, trivial⟩) rfl (g := 10) (fn := Try.f10)
    (args' := [.agg [.row n 5 (nestF 0 2 (nsA f_A) (nsM 0 f_A) (nsV 0 f_A)), .row h 1 (rowF .i64 (ivf f_nd)), .row q 1 (rowF .i64 (ivf f_pr)), .int .i64 st, .int .i64 ro, .int .i64 pk, .int .i64 fr], .row m 1 (nestF 0 1 (nsA f_B) (nsM 0 f_B) (nsV 0 f_B))]) (fn_10) rfl 1000 (by
    simp only [BdL, Bd, and_self, and_true, true_and]
    exact ⟨⟨(fun i j hi hj => nest_bd i_A i j hi hj), (fun i j hi hj => by rw [i_nd i j hi hj]; trivial), (fun i j hi hj => by rw [i_pr i j hi hj]; trivial)⟩, (fun i j hi hj => nest_bd i_B i j hi hj)⟩) ⟨SameD.agg ⟨SameD.nest i_A, SameD.int i_nd, SameD.int i_pr, SameD.rfl' _, SameD.rfl' _, SameD.rfl' _, SameD.rfl' _, trivial⟩, SameD.nest i_B, trivial⟩ ?_
  generalize nsA f_A = A
  generalize nsM 0 f_A = M
  generalize nsV 0 f_A = V
  generalize ivf f_nd = nd
  generalize ivf f_pr = pr
  generalize nsA f_B = B
  generalize nsM 0 f_B = K
  generalize nsV 0 f_B = W
  simp only [rowF_eq]
  cases hg : (gr0 n M h q || gr1 m K) with
  | true => simp only [hg, slow_eq, alive_eq, ints_eq, plans_eq, flat_eq, q10_22, oneN_lit, oneM_lit, oneC_lit, great_one, great1_eq, nestF_eq, nestR_lit, nsM_lit, nsV_lit, Try.f10, go_sem, ↓reduceIte, Nat.reduceAdd, Nat.reduceSub, Nat.reduceMul, Nat.reduceEqDiff, Nat.reduceLT, Nat.reduceLeDiff, Int.reduceToNat, Int.reduceLE, Int.reduceLT, Int.reduceEq, Int.reduceNeg, reduceCtorEq]
  | false =>
  simp only [Bool.or_eq_false_iff] at hg
  obtain ⟨h1, h2, h3, h4⟩ := gr0_false hg.1
  obtain ⟨g1, g2⟩ := gr1_false hg.2
  have hg2 : (gr0 n M h q || gr1 m K) = false := by rw [hg.1, hg.2]; rfl
  cases hs : slowB n M h 20000 with
  | true =>
    simp only [hg2, hs, slow_eq, alive_eq, ints_eq, plans_eq, flat_eq, q10_22, oneN_lit, oneM_lit, oneC_lit, great_one, great1_eq, nestF_eq, nestR_lit, nsM_lit, nsV_lit, Try.f10, go_sem, ↓reduceIte, Nat.reduceAdd, Nat.reduceSub, Nat.reduceMul, Nat.reduceEqDiff, Nat.reduceLT, Nat.reduceLeDiff, Int.reduceToNat, Int.reduceLE, Int.reduceLT, Int.reduceEq, Int.reduceNeg, reduceCtorEq]
    exact ⟨h1, h2, by omega⟩
  | false =>
  simp only [hg2, hs, slow_eq, alive_eq, ints_eq, plans_eq, flat_eq, q10_22, oneN_lit, oneM_lit, oneC_lit, great_one, great1_eq, nestF_eq, nestR_lit, nsM_lit, nsV_lit, Try.f10, go_sem, ↓reduceIte, Nat.reduceAdd, Nat.reduceSub, Nat.reduceMul, Nat.reduceEqDiff, Nat.reduceLT, Nat.reduceLeDiff, Int.reduceToNat, Int.reduceLE, Int.reduceLT, Int.reduceEq, Int.reduceNeg, reduceCtorEq]
  have pp : (n ≤ 1000000 ∧ ∀ i, i < n → M i ≤ 1000000) ∧ h ≤ 1000000 ∧ q ≤ 1000000 := ⟨⟨by omega, fun i hi => by have := h2 i hi; omega⟩, by omega, by omega⟩
  refine ⟨⟨h1, h2, by omega⟩, ⟨h1, h2, h3, h4, g1, g2⟩, ?_⟩
  generalize hF : flL n (nsA (nestF 0 2 A M V)) M V h nd q pr m K W = F
  obtain ⟨b, hb⟩ : ∃ b, psB n A M V h nd q pr st ro pk fr = b := ⟨_, rfl⟩
  obtain ⟨D, hD⟩ : ∃ D : PD, D = ⟨n, A, M, V, h, nd, pr, st, ro, pk, fr⟩ := ⟨_, rfl⟩
  unfold callS
  by_cases hE : chE b D = 0
  case' neg =>
    have hN : chN b D = 0 := by rw [chN, if_neg hE]
    refine calls_mono ?_ (cheap_any n A M V h nd q pr st ro pk fr pp hb _)
    rintro o h' ⟨rfl, rfl⟩
    rw [← hD]
    simp only [hN, slow_eq, alive_eq, ints_eq, plans_eq, flat_eq, q10_22, oneN_lit, oneM_lit, oneC_lit, great_one, great1_eq, nestF_eq, nestR_lit, nsM_lit, nsV_lit, Try.f10, go_sem, ↓reduceIte, Nat.reduceAdd, Nat.reduceSub, Nat.reduceMul, Nat.reduceEqDiff, Nat.reduceLT, Nat.reduceLeDiff, Int.reduceToNat, Int.reduceLE, Int.reduceLT, Int.reduceEq, Int.reduceNeg, reduceCtorEq]
    refine loop_ofH Unit (fun _ => [(42, .int .i64 ((0 : Nat) : Int)), (41, .int .i64 ((0 : Nat) : Int)), (40, .row 0 1 (planF n (cAt D))), (10, .vec 2 0), (9, .int .i64 (chE b D)), (8, .int .i64 (chC b D)), (6, .vec 1 0), (5, .func 29 [.ptr 0 0, .ptr 1 0]), (3, .ptr 1 0), (2, .ptr 0 0)]) (fun h0 _ => ⟨h0.blks, [.live 0 29 1 1 (oneF [.row m 1 (nestF 0 1 B K W)]), .live 0 3 1 F.length (fun i _ => .int .i64 (gI F i)), .live 0 23 1 0 (planF n (cAt D))]⟩) (fun _ => 0) (fun _ => ⟨rfl, rfl⟩) () (by
      apply sub_of <;> simp only [go_sem, ↓reduceIte, Nat.reduceAdd, Nat.reduceSub, Nat.reduceMul, Nat.reduceEqDiff, Nat.reduceLT, Nat.reduceLeDiff, Int.reduceToNat, Int.reduceLE, Int.reduceLT, Int.reduceEq, Int.reduceNeg, reduceCtorEq] <;> (try simp)
      · exact ⟨fun i j _ _ => nestF_bd1 _ _ _ _ _ _ _ i j, fun i _ => nestF_bd1 _ _ _ _ _ _ _ i 0⟩
      · exact nestF_bd _ _ _ _ _ _ _ _ _) ?_
    intro _
    have z1 : decide (((0 : Nat) : Int) < ((0 : Nat) : Int)) = false := rfl
    simp only [z1, slow_eq, alive_eq, ints_eq, plans_eq, flat_eq, q10_22, oneN_lit, oneM_lit, oneC_lit, great_one, great1_eq, nestF_eq, nestR_lit, nsM_lit, nsV_lit, Try.f10, go_sem, ↓reduceIte, Nat.reduceAdd, Nat.reduceSub, Nat.reduceMul, Nat.reduceEqDiff, Nat.reduceLT, Nat.reduceLeDiff, Int.reduceToNat, Int.reduceLE, Int.reduceLT, Int.reduceEq, Int.reduceNeg, reduceCtorEq]
    obtain ⟨V0, hV0⟩ : ∃ V0 : List Vc, V0 = [.live 0 29 1 1 (oneF [.row m 1 (nestF 0 1 B K W)]), .live 0 3 1 F.length (fun i _ => .int .i64 (gI F i)), .live 0 23 1 0 (planF n (cAt D))] := ⟨_, rfl⟩
    have f0 : 3 ≤ lenV V0 := by rw [hV0]; simp [lenV]
    have f1 : getV V0 1 = .live 0 3 1 F.length (fun i _ => .int .i64 (gI F i)) := by rw [hV0]; rfl
    have f2 : getV V0 2 = .live 0 23 1 (chN b D) (planF n (cAt D)) ∧ 2 < lenV V0 := by rw [hV0, hN]; exact ⟨rfl, by simp [lenV]⟩
    have f3 : ∀ L Z, lenV V0 ≤ Z → bdV L Z V0 := by
      intro L Z _
      rw [hV0]
      exact ⟨fun i j hi hj => by
        obtain rfl : j = 0 := by omega
        exact nestF_bd _ _ _ _ _ _ _ _ _, fun _ _ _ _ => trivial, fun _ _ _ _ => planF_bd _ _ _ _ _ _, trivial⟩
    rw [← hV0, show V0 = fam V0 0 (fun _ => .dead) [] by rw [fam_zero, List.append_nil]]
    clear hV0
    obtain ⟨X10, h10⟩ : ∃ X : SV, X = .vec 2 0 := ⟨_, rfl⟩
    rw [← h10]
    obtain ⟨ci, hci⟩ : ∃ ci : Nat, ci = 2 := ⟨_, rfl⟩
    rw [← hci] at f2 h10
    clear hci
  case' pos =>
    obtain ⟨hbt, hq, hN, hC⟩ := chE_0 hE
    obtain ⟨hqh, hOk⟩ := psB_iff.1 (hb.trans hbt)
    rw [← hD] at hOk
    have key := fun b0 b1 v0 v1 => cheap_two hOk hq b0 b1 v0 v1
    rw [← hC, ← hE] at key
    refine calls_mono ?_ (calls_arg (a := [.agg (prC D)]) (by subst hqh; rw [hD]; rfl) (key _ _ _ _))
    rintro o h' ⟨v, rfl, rfl⟩
    have hn := hOk.n
    have hh := hOk.h
    simp only [getV_fL, setV_fL, getV_fI, setV_fI, getV_fP, setV_fP, snocV_fam', fam_lenV, updV_same, updV_upd, slow_eq, alive_eq, ints_eq, plans_eq, flat_eq, q10_22, oneN_lit, oneM_lit, oneC_lit, great_one, great1_eq, nestF_eq, nestR_lit, nsM_lit, nsV_lit, Try.f10, go_sem, ↓reduceIte, Nat.reduceAdd, Nat.reduceSub, Nat.reduceMul, Nat.reduceEqDiff, Nat.reduceLT, Nat.reduceLeDiff, Int.reduceToNat, Int.reduceLE, Int.reduceLT, Int.reduceEq, Int.reduceNeg, reduceCtorEq]
    refine loop_ofH { x : Nat // x ≤ D.h } (fun x => [(42, .int .i64 (x.1 : Int)), (41, .int .i64 (D.h : Int)), (40, .vec 2 v), (10, .vec (fP 3 D.h 0) x.1), (9, .int .i64 (chE b D)), (8, .int .i64 (chC b D)), (6, .vec 1 0), (5, .func 29 [.ptr 0 0, .ptr 1 0]), (3, .ptr 1 0), (2, .ptr 0 0)])
      (fun h0 x => ⟨h0.blks, fam [.live 0 29 1 1 (oneF [.row m 1 (nestF 0 1 B K W)]), .live 0 3 1 F.length (fun i _ => .int .i64 (gI F i)), .live v 23 1 D.h (pcG 3)] D.h (fun j => nineV D.n (fun a => if j < x.1 then 9 else (cAt D j).get a)) [.live x.1 23 1 x.1 (planF D.n (cAt D))]⟩) (fun x => D.h - x.1) (fun _ => ⟨rfl, by simp only [fam_lenV]; rfl⟩) ⟨0, Nat.zero_le _⟩ ?_ ?_
    · simp only [Nat.not_lt_zero, if_false]
      apply sub_of <;> simp only [getV_fL, setV_fL, getV_fI, setV_fI, getV_fP, setV_fP, snocV_fam', fam_lenV, updV_same, updV_upd, go_sem, ↓reduceIte, Nat.reduceAdd, Nat.reduceSub, Nat.reduceMul, Nat.reduceEqDiff, Nat.reduceLT, Nat.reduceLeDiff, Int.reduceToNat, Int.reduceLE, Int.reduceLT, Int.reduceEq, Int.reduceNeg, reduceCtorEq]
      · rfl
      · ((repeat' refine And.intro ?_ ?_) <;> first | exact fun _ _ _ _ => trivial | exact fun i j _ _ => nestF_bd1 _ _ _ _ _ _ _ i j)
      · exact subV_famI rfl ⟨subVk_rfl _, subVk_rfl _, subVk_rfl _, trivial⟩ (fun _ _ => subVk_rfl _) ⟨⟨rfl, rfl, rfl, rfl, fun _ _ hi => absurd hi (Nat.not_lt_zero _)⟩, trivial⟩
      · simp only [fP]; omega
      · ((repeat' refine And.intro ?_ ?_) <;> first | exact fun _ _ _ _ => trivial | exact fun i j _ _ => nestF_bd1 _ _ _ _ _ _ _ i j)
      · exact bdV_famI (ow_bd _ _ trivial trivial trivial (by simp only [fP]; omega)) (fun _ _ => ⟨fun _ _ _ _ => trivial, trivial⟩) ⟨fun _ _ _ _ => planF_bd _ _ _ _ _ _, trivial⟩
    rintro ⟨i, hi⟩
    by_cases ik : i < D.h
    · have e1 : decide ((i : Int) < (D.h : Int)) = true := decide_eq_true (by omega)
      have hi0 : (0 : Int) ≤ (i : Int) := by omega
      have hiN : (i : Int) < (D.h : Int) := by omega
      simp only [e1, ik, hi0, hiN, pcG, nineV, Nat.lt_irrefl, if_false, catF_nil, Int.toNat_natCast, getV_fL, setV_fL, getV_fI, setV_fI, getV_fP, setV_fP, snocV_fam', fam_lenV, updV_same, updV_upd, slow_eq, alive_eq, ints_eq, plans_eq, flat_eq, q10_22, oneN_lit, oneM_lit, oneC_lit, great_one, great1_eq, nestF_eq, nestR_lit, nsM_lit, nsV_lit, Try.f10, go_sem, ↓reduceIte, Nat.reduceAdd, Nat.reduceSub, Nat.reduceMul, Nat.reduceEqDiff, Nat.reduceLT, Nat.reduceLeDiff, Int.reduceToNat, Int.reduceLE, Int.reduceLT, Int.reduceEq, Int.reduceNeg, reduceCtorEq]
      refine ⟨⟨by omega, by omega⟩, ⟨by omega, by omega⟩, ?_⟩
      refine loop_ofH { k : Nat // k ≤ D.n } (fun k => [(54, .int .i64 (k.1 : Int)), (53, .int .i64 (D.n : Int)), (52, .vec (fI 3 i) 1), (12, .vec (fI 3 i) 1), (10, .vec (fP 3 D.h 0) (i + 1)), (42, .int .i64 (i : Int)), (41, .int .i64 (D.h : Int)), (40, .vec 2 v), (9, .int .i64 (chE b D)), (8, .int .i64 (chC b D)), (6, .vec 1 0), (5, .func 29 [.ptr 0 0, .ptr 1 0]), (3, .ptr 1 0), (2, .ptr 0 0)])
        (fun h0 k => ⟨h0.blks, setV h0.vecs (fI 3 i) (nineV D.n (fun a => if a < k.1 then 9 else (cAt D i).get a))⟩) (fun k => D.n - k.1) (fun _ => ⟨rfl, by simp only [lenV_set]⟩) ⟨0, Nat.zero_le _⟩ ?_ ?_
      · apply sub_of <;> simp only [ik, Nat.lt_irrefl, Nat.not_lt_zero, if_false, nineV, getV_fL, setV_fL, getV_fI, setV_fI, getV_fP, setV_fP, snocV_fam', fam_lenV, updV_same, updV_upd, go_sem, ↓reduceIte, Nat.reduceAdd, Nat.reduceSub, Nat.reduceMul, Nat.reduceEqDiff, Nat.reduceLT, Nat.reduceLeDiff, Int.reduceToNat, Int.reduceLE, Int.reduceLT, Int.reduceEq, Int.reduceNeg, reduceCtorEq]
        · rfl
        · ((repeat' refine And.intro ?_ ?_) <;> first | exact fun _ _ _ _ => trivial | exact fun i j _ _ => nestF_bd1 _ _ _ _ _ _ _ i j)
        · exact subV_famI rfl ⟨subVk_rfl _, subVk_rfl _, subVk_rfl _, trivial⟩ (fun j _ => by
            by_cases e : j = i
            · subst e; rw [updV_same]; simp only [Nat.lt_irrefl, if_false]; exact subVk_rfl _
            · rw [updV_ne e]; exact subVk_rfl _) ⟨subVk_rfl _, subVk_rfl _, subVk_rfl _, trivial⟩
        · simp only [fI, fP]; omega
        · ((repeat' refine And.intro ?_ ?_) <;> first | exact fun _ _ _ _ => trivial | exact fun i j _ _ => nestF_bd1 _ _ _ _ _ _ _ i j)
        · exact bdV_famI (ow_bd _ _ trivial trivial trivial (by simp only [fP]; omega)) (fun j _ => by simp only [updV]; split <;> exact ⟨fun _ _ _ _ => trivial, trivial⟩) (ow_bp _ (by simp only [fP]; omega))
      rintro ⟨k, hk⟩
      by_cases kk : k < D.n
      · have e2 : decide ((k : Int) < (D.n : Int)) = true := decide_eq_true (by omega)
        have hk0 : (0 : Int) ≤ (k : Int) := by omega
        have hkN : (k : Int) < (D.n : Int) := by omega
        simp only [e2, ik, hk0, hkN, nineV, Int.toNat_natCast, getV_fL, setV_fL, getV_fI, setV_fI, getV_fP, setV_fP, snocV_fam', fam_lenV, updV_same, updV_upd, slow_eq, alive_eq, ints_eq, plans_eq, flat_eq, q10_22, oneN_lit, oneM_lit, oneC_lit, great_one, great1_eq, nestF_eq, nestR_lit, nsM_lit, nsV_lit, Try.f10, go_sem, ↓reduceIte, Nat.reduceAdd, Nat.reduceSub, Nat.reduceMul, Nat.reduceEqDiff, Nat.reduceLT, Nat.reduceLeDiff, Int.reduceToNat, Int.reduceLE, Int.reduceLT, Int.reduceEq, Int.reduceNeg, reduceCtorEq]
        refine ⟨kk, ⟨k + 1, by omega⟩, by simp only []; omega, ?_⟩
        apply sub_of <;> simp only [wrap_s kk (show D.n ≤ 1000000 by omega), getV_fL, setV_fL, getV_fI, setV_fI, getV_fP, setV_fP, snocV_fam', fam_lenV, updV_same, updV_upd, go_sem, ↓reduceIte, Nat.reduceAdd, Nat.reduceSub, Nat.reduceMul, Nat.reduceEqDiff, Nat.reduceLT, Nat.reduceLeDiff, Int.reduceToNat, Int.reduceLE, Int.reduceLT, Int.reduceEq, Int.reduceNeg, reduceCtorEq]
        · ((repeat' refine And.intro ?_ ?_) <;> first | exact fun _ _ _ _ => trivial | exact fun i j _ _ => nestF_bd1 _ _ _ _ _ _ _ i j)
        · exact subV_famI rfl ⟨subVk_rfl _, subVk_rfl _, subVk_rfl _, trivial⟩ (fun j _ => by
            by_cases e : j = i
            · subst e; rw [updV_same, updV_same]; exact ⟨rfl, rfl, rfl, rfl, fun _ _ _ hb => nine_st hb⟩
            · rw [updV_ne e, updV_ne e]; exact subVk_rfl _) ⟨subVk_rfl _, subVk_rfl _, subVk_rfl _, trivial⟩
        · simp only [fI, fP]; omega
        · ((repeat' refine And.intro ?_ ?_) <;> first | exact fun _ _ _ _ => trivial | exact fun i j _ _ => nestF_bd1 _ _ _ _ _ _ _ i j)
        · exact bdV_famI (ow_bd _ _ trivial trivial trivial (by simp only [fP]; omega)) (fun j _ => by simp only [updV]; split <;> exact ⟨fun _ _ _ _ => trivial, trivial⟩) (ow_bp _ (by simp only [fP]; omega))
      · obtain rfl : k = D.n := by omega
        have e2 : decide ((D.n : Int) < (D.n : Int)) = false := decide_eq_false (by omega)
        simp only [e2, ik, nineV, Int.toNat_natCast, getV_fL, setV_fL, getV_fI, setV_fI, getV_fP, setV_fP, snocV_fam', fam_lenV, updV_same, updV_upd, slow_eq, alive_eq, ints_eq, plans_eq, flat_eq, q10_22, oneN_lit, oneM_lit, oneC_lit, great_one, great1_eq, nestF_eq, nestR_lit, nsM_lit, nsV_lit, Try.f10, go_sem, ↓reduceIte, Nat.reduceAdd, Nat.reduceSub, Nat.reduceMul, Nat.reduceEqDiff, Nat.reduceLT, Nat.reduceLeDiff, Int.reduceToNat, Int.reduceLE, Int.reduceLT, Int.reduceEq, Int.reduceNeg, reduceCtorEq]
        refine ⟨⟨i + 1, by omega⟩, by simp only []; omega, ?_⟩
        refine sub_fz (fP 3 D.h 1) (fP 3 D.h 0) (planF D.n (cAt D)) ((getV_fP rfl).trans rfl) ((getV_fP rfl).trans rfl) (by simp only [fP]; omega) ?_ ?_
        · intro a c ha hc
          obtain rfl : c = 0 := by omega
          rcases Nat.lt_or_ge a i with h1 | h1
          · left; simp only [catF, if_pos h1]
          · obtain rfl : a = i := by omega
            right
            exact ⟨by simp only [catF, if_neg (Nat.lt_irrefl _), Nat.sub_self]; rfl, by simp only [planF, nestF, if_true, plV]⟩
        apply sub_of <;> simp only [wrap_s ik (show D.h ≤ 1000000 by omega), getV_fL, setV_fL, getV_fI, setV_fI, getV_fP, setV_fP, snocV_fam', fam_lenV, updV_same, updV_upd, go_sem, ↓reduceIte, Nat.reduceAdd, Nat.reduceSub, Nat.reduceMul, Nat.reduceEqDiff, Nat.reduceLT, Nat.reduceLeDiff, Int.reduceToNat, Int.reduceLE, Int.reduceLT, Int.reduceEq, Int.reduceNeg, reduceCtorEq]
        · ((repeat' refine And.intro ?_ ?_) <;> first | exact fun _ _ _ _ => trivial | exact fun i j _ _ => nestF_bd1 _ _ _ _ _ _ _ i j)
        · refine subV_famI rfl ⟨subVk_rfl _, subVk_rfl _, subVk_rfl _, trivial⟩ (fun j _ => ?_) ⟨subVk_rfl _, trivial⟩
          by_cases e : j = i
          · subst e; rw [updV_same]; exact ⟨rfl, rfl, rfl, rfl, fun a _ ha _ => by simp only [ha, Nat.lt_succ_self, if_true]⟩
          · have e2 : (j < i + 1) = (j < i) := by apply propext; omega
            rw [updV_ne e]; simp only [e2]; exact subVk_rfl _
        · simp only [fP]; omega
        · ((repeat' refine And.intro ?_ ?_) <;> first | exact fun _ _ _ _ => trivial | exact fun i j _ _ => nestF_bd1 _ _ _ _ _ _ _ i j)
        · exact bdV_famI (ow_bd _ _ trivial trivial trivial (by simp only [fP]; omega)) (fun j _ => ⟨fun _ _ _ _ => trivial, trivial⟩) ⟨fun _ _ _ _ => planF_bd _ _ _ _ _ _, trivial⟩
    obtain rfl : i = D.h := by omega
    have e1 : decide ((D.h : Int) < (D.h : Int)) = false := decide_eq_false (by omega)
    simp only [e1, getV_fL, setV_fL, getV_fI, setV_fI, getV_fP, setV_fP, snocV_fam', fam_lenV, updV_same, updV_upd, slow_eq, alive_eq, ints_eq, plans_eq, flat_eq, q10_22, oneN_lit, oneM_lit, oneC_lit, great_one, great1_eq, nestF_eq, nestR_lit, nsM_lit, nsV_lit, Try.f10, go_sem, ↓reduceIte, Nat.reduceAdd, Nat.reduceSub, Nat.reduceMul, Nat.reduceEqDiff, Nat.reduceLT, Nat.reduceLeDiff, Int.reduceToNat, Int.reduceLE, Int.reduceLT, Int.reduceEq, Int.reduceNeg, reduceCtorEq]
    obtain ⟨V0, hV0⟩ : ∃ V0 : List Vc, V0 = fam [.live 0 29 1 1 (oneF [.row m 1 (nestF 0 1 B K W)]), .live 0 3 1 F.length (fun i _ => .int .i64 (gI F i)), .live v 23 1 D.h (pcG 3)] D.h (fun j => nineV D.n fun a => if j < D.h then 9 else (cAt D j).get a) [.live D.h 23 1 D.h (planF D.n (cAt D))] := ⟨_, rfl⟩
    have hnD : D.n = n := by rw [hD]
    have f0 : 3 ≤ lenV V0 := by rw [hV0]; simp only [fam_lenV, fP, lenV]; omega
    have f1 : getV V0 1 = .live 0 3 1 F.length (fun i _ => .int .i64 (gI F i)) := by rw [hV0, getV_fL (by simp [lenV])]; rfl
    have f2 : getV V0 (fP 3 D.h 0) = .live D.h 23 1 (chN b D) (planF n (cAt D)) ∧ fP 3 D.h 0 < lenV V0 := by rw [hV0, getV_fP (b := 3) rfl, hnD, hN]; exact ⟨rfl, by simp only [fam_lenV, fP, lenV]; omega⟩
    have f3 : ∀ L Z, lenV V0 ≤ Z → bdV L Z V0 := by
      intro L Z hZ
      rw [hV0] at hZ ⊢
      exact bdV_famI (ow_bd _ _ trivial trivial trivial (by simp only [fam_lenV, fP, lenV] at hZ; omega)) (fun j _ => ⟨fun _ _ _ _ => trivial, trivial⟩) ⟨fun _ _ _ _ => planF_bd _ _ _ _ _ _, trivial⟩
    rw [← hV0, show V0 = fam V0 0 (fun _ => .dead) [] by rw [fam_zero, List.append_nil]]
    clear hV0
    obtain ⟨X10, h10⟩ : ∃ X : SV, X = .vec (fP 3 D.h 0) D.h := ⟨_, rfl⟩
    rw [← h10]
    generalize fP 3 D.h 0 = ci at f2 h10 ⊢
  all_goals
    obtain ⟨f2, f4⟩ := f2
    have f5 : 1 < lenV V0 := by omega
    have g3 : decide (chC b D = chC b D) = true := decide_eq_true rfl
    have g4 : decide (chE b D = chE b D) = true := decide_eq_true rfl
    have mm : m ≤ 1000000 ∧ ∀ i, i < m → K i ≤ 1000000 := ⟨by omega, fun i hi => by have := g2 i hi; omega⟩
    unfold callS
    by_cases hB : bhE D b m K W = 0
    case' neg =>
      refine calls_mono ?_ (behind_any n A M V h nd q pr st ro pk fr m B K W ⟨pp, mm⟩ hb (by rw [← hD]; exact hB) _)
      rintro o h' ⟨e', X, he', rfl, rfl⟩
      have d1 : decide (e' = 0) = false := decide_eq_false he'
      simp only [d1, prC, f4, f5, getV_fL, setV_fL, getV_fI, setV_fI, getV_fP, setV_fP, snocV_fam', fam_lenV, updV_same, updV_upd, slow_eq, alive_eq, ints_eq, plans_eq, flat_eq, q10_22, oneN_lit, oneM_lit, oneC_lit, great_one, great1_eq, nestF_eq, nestR_lit, nsM_lit, nsV_lit, Try.f10, go_sem, ↓reduceIte, Nat.reduceAdd, Nat.reduceSub, Nat.reduceMul, Nat.reduceEqDiff, Nat.reduceLT, Nat.reduceLeDiff, Int.reduceToNat, Int.reduceLE, Int.reduceLT, Int.reduceEq, Int.reduceNeg, reduceCtorEq]
      unfold callS
      refine calls_mono ?_ (cheap_any n A M V h nd q pr st ro pk fr pp hb _)
      rintro o h' ⟨rfl, rfl⟩
      rw [← hD]
      simp only [hF, h10, f1, f2, f4, f5, g3, g4, planF, frz_pl, eqB_refl, allU_tt, getV_fL, setV_fL, getV_fI, setV_fI, getV_fP, setV_fP, snocV_fam', fam_lenV, updV_same, updV_upd, alive_eq, ints_eq, plans_eq, flat_eq, q10_22, nestR_lit, nsM_lit, nsV_lit, Try.f10, go_sem, ↓reduceIte, Nat.reduceAdd, Nat.reduceSub, Nat.reduceMul, Nat.reduceEqDiff, Nat.reduceLT, Nat.reduceLeDiff, Int.reduceToNat, Int.reduceLE, Int.reduceLT, Int.reduceEq, Int.reduceNeg, reduceCtorEq]
    case' pos =>
      have hbt2 : b = true := by
        cases b with
        | false => simp [bhE] at hB
        | true => rfl
      obtain ⟨hqh2, hOk2⟩ := psB_iff.1 (hb.trans hbt2)
      rw [← hD] at hOk2
      rw [hbt2] at hB
      simp only [fam_zero, List.append_nil]
      refine calls_mono ?_ (calls_arg (a := [.agg (prC D), .row m 1 (nestF 0 1 B K W)]) (by subst hqh2; rw [hD]; rfl) (behind_at hOk2 mm.1 mm.2 hB _ _))
      rintro o h' ⟨s, x, y, z, hX, rfl, rfl⟩
      have hl6 : ∀ a b c d e f, lenV (V0 ++ [a, b, c, d, e, f]) = lenV V0 + 6 := fun a b c d e f => by rw [lenV_ap]; rfl
      simp only [bhO, neV, prV, hl6, getV_apR, setV_apR, getV_fL, setV_fL, getV_fI, setV_fI, getV_fP, setV_fP, snocV_fam', fam_lenV, updV_same, updV_upd, slow_eq, alive_eq, ints_eq, plans_eq, flat_eq, q10_22, oneN_lit, oneM_lit, oneC_lit, great_one, great1_eq, nestF_eq, nestR_lit, nsM_lit, nsV_lit, Try.f10, go_sem, ↓reduceIte, Nat.reduceAdd, Nat.reduceSub, Nat.reduceMul, Nat.reduceEqDiff, Nat.reduceLT, Nat.reduceLeDiff, Int.reduceToNat, Int.reduceLE, Int.reduceLT, Int.reduceEq, Int.reduceNeg, reduceCtorEq]
      have q5 : (lenV V0 + 5 < lenV V0 + 6) = True := eq_true (by omega)
      have fX : ∀ L K, lenV V0 ≤ K → Bd L K X10 := fun L K hk => by rw [h10]; exact Nat.lt_of_lt_of_le f4 hk
      have sX : subX X10 X10 := by rw [h10]; simp [subX]
      have hn2 := hOk2.n
      have hh2 := hOk2.h
      refine loop_ofH { w : Nat × (Nat → Nat → Int) × (Nat → Nat → Int) // w.1 ≤ D.h - m } (fun w => [(73, .int .i64 (w.1.1 : Int)), (72, .int .i64 ((D.h - m : Nat) : Int)), (14, .ptr 2 0), (10, X10), (9, .int .i64 (chE b D)), (8, .int .i64 (chC b D)), (6, .vec 1 0), (5, .func 29 [.ptr 0 0, .ptr 1 0]), (3, .ptr 1 0), (2, .ptr 0 0)])
        (fun h0 w => ⟨h0.blks, fam (V0 ++ [.dead, .dead, .dead, .dead, .dead, .live z 46 5 D.n (bwF D s.on.get (lenV V0 + 6) D.n)]) D.n (lvV D) [.live x 3 1 (D.h - m) (fun i j => .int .i64 (w.1.2.1 i j)), .live y 3 1 (D.h - m) (fun i j => .int .i64 (w.1.2.2 i j)), .live 0 46 5 0 (fun _ _ => .any), .live 0 3 1 0 (fun _ _ => .any), .live 0 3 1 0 (fun _ _ => .any)]⟩) (fun w => D.h - m - w.1.1) (fun _ => ⟨rfl, by simp only [fam_lenV] <;> rfl⟩) ⟨(0, fun i j => D.nd (m + i) j, fun i j => D.pr (m + i) j), Nat.zero_le _⟩ ?_ ?_
      case' refine_1 =>
        apply sub_of <;> simp only [hl6, getV_fL, setV_fL, getV_fI, setV_fI, getV_fP, setV_fP, snocV_fam', fam_lenV, updV_same, updV_upd, go_sem, ↓reduceIte, Nat.reduceAdd, Nat.reduceSub, Nat.reduceMul, Nat.reduceEqDiff, Nat.reduceLT, Nat.reduceLeDiff, Int.reduceToNat, Int.reduceLE, Int.reduceLT, Int.reduceEq, Int.reduceNeg, reduceCtorEq]
        all_goals first
          | exact ⟨rfl, sX⟩
          | exact sX
          | rfl
          | ((repeat' refine And.intro ?_ ?_) <;> first | exact fun _ _ _ _ => trivial | exact fun i j _ _ => nestF_bd1 _ _ _ _ _ _ _ i j | exact fX _ _ (by simp only [fP]; omega) | (simp only [fI, fP]; omega))
          | exact subV_famI rfl (subV_rfl' _) (fun _ _ => subVk_rfl _) (subV_rfl' _)
          | exact bdV_famI (pre_bd (bw_bd (by simp only [fP]; omega)) V0 (f3 _ _ (by simp only [fP]; omega))) (fun _ _ => lvV_bd) ⟨fun _ _ _ _ => trivial, fun _ _ _ _ => trivial, fun _ _ _ _ => trivial, fun _ _ _ _ => trivial, fun _ _ _ _ => trivial, trivial⟩
          | exact bdV_famI (pre_bd (prF_bd (by simp only [fP]; omega)) V0 (f3 _ _ (by simp only [fP]; omega))) (fun _ _ => ⟨fun _ _ _ _ => trivial, trivial⟩) ⟨fun _ _ _ _ => trivial, fun _ _ _ _ => trivial, fun _ _ _ _ => trivial, fun _ _ _ _ => trivial, fun _ _ _ _ => trivial, trivial⟩
          | trace_state
      case' refine_2 =>
        rintro ⟨⟨j, fa, fb⟩, hj⟩
        simp only at hj ⊢
        by_cases jk : j < D.h - m
        · have e2 : decide ((j : Int) < ((D.h - m : Nat) : Int)) = true := decide_eq_true (by omega)
          have hj0 : (0 : Int) ≤ (j : Int) := by omega
          have hjN : (j : Int) < ((D.h - m : Nat) : Int) := by omega
          simp only [e2, hj0, hjN, jk, hl6, q5, Int.toNat_natCast, getV_fL, setV_fL, getV_fI, setV_fI, getV_fP, setV_fP, snocV_fam', fam_lenV, updV_same, updV_upd, slow_eq, alive_eq, ints_eq, plans_eq, flat_eq, q10_22, oneN_lit, oneM_lit, oneC_lit, great_one, great1_eq, nestF_eq, nestR_lit, nsM_lit, nsV_lit, Try.f10, go_sem, ↓reduceIte, Nat.reduceAdd, Nat.reduceSub, Nat.reduceMul, Nat.reduceEqDiff, Nat.reduceLT, Nat.reduceLeDiff, Int.reduceToNat, Int.reduceLE, Int.reduceLT, Int.reduceEq, Int.reduceNeg, reduceCtorEq]
          refine ⟨⟨by kernel_rfl, by kernel_rfl⟩, ⟨(j + 1, up1 fa j 0, up1 fb j 0), by simp only []; omega⟩, by simp only []; omega, ?_⟩
          apply sub_of <;> simp only [wrap_s jk (show D.h - m ≤ 1000000 by omega), hl6, getV_fL, setV_fL, getV_fI, setV_fI, getV_fP, setV_fP, snocV_fam', fam_lenV, updV_same, updV_upd, go_sem, ↓reduceIte, Nat.reduceAdd, Nat.reduceSub, Nat.reduceMul, Nat.reduceEqDiff, Nat.reduceLT, Nat.reduceLeDiff, Int.reduceToNat, Int.reduceLE, Int.reduceLT, Int.reduceEq, Int.reduceNeg, reduceCtorEq]
          all_goals first
            | exact ⟨rfl, sX⟩
            | exact sX
            | rfl
            | exact subV_famI rfl (subV_rfl' _) (fun _ _ => subVk_rfl _) ⟨⟨rfl, rfl, rfl, rfl, fun i' j' _ _ => up1_at _ _ _ _ _⟩, ⟨rfl, rfl, rfl, rfl, fun i' j' _ _ => up1_at _ _ _ _ _⟩, subVk_rfl _, subVk_rfl _, subVk_rfl _, trivial⟩
            | ((repeat' refine And.intro ?_ ?_) <;> first | exact fun _ _ _ _ => trivial | exact fun i j _ _ => nestF_bd1 _ _ _ _ _ _ _ i j | exact fX _ _ (by simp only [fP]; omega) | (simp only [fI, fP]; omega))
            | exact subV_famI rfl (subV_rfl' _) (fun _ _ => subVk_rfl _) (subV_rfl' _)
            | exact bdV_famI (pre_bd (bw_bd (by simp only [fP]; omega)) V0 (f3 _ _ (by simp only [fP]; omega))) (fun _ _ => lvV_bd) ⟨fun _ _ _ _ => trivial, fun _ _ _ _ => trivial, fun _ _ _ _ => trivial, fun _ _ _ _ => trivial, fun _ _ _ _ => trivial, trivial⟩
            | exact bdV_famI (pre_bd (prF_bd (by simp only [fP]; omega)) V0 (f3 _ _ (by simp only [fP]; omega))) (fun _ _ => ⟨fun _ _ _ _ => trivial, trivial⟩) ⟨fun _ _ _ _ => trivial, fun _ _ _ _ => trivial, fun _ _ _ _ => trivial, fun _ _ _ _ => trivial, fun _ _ _ _ => trivial, trivial⟩
            | trace_state
        have e2 : decide ((j : Int) < ((D.h - m : Nat) : Int)) = false := decide_eq_false (by omega)
        simp only [e2, hl6, q5, getV_apR, Int.toNat_natCast, getV_fL, setV_fL, getV_fI, setV_fI, getV_fP, setV_fP, snocV_fam', fam_lenV, updV_same, updV_upd, slow_eq, alive_eq, ints_eq, plans_eq, flat_eq, q10_22, oneN_lit, oneM_lit, oneC_lit, great_one, great1_eq, nestF_eq, nestR_lit, nsM_lit, nsV_lit, Try.f10, go_sem, ↓reduceIte, Nat.reduceAdd, Nat.reduceSub, Nat.reduceMul, Nat.reduceEqDiff, Nat.reduceLT, Nat.reduceLeDiff, Int.reduceToNat, Int.reduceLE, Int.reduceLT, Int.reduceEq, Int.reduceNeg, reduceCtorEq]
        refine loop_ofH { w : Nat × (Nat → Nat → Int) × (Nat → Nat → Nat → Int) // w.1 ≤ D.n } (fun w => [(88, .int .i64 (w.1.1 : Int)), (87, .int .i64 (D.n : Int)), (14, .ptr 2 0), (10, X10), (9, .int .i64 (chE b D)), (8, .int .i64 (chC b D)), (6, .vec 1 0), (5, .func 29 [.ptr 0 0, .ptr 1 0]), (3, .ptr 1 0), (2, .ptr 0 0)])
          (fun h0 w => ⟨h0.blks, fam (V0 ++ [.dead, .dead, .dead, .dead, .dead, .live z 46 5 D.n (prF (lenV V0 + 6) w.1.2.1)]) D.n (fun a => .live 0 55 2 (D.M a) (fun i j => .int .i64 (w.1.2.2 a i j))) [.live x 3 1 (D.h - m) (fun i j => .int .i64 (fa i j)), .live y 3 1 (D.h - m) (fun i j => .int .i64 (fb i j)), .live 0 46 5 0 (fun _ _ => .any), .live 0 3 1 0 (fun _ _ => .any), .live 0 3 1 0 (fun _ _ => .any)]⟩) (fun w => D.n - w.1.1) (fun _ => ⟨rfl, by simp only [fam_lenV, lenV_ap] <;> rfl⟩) ⟨(0, bhA D.A s.on.get D.n, D.V), Nat.zero_le _⟩ ?_ ?_
        case' refine_1 =>
          apply sub_of <;> simp only [hl6, getV_fL, setV_fL, getV_fI, setV_fI, getV_fP, setV_fP, snocV_fam', fam_lenV, updV_same, updV_upd, go_sem, ↓reduceIte, Nat.reduceAdd, Nat.reduceSub, Nat.reduceMul, Nat.reduceEqDiff, Nat.reduceLT, Nat.reduceLeDiff, Int.reduceToNat, Int.reduceLE, Int.reduceLT, Int.reduceEq, Int.reduceNeg, reduceCtorEq]
          all_goals first
            | exact ⟨rfl, sX⟩
            | exact sX
            | rfl
            | exact subV_famI (by simp only [lenV_ap] <;> rfl) (pre_subF (fun i' j' hi' _ => prF_bw _ _ _ hi') V0) (fun _ _ => subVk_rfl _) (subV_rfl' _)
            | ((repeat' refine And.intro ?_ ?_) <;> first | exact fun _ _ _ _ => trivial | exact fun i j _ _ => nestF_bd1 _ _ _ _ _ _ _ i j | exact fX _ _ (by simp only [fP]; omega) | (simp only [fI, fP]; omega))
            | exact subV_famI rfl (subV_rfl' _) (fun _ _ => subVk_rfl _) (subV_rfl' _)
            | exact bdV_famI (pre_bd (bw_bd (by simp only [fP]; omega)) V0 (f3 _ _ (by simp only [fP]; omega))) (fun _ _ => lvV_bd) ⟨fun _ _ _ _ => trivial, fun _ _ _ _ => trivial, fun _ _ _ _ => trivial, fun _ _ _ _ => trivial, fun _ _ _ _ => trivial, trivial⟩
            | exact bdV_famI (pre_bd (prF_bd (by simp only [fP]; omega)) V0 (f3 _ _ (by simp only [fP]; omega))) (fun _ _ => ⟨fun _ _ _ _ => trivial, trivial⟩) ⟨fun _ _ _ _ => trivial, fun _ _ _ _ => trivial, fun _ _ _ _ => trivial, fun _ _ _ _ => trivial, fun _ _ _ _ => trivial, trivial⟩
            | trace_state
        case' refine_2 =>
          rintro ⟨⟨i, Ai, G⟩, hi⟩
          simp only at hi ⊢
          by_cases ik : i < D.n
          · have e3 : decide ((i : Int) < (D.n : Int)) = true := decide_eq_true (by omega)
            have hi0 : (0 : Int) ≤ (i : Int) := by omega
            have hiN : (i : Int) < (D.n : Int) := by omega
            have hMi := (hOk2.M i ik).2
            simp only [e3, hi0, hiN, ik, hl6, q5, getV_apR, prF_0, Int.toNat_natCast, getV_fL, setV_fL, getV_fI, setV_fI, getV_fP, setV_fP, snocV_fam', fam_lenV, updV_same, updV_upd, slow_eq, alive_eq, ints_eq, plans_eq, flat_eq, q10_22, oneN_lit, oneM_lit, oneC_lit, great_one, great1_eq, nestF_eq, nestR_lit, nsM_lit, nsV_lit, Try.f10, go_sem, ↓reduceIte, Nat.reduceAdd, Nat.reduceSub, Nat.reduceMul, Nat.reduceEqDiff, Nat.reduceLT, Nat.reduceLeDiff, Int.reduceToNat, Int.reduceLE, Int.reduceLT, Int.reduceEq, Int.reduceNeg, reduceCtorEq]
            refine loop_ofH { w : Nat × (Nat → Nat → Nat → Int) // w.1 ≤ D.M i } (fun w => [(98, .int .i64 (w.1.1 : Int)), (97, .int .i64 (D.M i : Int)), (17, .int .i64 (i : Int)), (88, .int .i64 (i : Int)), (87, .int .i64 (D.n : Int)), (14, .ptr 2 0), (10, X10), (9, .int .i64 (chE b D)), (8, .int .i64 (chC b D)), (6, .vec 1 0), (5, .func 29 [.ptr 0 0, .ptr 1 0]), (3, .ptr 1 0), (2, .ptr 0 0)])
              (fun h0 w => ⟨h0.blks, fam (V0 ++ [.dead, .dead, .dead, .dead, .dead, .live z 46 5 D.n (prF (lenV V0 + 6) Ai)]) D.n (fun a => .live 0 55 2 (D.M a) (fun i j => .int .i64 (w.1.2 a i j))) [.live x 3 1 (D.h - m) (fun i j => .int .i64 (fa i j)), .live y 3 1 (D.h - m) (fun i j => .int .i64 (fb i j)), .live 0 46 5 0 (fun _ _ => .any), .live 0 3 1 0 (fun _ _ => .any), .live 0 3 1 0 (fun _ _ => .any)]⟩) (fun w => D.M i - w.1.1) (fun _ => ⟨rfl, by simp only [fam_lenV] <;> rfl⟩) ⟨(0, G), Nat.zero_le _⟩ ?_ ?_
            · apply sub_of <;> simp only [hl6, getV_fL, setV_fL, getV_fI, setV_fI, getV_fP, setV_fP, snocV_fam', fam_lenV, updV_same, updV_upd, go_sem, ↓reduceIte, Nat.reduceAdd, Nat.reduceSub, Nat.reduceMul, Nat.reduceEqDiff, Nat.reduceLT, Nat.reduceLeDiff, Int.reduceToNat, Int.reduceLE, Int.reduceLT, Int.reduceEq, Int.reduceNeg, reduceCtorEq]
              all_goals first
                | exact ⟨rfl, sX⟩
                | exact sX
                | rfl
                | ((repeat' refine And.intro ?_ ?_) <;> first | exact fun _ _ _ _ => trivial | exact fun i j _ _ => nestF_bd1 _ _ _ _ _ _ _ i j | exact fX _ _ (by simp only [fP]; omega) | (simp only [fI, fP]; omega))
                | exact subV_famI rfl (subV_rfl' _) (fun _ _ => subVk_rfl _) (subV_rfl' _)
                | exact bdV_famI (pre_bd (bw_bd (by simp only [fP]; omega)) V0 (f3 _ _ (by simp only [fP]; omega))) (fun _ _ => lvV_bd) ⟨fun _ _ _ _ => trivial, fun _ _ _ _ => trivial, fun _ _ _ _ => trivial, fun _ _ _ _ => trivial, fun _ _ _ _ => trivial, trivial⟩
                | exact bdV_famI (pre_bd (prF_bd (by simp only [fP]; omega)) V0 (f3 _ _ (by simp only [fP]; omega))) (fun _ _ => ⟨fun _ _ _ _ => trivial, trivial⟩) ⟨fun _ _ _ _ => trivial, fun _ _ _ _ => trivial, fun _ _ _ _ => trivial, fun _ _ _ _ => trivial, fun _ _ _ _ => trivial, trivial⟩
                | trace_state
            rintro ⟨⟨k, G⟩, hk⟩
            simp only at hk ⊢
            by_cases kk : k < D.M i
            · have e4 : decide ((k : Int) < (D.M i : Int)) = true := decide_eq_true (by omega)
              have hk0 : (0 : Int) ≤ (k : Int) := by omega
              have hkN : (k : Int) < (D.M i : Int) := by omega
              simp only [e4, hi0, hiN, hk0, hkN, ik, kk, hl6, q5, getV_apR, prF_0, Int.toNat_natCast, getV_fL, setV_fL, getV_fI, setV_fI, getV_fP, setV_fP, snocV_fam', fam_lenV, updV_same, updV_upd, slow_eq, alive_eq, ints_eq, plans_eq, flat_eq, q10_22, oneN_lit, oneM_lit, oneC_lit, great_one, great1_eq, nestF_eq, nestR_lit, nsM_lit, nsV_lit, Try.f10, go_sem, ↓reduceIte, Nat.reduceAdd, Nat.reduceSub, Nat.reduceMul, Nat.reduceEqDiff, Nat.reduceLT, Nat.reduceLeDiff, Int.reduceToNat, Int.reduceLE, Int.reduceLT, Int.reduceEq, Int.reduceNeg, reduceCtorEq]
              refine ⟨⟨(k + 1, upG G i k), by simp only []; omega⟩, by simp only []; omega, ?_⟩
              apply sub_of <;> simp only [wrap_s kk (show D.M i ≤ 1000000 by omega), hl6, getV_fL, setV_fL, getV_fI, setV_fI, getV_fP, setV_fP, snocV_fam', fam_lenV, updV_same, updV_upd, go_sem, ↓reduceIte, Nat.reduceAdd, Nat.reduceSub, Nat.reduceMul, Nat.reduceEqDiff, Nat.reduceLT, Nat.reduceLeDiff, Int.reduceToNat, Int.reduceLE, Int.reduceLT, Int.reduceEq, Int.reduceNeg, reduceCtorEq]
              all_goals first
                | exact ⟨rfl, sX⟩
                | exact sX
                | rfl
                | exact subV_famI rfl (subV_rfl' _) upG_st (subV_rfl' _)
                | ((repeat' refine And.intro ?_ ?_) <;> first | exact fun _ _ _ _ => trivial | exact fun i j _ _ => nestF_bd1 _ _ _ _ _ _ _ i j | exact fX _ _ (by simp only [fP]; omega) | (simp only [fI, fP]; omega))
                | exact subV_famI rfl (subV_rfl' _) (fun _ _ => subVk_rfl _) (subV_rfl' _)
                | exact bdV_famI (pre_bd (bw_bd (by simp only [fP]; omega)) V0 (f3 _ _ (by simp only [fP]; omega))) (fun _ _ => lvV_bd) ⟨fun _ _ _ _ => trivial, fun _ _ _ _ => trivial, fun _ _ _ _ => trivial, fun _ _ _ _ => trivial, fun _ _ _ _ => trivial, trivial⟩
                | exact bdV_famI (pre_bd (prF_bd (by simp only [fP]; omega)) V0 (f3 _ _ (by simp only [fP]; omega))) (fun _ _ => ⟨fun _ _ _ _ => trivial, trivial⟩) ⟨fun _ _ _ _ => trivial, fun _ _ _ _ => trivial, fun _ _ _ _ => trivial, fun _ _ _ _ => trivial, fun _ _ _ _ => trivial, trivial⟩
                | trace_state
            have e4 : decide ((k : Int) < (D.M i : Int)) = false := decide_eq_false (by omega)
            simp only [e4, hi0, hiN, ik, hl6, q5, getV_apR, setV_apR, prF_0, Int.toNat_natCast, getV_fL, setV_fL, getV_fI, setV_fI, getV_fP, setV_fP, snocV_fam', fam_lenV, updV_same, updV_upd, slow_eq, alive_eq, ints_eq, plans_eq, flat_eq, q10_22, oneN_lit, oneM_lit, oneC_lit, great_one, great1_eq, nestF_eq, nestR_lit, nsM_lit, nsV_lit, Try.f10, go_sem, ↓reduceIte, Nat.reduceAdd, Nat.reduceSub, Nat.reduceMul, Nat.reduceEqDiff, Nat.reduceLT, Nat.reduceLeDiff, Int.reduceToNat, Int.reduceLE, Int.reduceLT, Int.reduceEq, Int.reduceNeg, reduceCtorEq]
            refine ⟨⟨(i + 1, up1 Ai i 4, G), by simp only []; omega⟩, by simp only []; omega, ?_⟩
            apply sub_of <;> simp only [wrap_s ik (show D.n ≤ 1000000 by omega), hl6, getV_fL, setV_fL, getV_fI, setV_fI, getV_fP, setV_fP, snocV_fam', fam_lenV, updV_same, updV_upd, go_sem, ↓reduceIte, Nat.reduceAdd, Nat.reduceSub, Nat.reduceMul, Nat.reduceEqDiff, Nat.reduceLT, Nat.reduceLeDiff, Int.reduceToNat, Int.reduceLE, Int.reduceLT, Int.reduceEq, Int.reduceNeg, reduceCtorEq]
            all_goals first
              | exact ⟨rfl, sX⟩
              | exact sX
              | rfl
              | exact subV_famI (by simp only [lenV_ap] <;> rfl) (pre_subF (fun i' j' _ _ => prF_up _ _ _ _ _) V0) (fun _ _ => subVk_rfl _) (subV_rfl' _)
              | ((repeat' refine And.intro ?_ ?_) <;> first | exact fun _ _ _ _ => trivial | exact fun i j _ _ => nestF_bd1 _ _ _ _ _ _ _ i j | exact fX _ _ (by simp only [fP]; omega) | (simp only [fI, fP]; omega))
              | exact subV_famI rfl (subV_rfl' _) (fun _ _ => subVk_rfl _) (subV_rfl' _)
              | exact bdV_famI (pre_bd (bw_bd (by simp only [fP]; omega)) V0 (f3 _ _ (by simp only [fP]; omega))) (fun _ _ => lvV_bd) ⟨fun _ _ _ _ => trivial, fun _ _ _ _ => trivial, fun _ _ _ _ => trivial, fun _ _ _ _ => trivial, fun _ _ _ _ => trivial, trivial⟩
              | exact bdV_famI (pre_bd (prF_bd (by simp only [fP]; omega)) V0 (f3 _ _ (by simp only [fP]; omega))) (fun _ _ => ⟨fun _ _ _ _ => trivial, trivial⟩) ⟨fun _ _ _ _ => trivial, fun _ _ _ _ => trivial, fun _ _ _ _ => trivial, fun _ _ _ _ => trivial, fun _ _ _ _ => trivial, trivial⟩
              | trace_state
          have e3 : decide ((i : Int) < (D.n : Int)) = false := decide_eq_false (by omega)
          simp only [e3, hl6, q5, getV_apR, Int.toNat_natCast, getV_fL, setV_fL, getV_fI, setV_fI, getV_fP, setV_fP, snocV_fam', fam_lenV, updV_same, updV_upd, slow_eq, alive_eq, ints_eq, plans_eq, flat_eq, q10_22, oneN_lit, oneM_lit, oneC_lit, great_one, great1_eq, nestF_eq, nestR_lit, nsM_lit, nsV_lit, Try.f10, go_sem, ↓reduceIte, Nat.reduceAdd, Nat.reduceSub, Nat.reduceMul, Nat.reduceEqDiff, Nat.reduceLT, Nat.reduceLeDiff, Int.reduceToNat, Int.reduceLE, Int.reduceLT, Int.reduceEq, Int.reduceNeg, reduceCtorEq]
          have f6 : 1 < lenV V0 + 6 := by omega
          have f7 : ∀ l : List Vc, getV (V0 ++ l) 1 = getV V0 1 := fun l => getV_apL l V0 f5
          have f8 : ∀ (l : List Vc), getV (V0 ++ l) ci = getV V0 ci := fun l => getV_apL l V0 f4
          have f9 : ci < lenV V0 + 6 := by omega
          unfold callS
          refine calls_mono ?_ (cheap_any n A M V h nd q pr st ro pk fr pp hb _)
          rintro o h' ⟨rfl, rfl⟩
          rw [← hD]
          simp only [hF, h10, f1, f2, f4, f5, f6, f7, f8, f9, hl6, g3, g4, planF, frz_pl, eqB_refl, allU_tt, getV_fL, setV_fL, getV_fI, setV_fI, getV_fP, setV_fP, snocV_fam', fam_lenV, updV_same, updV_upd, alive_eq, ints_eq, plans_eq, flat_eq, q10_22, nestR_lit, nsM_lit, nsV_lit, Try.f10, go_sem, ↓reduceIte, Nat.reduceAdd, Nat.reduceSub, Nat.reduceMul, Nat.reduceEqDiff, Nat.reduceLT, Nat.reduceLeDiff, Int.reduceToNat, Int.reduceLE, Int.reduceLT, Int.reduceEq, Int.reduceNeg, reduceCtorEq]
    all_goals
      have hFl : F.length ≤ 1000000 := by rw [← hF]; exact flL_len h1 h2 h3 h4 g1 g2
      have hcN := chN_le b D
      have hDh : D.h = h := by rw [hD]
      first
        | exact ⟨⟨h1, h2, h3, h4, g1, g2⟩, hFl, by omega, fun _ _ => by omega⟩
        | trace_state
end Go.Eng
end

/-
  PressOwns: for every input the law returns true, and each argument reads afterwards as it read before. No condition.
-/
section
namespace Go.Proofs.Ytdecicbgjkeefaa.pressOwns
open Go.ChangeShapes Go.WideShapes Go.ChangeAt Go.RowKit Go.Eng
set_option linter.unusedVariables false
theorem own : ownKnob Try.prog.godebug = none := by kernel_rfl
theorem laid : laidOutB Try.prog = true := by kernel_rfl
set_option maxRecDepth 100000 in
theorem lifted (os : Os) (started : os.Started) (H : Type) (enc : TypeId × Value → H) :
    ReturnsInHanded {} Try.checked os 10 .any (Rows.pressOwnsSpec.pre6 enc Try.prog Try.f10 Rows.pressOwnsRow.domain false) (Rows.pressOwnsSpec.post enc Try.prog Try.f10 false true false false) := by
  refine returnsInHanded_of_change (C := Try.checked) own started (by kernel_rfl) Try.func10
    (ChangeSpec.witness6 (enc := enc) (C := Try.checked) false ⟨#[], #[.agg #[.slice none 0 0, .slice none 0 0, .slice none 0 0, .int .i64 0, .int .i64 0, .int .i64 0, .int .i64 0], .slice none 0 0], []⟩ 8 (by kernel_rfl) (by kernel_rfl) (by kernel_rfl) (by kernel_rfl)) ?_
  intro W base args ds gs before hval0 hW hcnd _
  have hval : ∀ (j : Nat) t v, Try.f10.params[j]? = some t → args[j]? = some v → Value.okWide Try.prog W .any base t v := hval0
  have hW' := hW
  obtain ⟨p, q, hA0, hV, rfl, hfz, hnd⟩ := hW
  have hA : DataW.TrodAll enc Try.prog W 0 (fun _ => true) true Try.f10.params.toList args.toList ds p := hA0
  rw [Try.params10] at hA hval
  obtain ⟨v0, vs0, d0, ds0, p0, q0, hargs, rfl, rfl, h0, r0⟩ := trodAll_cons hA
  obtain ⟨v1, vs1, d1, ds1, p1, q1, rfl, rfl, rfl, h1, r1⟩ := trodAll_cons r0
  obtain ⟨rfl, rfl, rfl⟩ := trodAll_nil r1
  obtain rfl : args = #[v0, v1] := by cases args; simp_all
  obtain ⟨rfl, rfl⟩ := trodVars_none hV
  obtain ⟨xs0, e0, l0, t0⟩ := arg_agg (shs := [.sl [.sl [.int .i64, .int .i64], .int .i64, .int .i64, .int .i64, .int .i64], .sl [.int .i64], .sl [.int .i64], .int .i64, .int .i64, .int .i64, .int .i64]) Try.underlying25 (by kernel_rfl) (hval 0 25 v0 rfl rfl) h0
  obtain ⟨a0_0, a0_1, a0_2, a0_3, a0_4, a0_5, a0_6, rfl⟩ : ∃ a0_0 a0_1 a0_2 a0_3 a0_4 a0_5 a0_6, xs0 = [a0_0, a0_1, a0_2, a0_3, a0_4, a0_5, a0_6] := by
    match xs0, l0 with
    | [a0_0, a0_1, a0_2, a0_3, a0_4, a0_5, a0_6], _ => exact ⟨a0_0, a0_1, a0_2, a0_3, a0_4, a0_5, a0_6, rfl⟩
  obtain ⟨n0_0, f0_0, rfl, m0_0, s0_0⟩ := typ_sl (t0 0 _ _ rfl rfl)
  obtain ⟨i0_0, b0_0, c0_0, g0_0⟩ := nestR_typ (sz := 5) (k := 0) (s := 2) (by intro j hj hk; rcases (show j = 0 ∨ j = 1 ∨ j = 2 ∨ j = 3 ∨ j = 4 by omega) with rfl | rfl | rfl | rfl | rfl <;> first | rfl | exact absurd rfl hk) rfl s0_0
  obtain ⟨n0_1, f0_1, rfl, m0_1, s0_1⟩ := typ_sl (t0 1 _ _ rfl rfl)
  obtain ⟨i0_1, b0_1⟩ := intK_of_typ (k := .i64) (c := 1) rfl s0_1
  obtain ⟨n0_2, f0_2, rfl, m0_2, s0_2⟩ := typ_sl (t0 2 _ _ rfl rfl)
  obtain ⟨i0_2, b0_2⟩ := intK_of_typ (k := .i64) (c := 1) rfl s0_2
  obtain ⟨x0_3, rfl, w0_3⟩ := typ_int (t0 3 _ _ rfl rfl)
  obtain ⟨x0_4, rfl, w0_4⟩ := typ_int (t0 4 _ _ rfl rfl)
  obtain ⟨x0_5, rfl, w0_5⟩ := typ_int (t0 5 _ _ rfl rfl)
  obtain ⟨x0_6, rfl, w0_6⟩ := typ_int (t0 6 _ _ rfl rfl)
  obtain ⟨n1, f1, e1, m1, t1⟩ := arg_row (s := [.sl [.int .i64]]) Try.underlying29 (by kernel_rfl) (hval 1 29 v1 rfl rfl) h1
  obtain ⟨i1, b1, c1, g1⟩ := nestR_typ (sz := 1) (k := 0) (s := 1) (by intro j hj hk; rcases (show j = 0 by omega) with rfl <;> first | rfl | exact absurd rfl hk) rfl t1
  have hd : DenL Env.emp W [.agg [.row n0_0 5 f0_0, .row n0_1 1 f0_1, .row n0_2 1 f0_2, .int .i64 x0_3, .int .i64 x0_4, .int .i64 x0_5, .int .i64 x0_6], .row n1 1 f1] [v0, v1] := ⟨e0, e1, trivial⟩
  refine (law_calls pressOwns_base (args := [.agg [.row n0_0 5 f0_0, .row n0_1 1 f0_1, .row n0_2 1 f0_2, .int .i64 x0_3, .int .i64 x0_4, .int .i64 x0_5, .int .i64 x0_6], .row n1 1 f1]) rfl ⟨⟨rfl, i0_0⟩, ⟨rfl, fun i j hi hj => i0_1 i j hi hj⟩, ⟨rfl, fun i j hi hj => i0_2 i j hi hj⟩, ⟨rfl, i1⟩⟩ (denA_of hd)).mono fun e W' ⟨he, hb⟩ => ?_
  subst he
  exact ⟨_, rfl, law_end laid rfl Try.underlying4 (by kernel_rfl) rfl hW' rfl hb⟩
theorem over : Rows.pressOwnsRow.holds Try.pinned (OpenSpec.ofChange Rows.pressOwnsSpec) :=
  OpenClaim.holds_of_wide 10 Try.f10 rfl rfl rfl rfl rfl rfl rfl ⟨rfl, rfl, rfl, rfl, rfl⟩ rfl rfl rfl rfl rfl (by kernel_rfl) Try.func10 (by kernel_rfl)
    (of_decide_eq_true (by kernel_rfl)) (by unfold Func.isWrapper; first | (rw [if_pos (by decide +kernel)]; kernel_rfl) | (rw [if_neg (by decide +kernel)]; exact ⟨rfl, rfl⟩))
    (fun os started H enc _ => lifted os started H enc)
end Go.Proofs.Ytdecicbgjkeefaa.pressOwns
namespace Go.Proofs.Ytdecicbgjkeefaa
/-- The given statement. -/
theorem pressOwns_holds : Rows.PressOwnsSaid := pressOwns.over
#print axioms pressOwns_holds
end Go.Proofs.Ytdecicbgjkeefaa
end
