/-
  MoneyCents: for every input the law returns true, and each argument reads afterwards as it read before. No condition.
-/
import Derived.Test.YtiimhkdjechkpaaRows
import Derived.WalkKit
import Derived.Test.YtiimhkdjechkpaaM3
set_option linter.unusedSimpArgs false
set_option linter.unusedVariables false
/- money: to the cent. -/
section
namespace Go.Eng
open Go Go.RowKit Go.Proofs
set_option maxRecDepth 100000
set_option maxHeartbeats 4000000
attribute [local irreducible] OwnT DefS
theorem sumK_split (g : Nat → Int) (a : Nat) : ∀ b, sumK g (a + b) = sumK g a + sumK (fun i => g (a + i)) b
  | 0 => by simp [sumK]
  | b + 1 => by rw [← Nat.add_assoc]; simp only [sumK, sumK_split g a b]; omega
theorem sumK_rot (g : Nat → Int) {n : Nat} (t : Nat) : sumK (fun i => g ((i + t) % n)) n = sumK g n := by
  rcases Nat.eq_zero_or_pos n with rfl | hn
  · rfl
  have ht := Nat.mod_lt t hn
  have e : ∀ i, (i + t) % n = (i + t % n) % n := fun i => by rw [Nat.add_mod, Nat.add_mod i (t % n)]; simp
  simp only [e]
  generalize t % n = u at ht
  have h1 : sumK (fun i => g ((i + u) % n)) ((n - u) + u) = sumK (fun i => g (u + i)) (n - u) + sumK g u := by
    rw [sumK_split]
    congr 1
    · exact sumK_congr (fun i hi => by rw [Nat.mod_eq_of_lt (by omega), Nat.add_comm])
    · exact sumK_congr (fun i hi => by rw [show n - u + i + u = i + n by omega, Nat.add_mod_right, Nat.mod_eq_of_lt (by omega)])
  rw [show n - u + u = n by omega] at h1
  rw [h1]
  have := sumK_split g u (n - u)
  rw [show u + (n - u) = n by omega] at this
  omega
theorem shrF_K (A : Nat → Nat → Int) (M : Nat → Nat) (V : Nat → Nat → Nat → Int) (a : Nat) : ∀ n, shrF A M V n a = sumK (fun i => shV (A i 0) (M i) (V i) (M i) a) n
  | 0 => rfl
  | n + 1 => by simp only [shrF, sumK, shrF_K A M V a n]
theorem kpF_K (A : Nat → Nat → Int) (M : Nat → Nat) : ∀ n, kpF A M n = sumK (fun i => if M i = 0 then A i 0 else 0) n
  | 0 => rfl
  | n + 1 => by simp only [kpF, sumK, kpF_K A M n]
theorem sum_hall (X : Int) (b : Nat) : ∀ n, sumK (fun a => if (b : Int) = (a : Int) then X else 0) n = if b < n then X else 0
  | 0 => by simp [sumK]
  | n + 1 => by
    simp only [sumK, sum_hall X b n]
    by_cases h1 : b < n
    · rw [if_pos h1, if_neg (by omega), if_pos (by omega)]; omega
    · by_cases h2 : b = n
      · subst h2; rw [if_neg (by omega), if_pos rfl, if_pos (by omega)]; omega
      · rw [if_neg h1, if_neg (by omega), if_neg (by omega)]; omega
theorem sumK_add2 {f g : Nat → Int} : ∀ n, sumK (fun a => f a + g a) n = sumK f n + sumK g n
  | 0 => rfl
  | n + 1 => by simp only [sumK, sumK_add2 n]; omega
/-- All halls together get what all visits get. -/
theorem shV_sum {P : Int} {m : Nat} {v : Nat → Nat → Int} {H : Nat} : ∀ k, (∀ j, j < k → 0 ≤ v j 0 ∧ v j 0 < (H : Int)) → sumK (shV P m v k) H = smP P m k
  | 0, _ => by
    have : ∀ n, sumK (shV P m v 0) n = 0 := fun n => by
      induction n with
      | zero => rfl
      | succ n ih => rw [sumK, ih]; rfl
    simp only [smP, this]
  | k + 1, h => by
    have hv := h k (by omega)
    have e1 : v k 0 = ((v k 0).toNat : Int) := by omega
    have : shV P m v (k + 1) = fun a => shV P m v k a + if ((v k 0).toNat : Int) = (a : Int) then ptA P m k else 0 := by
      funext a; simp only [shV]; rw [← e1]
    rw [this, sumK_add2, sum_hall, shV_sum k (fun j hj => h j (by omega)), if_pos (by omega)]
    rfl
theorem shr_sum {A : Nat → Nat → Int} {M : Nat → Nat} {V : Nat → Nat → Nat → Int} {h : Int} (hh : 0 ≤ h) : ∀ n, (∀ i, i < n → passB h A M V i = true) → sumK (shrF A M V n) h.toNat + kpF A M n = sumK (fun i => A i 0) n
  | 0, _ => by
    have : ∀ n, sumK (shrF A M V 0) n = 0 := fun n => by
      induction n with
      | zero => rfl
      | succ n ih => rw [sumK, ih]; rfl
    rw [this]; rfl
  | n + 1, hp => by
    have ih := shr_sum hh n (fun i hi => hp i (by omega))
    obtain ⟨pA, pM, pV⟩ := passB_iff.1 (hp n (by omega))
    have : shrF A M V (n + 1) = fun a => shrF A M V n a + shV (A n 0) (M n) (V n) (M n) a := by funext a; rfl
    rw [this, sumK_add2, shV_sum (M n) (fun j hj => by have := pV j hj; omega)]
    simp only [kpF, sumK]
    rcases Nat.eq_zero_or_pos (M n) with h0 | h0
    · simp only [h0, smP, if_true]; omega
    · rw [smP_all pA.1 h0, if_neg (by omega)]; omega
/-- How many of the first k visits were of a hall. -/
def cntV (v : Nat → Nat → Int) (a : Int) : Nat → Nat
  | 0 => 0
  | k + 1 => cntV v a k + if v k 0 = a then 1 else 0
theorem cntV_le (v : Nat → Nat → Int) (a : Int) : ∀ k, cntV v a k ≤ k
  | 0 => Nat.le_refl _
  | k + 1 => by have := cntV_le v a k; simp only [cntV]; split <;> omega
theorem shV_cnt {P : Int} {m : Nat} {v : Nat → Nat → Int} (a : Nat) : ∀ k, (cntV v (a : Int) k : Int) * (P / m) ≤ shV P m v k a ∧ shV P m v k a ≤ (cntV v (a : Int) k : Int) * (P / m + 1)
  | 0 => by simp [cntV, shV]
  | k + 1 => by
    obtain ⟨h1, h2⟩ := shV_cnt (P := P) (m := m) (v := v) a k
    simp only [cntV, shV]
    split
    · have hp : P / m ≤ ptA P m k ∧ ptA P m k ≤ P / m + 1 := by unfold ptA; split <;> omega
      have e1 : ((cntV v (a : Int) k + 1 : Nat) : Int) * (P / m) = (cntV v (a : Int) k : Int) * (P / m) + P / m := by rw [Int.natCast_add, Int.add_mul]; simp
      have e2 : ((cntV v (a : Int) k + 1 : Nat) : Int) * (P / m + 1) = (cntV v (a : Int) k : Int) * (P / m + 1) + (P / m + 1) := by rw [Int.natCast_add, Int.add_mul]; simp
      omega
    · simp only [Nat.add_zero, Int.add_zero]; exact ⟨h1, h2⟩
theorem splE_ok {n : Nat} {A : Nat → Nat → Int} {M : Nat → Nat} {V : Nat → Nat → Nat → Int} {h : Int} (he : splE n A M V h = 0) : (0 ≤ h ∧ h ≤ 16) ∧ n ≤ 64 ∧ ∀ i, i < n → passB h A M V i = true := by
  unfold splE at he
  split at he
  · rename_i h1
    split at he
    · rename_i h2
      split at he
      · rename_i h3; exact ⟨in3_iff.1 h1, h2, allU_iff.1 h3⟩
      · cases he
    · cases he
  · cases he
theorem splE_of {n : Nat} {A : Nat → Nat → Int} {M : Nat → Nat} {V : Nat → Nat → Nat → Int} {h : Int} (h1 : 0 ≤ h ∧ h ≤ 16) (h2 : n ≤ 64) (h3 : ∀ i, i < n → passB h A M V i = true) : splE n A M V h = 0 := by
  simp [splE, in3_iff.2 h1, h2, allU_iff.2 h3]
theorem splE_cases (n : Nat) (A : Nat → Nat → Int) (M : Nat → Nat) (V : Nat → Nat → Nat → Int) (h : Int) : splE n A M V h = 0 ∨ splE n A M V h = 1 ∨ splE n A M V h = 2 ∨ splE n A M V h = 3 := by
  unfold splE
  split
  · split
    · split <;> simp
    · simp
  · simp
theorem spl_ns (n : Nat) (A : Nat → Nat → Int) (M M' : Nat → Nat) (V V' : Nat → Nat → Nat → Int) (h : Int) : splE n (nsA (nestF 1 1 A M V)) M' V' h = splE n A M' V' h := by
  simp only [splE, passB_ns]
theorem shr_ns (n : Nat) (A : Nat → Nat → Int) (M M' : Nat → Nat) (V V' : Nat → Nat → Nat → Int) : shrF (nsA (nestF 1 1 A M V)) M' V' n = shrF A M' V' n := by
  funext a
  simp only [shrF_K, nsA_lit (k := 1) (s := 1) (A := A) (M := M) (V := V) _ (show 0 ≠ 1 by omega)]
theorem kp_ns (n : Nat) (A : Nat → Nat → Int) (M M' : Nat → Nat) (V : Nat → Nat → Nat → Int) : kpF (nsA (nestF 1 1 A M V)) M' n = kpF A M' n := by
  simp only [kpF_K, nsA_lit (k := 1) (s := 1) (A := A) (M := M) (V := V) _ (show 0 ≠ 1 by omega)]
theorem spN_ns (n : Nat) (A : Nat → Nat → Int) (M M' : Nat → Nat) (V V' : Nat → Nat → Nat → Int) (h : Int) : splN n (nsA (nestF 1 1 A M V)) M' V' h = splN n A M' V' h := by
  simp only [splN, spl_ns]
theorem spK_ns (n : Nat) (A : Nat → Nat → Int) (M M' : Nat → Nat) (V V' : Nat → Nat → Nat → Int) (h : Int) : splK n (nsA (nestF 1 1 A M V)) M' V' h = splK n A M' V' h := by
  simp only [splK, spl_ns, kp_ns]
theorem cat2 {f : Nat → Nat → SV} {q : Nat} {x y : SV} (h0 : f q 0 = x) (h1 : f q 1 = y) : ∀ i j : Nat, i < q + 1 → j < 2 → catF q f (oneF [x, y]) i j = f i j := fun i j hi hj => by
  unfold catF oneF
  split
  · rfl
  · obtain rfl : i = q := by omega
    rcases j with _ | _ | j
    · exact h0.symm
    · exact h1.symm
    · omega
theorem cat2' {f : Nat → Nat → SV} {q : Nat} {x y : SV} (h0 : f q 0 = x) (h1 : f q 1 = y) : ∀ i j : Nat, i < q + 1 → j < 2 → q ≤ i → oneF [x, y] (i - q) j = f i j := fun i j hi hj hq => by
  have := cat2 h0 h1 i j hi hj
  rwa [catF, if_neg (by omega)] at this
theorem one_bd {L K : Nat} {x : Int} {m : Nat} {v : Nat → Nat → Int} : ∀ j : Nat, Bd L K (nth [.int .i64 x, .row m 1 fun a b => .int .i64 (v a b)] j) := fun j => by
  rcases j with _ | _ | j
  · exact trivial
  · show Bd L K (.row m 1 _)
    simp only [Bd]
    exact fun _ _ _ _ => trivial
  · exact trivial
theorem shr_rot (A : Nat → Nat → Int) (M : Nat → Nat) (V : Nat → Nat → Nat → Int) (t n : Nat) : shrF (fun i => A ((i + t) % n)) (fun i => M ((i + t) % n)) (fun i => V ((i + t) % n)) n = shrF A M V n := by
  funext a
  rw [shrF_K, shrF_K]
  exact sumK_rot (fun i => shV (A i 0) (M i) (V i) (M i) a) t
theorem kp_rot (A : Nat → Nat → Int) (M : Nat → Nat) (t n : Nat) : kpF (fun i => A ((i + t) % n)) (fun i => M ((i + t) % n)) n = kpF A M n := by
  rw [kpF_K, kpF_K]
  exact sumK_rot (fun i => if M i = 0 then A i 0 else 0) t
def moneyCentsBase : BaseF := fun args => match args with
  | [.row n sz_A f_A, .int .i64 h, .int .u8 turn] => some ((sz_A = 2 ∧ NestR n 2 1 1 f_A) ∧ ((Lit.int .u8 turn).wf = true), .bool true)
  | _ => none
theorem moneyCents_eq (n : Nat) (sz_A : Nat) (f_A : Nat → Nat → SV) (h : Int) (turn : Int) : moneyCentsBase [.row n sz_A f_A, .int .i64 h, .int .u8 turn] = some ((sz_A = 2 ∧ NestR n 2 1 1 f_A) ∧ ((Lit.int .u8 turn).wf = true), .bool true) := rfl
theorem moneyCents_base : Base Try.prog 7 moneyCentsBase := by
  intro args p v hq hp
  unfold moneyCentsBase at hq
  split at hq
  rotate_left
  · cases hq
  rename_i n sz_A f_A h turn
  cases hq
  obtain ⟨⟨rfl, i_A⟩, wf_turn⟩ := hp
  refine base_of (C := cx [] [] [(11, awakeBase), (15, visitsBase), (16, splitBase), (27, passesBase), (14, intsBase)] [(7, 24, p7_24)] none) (cx_ok trivial ⟨awake_base, visits_base, split_base, passes_base, ints_base, trivial⟩) rfl (g := 7) (fn := Try.f7)
    (args' := [.row n 2 (nestF 1 1 (nsA f_A) (nsM 1 f_A) (nsV 1 f_A)), .int .i64 h, .int .u8 turn]) (fn_7) rfl 1000 (by
    simp only [BdL, Bd, and_self, and_true, true_and]
    exact (fun i j hi hj => nest_bd i_A i j hi hj)) ⟨SameD.nest i_A, SameD.rfl' _, SameD.rfl' _, trivial⟩ ?_
  generalize nsA f_A = A
  generalize nsM 1 f_A = M
  generalize nsV 1 f_A = V
  have htu := wf_u8 wf_turn
  cases hv : (decide (68 < n) || !allU (fun i => decide (70 ≤ i) || decide (M i ≤ 132)) n) with
  | true => simp only [hv, awake_eq, visits_eq, split_eq, passes_eq, ints_eq, p7_24, nestF11_0, nestF11_1, nestF_sh, frzF_nest, nestR_lit, nsM_lit, nsV_lit, passB_ns, spl_ns, shr_ns, kp_ns, spN_ns, spK_ns, Try.f7, go_sem, ↓reduceIte, Nat.reduceAdd, Nat.reduceSub, Nat.reduceMul, Nat.reduceEqDiff, Nat.reduceLT, Nat.reduceLeDiff, Int.reduceToNat, Int.reduceLE, Int.reduceLT, Int.reduceEq, Int.reduceNeg, reduceCtorEq]
  | false =>
    obtain ⟨hn, hM⟩ := visits_no hv
    have hpre : n ≤ 1000000 ∧ ∀ i, i < n → M i ≤ 1000000 := ⟨by omega, fun i hi => by have := hM i hi; omega⟩
    by_cases hE : splE n A M V h = 0
    · obtain ⟨hh, hn64, hp⟩ := splE_ok hE
      have hN : splN n A M V h = h.toNat := by simp [splN, hE]
      have hK : splK n A M V h = kpF A M n := by simp [splK, hE]
      have hkb := kpF_bd hp n (Nat.le_refl _)
      have hpa : allU (passB h A M V) n = true := allU_iff.2 hp
      have d1 : decide (h < 0) = false := decide_eq_false (by omega)
      have d2 : decide ((h.toNat : Int) = h) = true := decide_eq_true (by omega)
      have d3 : decide (kpF A M n < 0) = false := decide_eq_false (by omega)
      simp only [hv, hE, hN, hK, hpa, d1, d2, d3, awake_eq, visits_eq, split_eq, passes_eq, ints_eq, p7_24, nestF11_0, nestF11_1, nestF_sh, frzF_nest, nestR_lit, nsM_lit, nsV_lit, passB_ns, spl_ns, shr_ns, kp_ns, spN_ns, spK_ns, Try.f7, go_sem, ↓reduceIte, Nat.reduceAdd, Nat.reduceSub, Nat.reduceMul, Nat.reduceEqDiff, Nat.reduceLT, Nat.reduceLeDiff, Int.reduceToNat, Int.reduceLE, Int.reduceLT, Int.reduceEq, Int.reduceNeg, reduceCtorEq]
      have hshb := shrF_bd hp n (Nat.le_refl _)
      refine ⟨hpre, ⟨hpre.1, hpre.2, by omega, by omega⟩, ?_⟩
      refine loop_of { i : Nat // i ≤ h.toNat } (fun i => [(13, .int .i64 (i.1 : Int)), (12, .int .i64 0), (11, .int .i64 0), (10, .int .i64 (kpF A M n + sumK (shrF A M V n) i.1)), (8, .int .i64 (kpF A M n)), (7, .row h.toNat 1 fun i x => .int .i64 (shrF A M V n i)), (2, .int .u8 turn), (1, .int .i64 h), (0, .row n 2 (nestF 1 1 A M V))]) (fun _ => ⟨[], []⟩) (fun i => h.toNat - i.1) (fun _ => ⟨rfl, rfl⟩) ⟨0, by omega⟩ (by simp only [sumK, Int.add_zero]; (apply sub_of <;> simp only [go_sem, ↓reduceIte, Nat.reduceAdd, Nat.reduceSub, Nat.reduceMul, Nat.reduceEqDiff, Nat.reduceLT, Nat.reduceLeDiff, Int.reduceToNat, Int.reduceLE, Int.reduceLT, Int.reduceEq, Int.reduceNeg, reduceCtorEq] <;> (try simp [catF]) <;> (try exact fun j _ => Bd_nth (by simp [BdL, Bd]) j) <;> (try exact bd_setL (by simp [bdAs, BdL, Bd])) <;> (try exact nestF_bd _ _ _ _ _ _ _ _ _))) ?_
      rintro ⟨i, hi⟩
      simp only [awake_eq, visits_eq, split_eq, passes_eq, ints_eq, p7_24, nestF11_0, nestF11_1, nestF_sh, frzF_nest, nestR_lit, nsM_lit, nsV_lit, passB_ns, spl_ns, shr_ns, kp_ns, spN_ns, spK_ns, Try.f7, go_sem, ↓reduceIte, Nat.reduceAdd, Nat.reduceSub, Nat.reduceMul, Nat.reduceEqDiff, Nat.reduceLT, Nat.reduceLeDiff, Int.reduceToNat, Int.reduceLE, Int.reduceLT, Int.reduceEq, Int.reduceNeg, reduceCtorEq]
      have hw3 : IntKind.i64.wrap ((i : Int) + 1) = ((i + 1 : Nat) : Int) := by rw [wrap_id (by omega) (by omega)]; omega
      have hsb : 0 ≤ sumK (shrF A M V n) i ∧ sumK (shrF A M V n) i ≤ 8589942784 * (i : Int) := by
        clear hw3
        induction i with
        | zero => simp [sumK]
        | succ i ih => have := ih (by omega); have := hshb i; simp only [sumK]; omega
      refine ⟨fun e1 => ?_, fun e1 => ?_⟩
      · simp only [decide_eq_true_eq] at e1
        have hsi := hshb i
        have w2 : IntKind.i64.wrap (kpF A M n + sumK (shrF A M V n) i + shrF A M V n i) = kpF A M n + sumK (shrF A M V n) (i + 1) := by rw [wrap_id (by omega) (by omega)]; simp only [sumK]; omega
        refine ⟨⟨by omega, by omega⟩, ⟨i + 1, by omega⟩, by simp only []; omega, ?_⟩
        apply sub_of <;> simp only [hw3, w2, go_sem, ↓reduceIte, Nat.reduceAdd, Nat.reduceSub, Nat.reduceMul, Nat.reduceEqDiff, Nat.reduceLT, Nat.reduceLeDiff, Int.reduceToNat, Int.reduceLE, Int.reduceLT, Int.reduceEq, Int.reduceNeg, reduceCtorEq] <;> (try simp) <;> (try exact fun j _ => Bd_nth (by simp [BdL, Bd]) j) <;> (try exact bd_setL (by simp [bdAs, BdL, Bd])) <;> (try exact nestF_bd _ _ _ _ _ _ _ _ _)
      simp only [decide_eq_false_iff_not] at e1
      obtain rfl : i = h.toNat := by omega
      have hss : kpF A M n + sumK (shrF A M V n) h.toNat = sumK (fun i => A i 0) n := by have := shr_sum hh.1 n hp; omega
      rw [hss]
      refine loop_of { q : Nat // q ≤ n } (fun q => [(15, .int .i64 (q.1 : Int)), (14, .vec 0 q.1), (12, .int .i64 (kpF A M q.1)), (11, .int .i64 (sumK (fun i => A i 0) q.1)), (10, .int .i64 (sumK (fun i => A i 0) n)), (8, .int .i64 (kpF A M n)), (7, .row h.toNat 1 fun i x => .int .i64 (shrF A M V n i)), (2, .int .u8 turn), (1, .int .i64 h), (0, .row n 2 (nestF 1 1 A M V))]) (fun q => ⟨[], [.live q.1 53 2 q.1 (nestF 1 1 (fun i => A ((i + turn.toNat) % n)) (fun i => M ((i + turn.toNat) % n)) (fun i => V ((i + turn.toNat) % n)))]⟩) (fun q => n - q.1) (fun _ => ⟨rfl, rfl⟩) ⟨0, by omega⟩ (by simp only [sumK, kpF]; (apply sub_of <;> simp only [go_sem, ↓reduceIte, Nat.reduceAdd, Nat.reduceSub, Nat.reduceMul, Nat.reduceEqDiff, Nat.reduceLT, Nat.reduceLeDiff, Int.reduceToNat, Int.reduceLE, Int.reduceLT, Int.reduceEq, Int.reduceNeg, reduceCtorEq] <;> (try simp [catF]) <;> (try exact fun j _ => Bd_nth (by simp [BdL, Bd]) j) <;> (try exact bd_setL (by simp [bdAs, BdL, Bd])) <;> (try exact nestF_bd _ _ _ _ _ _ _ _ _))) ?_
      rintro ⟨q, hq⟩
      simp only [awake_eq, visits_eq, split_eq, passes_eq, ints_eq, p7_24, nestF11_0, nestF11_1, nestF_sh, frzF_nest, nestR_lit, nsM_lit, nsV_lit, passB_ns, spl_ns, shr_ns, kp_ns, spN_ns, spK_ns, Try.f7, go_sem, ↓reduceIte, Nat.reduceAdd, Nat.reduceSub, Nat.reduceMul, Nat.reduceEqDiff, Nat.reduceLT, Nat.reduceLeDiff, Int.reduceToNat, Int.reduceLE, Int.reduceLT, Int.reduceEq, Int.reduceNeg, reduceCtorEq]
      have hw3 : IntKind.i64.wrap ((q : Int) + 1) = ((q + 1 : Nat) : Int) := by rw [wrap_id (by omega) (by omega)]; omega
      have wt : IntKind.i64.wrap turn = (turn.toNat : Int) := by rw [wrap_id (by omega) (by omega)]; omega
      have wq : IntKind.i64.wrap ((q : Int) + (turn.toNat : Int)) = ((q + turn.toNat : Nat) : Int) := by rw [wrap_id (by omega) (by omega)]; omega
      have hsb : 0 ≤ sumK (fun i => A i 0) q ∧ sumK (fun i => A i 0) q ≤ 1048576 * (q : Int) := by
        clear hw3 wq
        induction q with
        | zero => simp [sumK]
        | succ i ih => have := ih (by omega); have := (passB_iff.1 (hp i (by omega))).1; simp only [sumK]; omega
      have hkq := kpF_bd hp q hq
      refine ⟨fun e1 => ?_, fun e1 => ?_⟩
      · simp only [decide_eq_true_eq] at e1
        have qk : q < n := by omega
        obtain ⟨pA, pM, pV⟩ := passB_iff.1 (hp q qk)
        have ht := Nat.mod_lt (q + turn.toNat) (show 0 < n by omega)
        have w2 : IntKind.i64.wrap (sumK (fun i => A i 0) q + A q 0) = sumK (fun i => A i 0) (q + 1) := by rw [wrap_id (by omega) (by omega)]; rfl
        rw [hw3, wt, wq, tmod_nat, w2]
        simp only [Int.toNat_natCast, show q + 1 - q = 1 by omega, hN, go_sem, ↓reduceIte, Nat.reduceAdd, Nat.reduceSub, Nat.reduceMul, Nat.reduceEqDiff, Nat.reduceLT, Nat.reduceLeDiff, Int.reduceToNat, Int.reduceLE, Int.reduceLT, Int.reduceEq, Int.reduceNeg, reduceCtorEq]
        refine ⟨⟨by omega, by omega⟩, by omega, ⟨by omega, by omega⟩, ⟨by omega, by omega⟩, ⟨by omega, by omega⟩, fun e2 => ⟨⟨by omega, by omega⟩, ⟨q + 1, by omega⟩, by simp only []; omega, ?_⟩, fun e2 => ?_⟩
        · have hM0 : M q = 0 := by simp only [decide_eq_true_eq] at e2; omega
          have w3 : IntKind.i64.wrap (kpF A M q + A q 0) = kpF A M (q + 1) := by rw [wrap_id (by omega) (by omega)]; simp only [kpF, hM0, if_true]
          apply sub_of <;> simp only [w3, go_sem, ↓reduceIte, Nat.reduceAdd, Nat.reduceSub, Nat.reduceMul, Nat.reduceEqDiff, Nat.reduceLT, Nat.reduceLeDiff, Int.reduceToNat, Int.reduceLE, Int.reduceLT, Int.reduceEq, Int.reduceNeg, reduceCtorEq] <;> (try simp) <;> (try exact fun j _ => Bd_nth (by simp [BdL, Bd]) j) <;> (try exact bd_setL (by simp [bdAs, BdL, Bd])) <;> (try exact nestF_bd _ _ _ _ _ _ _ _ _)
          exact fun a b ha hb => cat2 (by rfl) (by rfl) a b ha hb
        · have hM0 : 0 < M q := by simp only [decide_eq_false_iff_not] at e2; omega
          have e3 : splE 1 (fun a => A (q + a)) (fun a => M (q + a)) (fun a => V (q + a)) h = 0 := splE_of hh (by omega) (fun i hi => by cases i with | zero => exact hp q qk | succ i => exact absurd hi (by omega))
          have e4 : splN 1 (fun a => A (q + a)) (fun a => M (q + a)) (fun a => V (q + a)) h = h.toNat := by simp [splN, e3]
          have e5 : splK 1 (fun a => A (q + a)) (fun a => M (q + a)) (fun a => V (q + a)) h = 0 := by simp [splK, e3, kpF, show ¬ M q = 0 by omega]
          have e6 : ∀ a, shrF (fun a => A (q + a)) (fun a => M (q + a)) (fun a => V (q + a)) 1 a = shV (A q 0) (M q) (V q) (M q) a := fun a => by simp [shrF]
          have e7 : (A q 0).tdiv (M q : Int) = A q 0 / M q := Int.tdiv_eq_ediv_of_nonneg (by omega)
          have hf0 : 0 ≤ A q 0 / (M q : Int) := Int.ediv_nonneg pA.1 (by omega)
          have hf1 : A q 0 / (M q : Int) ≤ A q 0 := Int.ediv_le_self _ pA.1
          have w3 : IntKind.i64.wrap (A q 0 / (M q : Int)) = A q 0 / (M q : Int) := wrap_id (by omega) (by omega)
          have hM0' : (M q : Int) ≠ 0 := by omega
          simp only [e3, e4, e5, e6, e7, w3, d2, decide_true, Bool.not_true, go_sem, ↓reduceIte, Nat.reduceAdd, Nat.reduceSub, Nat.reduceMul, Nat.reduceEqDiff, Nat.reduceLT, Nat.reduceLeDiff, Int.reduceToNat, Int.reduceLE, Int.reduceLT, Int.reduceEq, Int.reduceNeg, reduceCtorEq]
          refine ⟨⟨by omega, by omega, by omega⟩, fun i hi => by have := hM (q + i) (by omega); omega, ⟨by kernel_rfl, by kernel_rfl⟩, ⟨by omega, by omega⟩, ⟨by omega, by omega⟩, hM0', ?_⟩
          refine loop_ofH { k : Nat // k ≤ h.toNat } (fun k => [(20, .int .i64 (k.1 : Int)), (19, .int .i64 (A q 0 / (M q : Int))), (16, .row h.toNat 1 fun i x => .int .i64 (shV (A q 0) (M q) (V q) (M q) i)), (14, .vec 0 (q + 1)), (11, .int .i64 (sumK (fun i => A i 0) (q + 1))), (15, .int .i64 (q : Int)), (12, .int .i64 (kpF A M q)), (10, .int .i64 (sumK (fun i => A i 0) n)), (8, .int .i64 (kpF A M n)), (7, .row h.toNat 1 fun i x => .int .i64 (shrF A M V n i)), (2, .int .u8 turn), (1, .int .i64 h), (0, .row n 2 (nestF 1 1 A M V))]) (fun hh _ => ⟨[], [.live (q + 1) 53 2 (q + 1) (nestF 1 1 (fun i => A ((i + turn.toNat) % n)) (fun i => M ((i + turn.toNat) % n)) (fun i => V ((i + turn.toNat) % n))), getV hh.vecs 1]⟩) (fun k => h.toNat - k.1) (fun _ => ⟨rfl, rfl⟩) ⟨0, by omega⟩ (by apply sub_of <;> simp only [go_sem, ↓reduceIte, Nat.reduceAdd, Nat.reduceSub, Nat.reduceMul, Nat.reduceEqDiff, Nat.reduceLT, Nat.reduceLeDiff, Int.reduceToNat, Int.reduceLE, Int.reduceLT, Int.reduceEq, Int.reduceNeg, reduceCtorEq] <;> (try simp) <;> (try exact fun j _ => Bd_nth (by simp [BdL, Bd]) j) <;> (try exact bd_setL (by simp [bdAs, BdL, Bd])) <;> (try exact nestF_bd _ _ _ _ _ _ _ _ _); exact cat2 (by rfl) (by rfl); exact ⟨nestF_bd _ _ _ _ _ _ _ _ _, fun _ _ _ _ => one_bd _⟩) ?_
          rintro ⟨k, hk⟩
          simp only [awake_eq, visits_eq, split_eq, passes_eq, ints_eq, p7_24, nestF11_0, nestF11_1, nestF_sh, frzF_nest, nestR_lit, nsM_lit, nsV_lit, passB_ns, spl_ns, shr_ns, kp_ns, spN_ns, spK_ns, Try.f7, go_sem, ↓reduceIte, Nat.reduceAdd, Nat.reduceSub, Nat.reduceMul, Nat.reduceEqDiff, Nat.reduceLT, Nat.reduceLeDiff, Int.reduceToNat, Int.reduceLE, Int.reduceLT, Int.reduceEq, Int.reduceNeg, reduceCtorEq]
          have hw4 : IntKind.i64.wrap ((k : Int) + 1) = ((k + 1 : Nat) : Int) := by rw [wrap_id (by omega) (by omega)]; omega
          refine ⟨fun e3 => ?_, fun e3 => ?_⟩
          · simp only [decide_eq_true_eq] at e3
            refine loop_ofH { v : Nat // v ≤ M q } (fun v => [(22, .int .i64 (v.1 : Int)), (21, .int .i64 (cntV (V q) k v.1 : Nat)), (20, .int .i64 (k : Int)), (19, .int .i64 (A q 0 / (M q : Int))), (16, .row h.toNat 1 fun i x => .int .i64 (shV (A q 0) (M q) (V q) (M q) i)), (14, .vec 0 (q + 1)), (11, .int .i64 (sumK (fun i => A i 0) (q + 1))), (15, .int .i64 (q : Int)), (12, .int .i64 (kpF A M q)), (10, .int .i64 (sumK (fun i => A i 0) n)), (8, .int .i64 (kpF A M n)), (7, .row h.toNat 1 fun i x => .int .i64 (shrF A M V n i)), (2, .int .u8 turn), (1, .int .i64 h), (0, .row n 2 (nestF 1 1 A M V))]) (fun hh _ => hh) (fun v => M q - v.1) (fun _ => ⟨rfl, rfl⟩) ⟨0, by omega⟩ (by apply sub_of <;> simp only [cntV, go_sem, ↓reduceIte, Nat.reduceAdd, Nat.reduceSub, Nat.reduceMul, Nat.reduceEqDiff, Nat.reduceLT, Nat.reduceLeDiff, Int.reduceToNat, Int.reduceLE, Int.reduceLT, Int.reduceEq, Int.reduceNeg, reduceCtorEq] <;> (try simp) <;> (try exact fun j _ => Bd_nth (by simp [BdL, Bd]) j) <;> (try exact bd_setL (by simp [bdAs, BdL, Bd])) <;> (try exact nestF_bd _ _ _ _ _ _ _ _ _); exact ⟨nestF_bd _ _ _ _ _ _ _ _ _, fun _ _ _ _ => one_bd _⟩) ?_
            rintro ⟨v, hv⟩
            simp only [awake_eq, visits_eq, split_eq, passes_eq, ints_eq, p7_24, nestF11_0, nestF11_1, nestF_sh, frzF_nest, nestR_lit, nsM_lit, nsV_lit, passB_ns, spl_ns, shr_ns, kp_ns, spN_ns, spK_ns, Try.f7, go_sem, ↓reduceIte, Nat.reduceAdd, Nat.reduceSub, Nat.reduceMul, Nat.reduceEqDiff, Nat.reduceLT, Nat.reduceLeDiff, Int.reduceToNat, Int.reduceLE, Int.reduceLT, Int.reduceEq, Int.reduceNeg, reduceCtorEq]
            have hw5 : IntKind.i64.wrap ((v : Int) + 1) = ((v + 1 : Nat) : Int) := by rw [wrap_id (by omega) (by omega)]; omega
            have hcl := cntV_le (V q) (k : Int) v
            have hw6 : IntKind.i64.wrap ((cntV (V q) (k : Int) v : Int) + 1) = ((cntV (V q) (k : Int) v + 1 : Nat) : Int) := by rw [wrap_id (by omega) (by omega)]; omega
            refine ⟨⟨by omega, by omega⟩, fun e4 => ?_, fun e4 => ?_⟩
            · simp only [decide_eq_true_eq] at e4
              refine ⟨⟨by omega, by omega⟩, ⟨by omega, by omega⟩, fun e5 => ⟨⟨v + 1, by omega⟩, by simp only []; omega, ?_⟩, fun e5 => ⟨⟨v + 1, by omega⟩, by simp only []; omega, ?_⟩⟩
              · have hc : cntV (V q) (k : Int) (v + 1) = cntV (V q) (k : Int) v + 1 := by simp only [cntV, if_pos (of_decide_eq_true e5)]
                apply sub_of <;> simp only [hw5, hw6, hc, go_sem, ↓reduceIte, Nat.reduceAdd, Nat.reduceSub, Nat.reduceMul, Nat.reduceEqDiff, Nat.reduceLT, Nat.reduceLeDiff, Int.reduceToNat, Int.reduceLE, Int.reduceLT, Int.reduceEq, Int.reduceNeg, reduceCtorEq] <;> (try simp) <;> (try exact fun j _ => Bd_nth (by simp [BdL, Bd]) j) <;> (try exact bd_setL (by simp [bdAs, BdL, Bd])) <;> (try exact nestF_bd _ _ _ _ _ _ _ _ _)
                exact ⟨nestF_bd _ _ _ _ _ _ _ _ _, fun _ _ _ _ => one_bd _⟩
              · have hc : cntV (V q) (k : Int) (v + 1) = cntV (V q) (k : Int) v := by simp only [cntV, if_neg (of_decide_eq_false e5), Nat.add_zero]
                apply sub_of <;> simp only [hw5, hc, go_sem, ↓reduceIte, Nat.reduceAdd, Nat.reduceSub, Nat.reduceMul, Nat.reduceEqDiff, Nat.reduceLT, Nat.reduceLeDiff, Int.reduceToNat, Int.reduceLE, Int.reduceLT, Int.reduceEq, Int.reduceNeg, reduceCtorEq] <;> (try simp) <;> (try exact fun j _ => Bd_nth (by simp [BdL, Bd]) j) <;> (try exact bd_setL (by simp [bdAs, BdL, Bd])) <;> (try exact nestF_bd _ _ _ _ _ _ _ _ _)
                exact ⟨nestF_bd _ _ _ _ _ _ _ _ _, fun _ _ _ _ => one_bd _⟩
            simp only [decide_eq_false_iff_not] at e4
            have hvM : v = M q := by omega
            subst hvM
            obtain ⟨c1, c2⟩ := shV_cnt (P := A q 0) (m := M q) (v := V q) k (M q)
            have c3 := shV_bd (m := M q) (v := V q) pA (M q) k
            have c4 : (cntV (V q) (k : Int) (M q) : Int) * (A q 0 / (M q : Int) + 1) = (cntV (V q) (k : Int) (M q) : Int) * (A q 0 / (M q : Int)) + (cntV (V q) (k : Int) (M q) : Int) := by rw [Int.mul_add, Int.mul_one]
            have c5 : 0 ≤ (cntV (V q) (k : Int) (M q) : Int) * (A q 0 / (M q : Int)) := Int.mul_nonneg (by omega) hf0
            have wa : IntKind.i64.wrap ((cntV (V q) (k : Int) (M q) : Int) * (A q 0 / (M q : Int))) = (cntV (V q) (k : Int) (M q) : Int) * (A q 0 / (M q : Int)) := wrap_id (by omega) (by omega)
            have wb : IntKind.i64.wrap (A q 0 / (M q : Int) + 1) = A q 0 / (M q : Int) + 1 := wrap_id (by omega) (by omega)
            have wc : IntKind.i64.wrap ((cntV (V q) (k : Int) (M q) : Int) * (A q 0 / (M q : Int) + 1)) = (cntV (V q) (k : Int) (M q) : Int) * (A q 0 / (M q : Int) + 1) := by rw [c4]; exact wrap_id (by omega) (by omega)
            rw [wa, wb, wc]
            refine ⟨⟨by omega, by omega⟩, spl_f (decide_eq_false (by omega)) ⟨⟨by omega, by omega⟩, spl_f (decide_eq_false (by omega)) ⟨⟨k + 1, by omega⟩, by simp only []; omega, ?_⟩⟩⟩
            apply sub_of <;> simp only [hw4, go_sem, ↓reduceIte, Nat.reduceAdd, Nat.reduceSub, Nat.reduceMul, Nat.reduceEqDiff, Nat.reduceLT, Nat.reduceLeDiff, Int.reduceToNat, Int.reduceLE, Int.reduceLT, Int.reduceEq, Int.reduceNeg, reduceCtorEq] <;> (try simp) <;> (try exact fun j _ => Bd_nth (by simp [BdL, Bd]) j) <;> (try exact bd_setL (by simp [bdAs, BdL, Bd])) <;> (try exact nestF_bd _ _ _ _ _ _ _ _ _)
            exact ⟨nestF_bd _ _ _ _ _ _ _ _ _, fun _ _ _ _ => one_bd _⟩
          simp only [decide_eq_false_iff_not] at e3
          refine ⟨⟨q + 1, by omega⟩, by simp only []; omega, ?_⟩
          have hk1 : kpF A M (q + 1) = kpF A M q := by simp [kpF, show ¬ M q = 0 by omega]
          apply sub_of <;> simp only [hw3, hk1, go_sem, ↓reduceIte, Nat.reduceAdd, Nat.reduceSub, Nat.reduceMul, Nat.reduceEqDiff, Nat.reduceLT, Nat.reduceLeDiff, Int.reduceToNat, Int.reduceLE, Int.reduceLT, Int.reduceEq, Int.reduceNeg, reduceCtorEq] <;> (try simp) <;> (try exact fun j _ => Bd_nth (by simp [BdL, Bd]) j) <;> (try exact bd_setL (by simp [bdAs, BdL, Bd])) <;> (try exact nestF_bd _ _ _ _ _ _ _ _ _)
      simp only [decide_eq_false_iff_not] at e1
      have hqn : q = n := by omega
      subst hqn
      have hpr : ∀ i, i < q → passB h (fun i => A ((i + turn.toNat) % q)) (fun i => M ((i + turn.toNat) % q)) (fun i => V ((i + turn.toNat) % q)) i = true := fun i hi => hp _ (Nat.mod_lt _ (by omega))
      have r1 := splE_of hh hn64 hpr
      have r2 : splN q (fun i => A ((i + turn.toNat) % q)) (fun i => M ((i + turn.toNat) % q)) (fun i => V ((i + turn.toNat) % q)) h = h.toNat := by simp [splN, r1]
      have r3 : splK q (fun i => A ((i + turn.toNat) % q)) (fun i => M ((i + turn.toNat) % q)) (fun i => V ((i + turn.toNat) % q)) h = kpF A M q := by simp only [splK, r1, if_true, kp_rot]
      simp only [r1, r2, r3, shr_rot, decide_true, allU_true, Bool.and_self, go_sem, ↓reduceIte, Nat.reduceAdd, Nat.reduceSub, Nat.reduceMul, Nat.reduceEqDiff, Nat.reduceLT, Nat.reduceLeDiff, Int.reduceToNat, Int.reduceLE, Int.reduceLT, Int.reduceEq, Int.reduceNeg, reduceCtorEq]
      exact ⟨⟨by omega, fun i hi => by have := hM ((i + turn.toNat) % q) (Nat.mod_lt _ (by omega)); omega⟩, by omega, spl_t (by rw [allU_true (fun _ _ => rfl)]) trivial⟩
    · have hN : splN n A M V h = 0 := by simp [splN, hE]
      have hK : splK n A M V h = 0 := by simp [splK, hE]
      have dE : decide (splE n A M V h = 0) = false := decide_eq_false hE
      simp only [hv, hN, hK, dE, awake_eq, visits_eq, split_eq, passes_eq, ints_eq, p7_24, nestF11_0, nestF11_1, nestF_sh, frzF_nest, nestR_lit, nsM_lit, nsV_lit, passB_ns, spl_ns, shr_ns, kp_ns, spN_ns, spK_ns, Try.f7, go_sem, ↓reduceIte, Nat.reduceAdd, Nat.reduceSub, Nat.reduceMul, Nat.reduceEqDiff, Nat.reduceLT, Nat.reduceLeDiff, Int.reduceToNat, Int.reduceLE, Int.reduceLT, Int.reduceEq, Int.reduceNeg, reduceCtorEq]
      refine ⟨hpre, spl_t (by decide) ?_⟩
      rcases splE_cases n A M V h with e | e | e | e
      · exact absurd e hE
      · exact spl_t (by rw [e]; decide) trivial
      · exact spl_f (by rw [e]; decide) (spl_t (by rw [e]; decide) trivial)
      · exact spl_f (by rw [e]; decide) (spl_f (by rw [e]; decide) (spl_t (by rw [e]; decide) trivial))
end Go.Eng
end

/-
  MoneyCents: for every input the law returns true, and each argument reads afterwards as it read before. No condition.
-/
section
namespace Go.Proofs.Ytiimhkdjechkpaa.moneyCents
open Go.ChangeShapes Go.WideShapes Go.ChangeAt Go.RowKit Go.Eng
set_option linter.unusedVariables false
theorem own : ownKnob Try.prog.godebug = none := by kernel_rfl
theorem laid : laidOutB Try.prog = true := by kernel_rfl
set_option maxRecDepth 100000 in
theorem lifted (os : Os) (started : os.Started) (H : Type) (enc : TypeId × Value → H) :
    ReturnsInHanded {} Try.checked os 7 .any (Rows.moneyCentsSpec.pre6 enc Try.prog Try.f7 Rows.moneyCentsRow.domain false) (Rows.moneyCentsSpec.post enc Try.prog Try.f7 false true false false) := by
  refine returnsInHanded_of_change (C := Try.checked) own started (by kernel_rfl) Try.func7
    (ChangeSpec.witness6 (enc := enc) (C := Try.checked) false ⟨#[], #[.slice none 0 0, .int .i64 0, .int .u8 0], []⟩ 8 (by kernel_rfl) (by kernel_rfl) (by kernel_rfl) (by kernel_rfl)) ?_
  intro W base args ds gs before hval0 hW hcnd _
  have hval : ∀ (j : Nat) t v, Try.f7.params[j]? = some t → args[j]? = some v → Value.okWide Try.prog W .any base t v := hval0
  have hW' := hW
  obtain ⟨p, q, hA0, hV, rfl, hfz, hnd⟩ := hW
  have hA : DataW.TrodAll enc Try.prog W 0 (fun _ => true) true Try.f7.params.toList args.toList ds p := hA0
  rw [Try.params7] at hA hval
  obtain ⟨v0, vs0, d0, ds0, p0, q0, hargs, rfl, rfl, h0, r0⟩ := trodAll_cons hA
  obtain ⟨v1, vs1, d1, ds1, p1, q1, rfl, rfl, rfl, h1, r1⟩ := trodAll_cons r0
  obtain ⟨v2, vs2, d2, ds2, p2, q2, rfl, rfl, rfl, h2, r2⟩ := trodAll_cons r1
  obtain ⟨rfl, rfl, rfl⟩ := trodAll_nil r2
  obtain rfl : args = #[v0, v1, v2] := by cases args; simp_all
  obtain ⟨rfl, rfl⟩ := trodVars_none hV
  obtain ⟨n0, f0, e0, m0, t0⟩ := arg_row (s := [.int .i64, .sl [.int .i64]]) Try.underlying31 (by kernel_rfl) (hval 0 31 v0 rfl rfl) h0
  obtain ⟨i0, b0, c0, g0⟩ := nestR_typ (sz := 2) (k := 1) (s := 1) (by intro j hj hk; rcases (show j = 0 ∨ j = 1 by omega) with rfl | rfl <;> first | rfl | exact absurd rfl hk) rfl t0
  obtain ⟨x1, rfl, rfl, rfl, w1⟩ := open_int Try.underlying3 (hval 1 3 v1 rfl rfl) h1
  obtain ⟨x2, rfl, rfl, rfl, w2⟩ := open_int Try.underlying5 (hval 2 5 v2 rfl rfl) h2
  have hd : DenL Env.emp W [.row n0 2 f0, .int .i64 x1, .int .u8 x2] [v0, .int .i64 x1, .int .u8 x2] := ⟨e0, .int _ _, .int _ _, trivial⟩
  refine (law_calls moneyCents_base (args := [.row n0 2 f0, .int .i64 x1, .int .u8 x2]) rfl ⟨⟨rfl, i0⟩, w2⟩ (denA_of hd)).mono fun e W' ⟨he, hb⟩ => ?_
  subst he
  exact ⟨_, rfl, law_end laid rfl Try.underlying4 (by kernel_rfl) rfl hW' rfl hb⟩
theorem over : Rows.moneyCentsRow.holds Try.pinned (OpenSpec.ofChange Rows.moneyCentsSpec) :=
  OpenClaim.holds_of_wide 7 Try.f7 rfl rfl rfl rfl rfl rfl rfl ⟨rfl, rfl, rfl, rfl, rfl⟩ rfl rfl rfl rfl rfl (by kernel_rfl) Try.func7 (by kernel_rfl)
    (of_decide_eq_true (by kernel_rfl)) (by unfold Func.isWrapper; first | (rw [if_pos (by decide +kernel)]; kernel_rfl) | (rw [if_neg (by decide +kernel)]; exact ⟨rfl, rfl⟩))
    (fun os started H enc _ => lifted os started H enc)
end Go.Proofs.Ytiimhkdjechkpaa.moneyCents
namespace Go.Proofs.Ytiimhkdjechkpaa
/-- The given statement. -/
theorem moneyCents_holds : Rows.MoneyCentsSaid := moneyCents.over
#print axioms moneyCents_holds
end Go.Proofs.Ytiimhkdjechkpaa
end
