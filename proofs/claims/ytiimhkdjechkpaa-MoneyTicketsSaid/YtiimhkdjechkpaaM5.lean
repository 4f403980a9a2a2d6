/-
  A part of the symbolic machine, of its soundness, and of what functions compute. No condition.
-/
import Derived.Test.YtiimhkdjechkpaaM4
set_option linter.unusedSimpArgs false
set_option linter.unusedVariables false
/- money: all choices, one by one. -/
section
namespace Go.Eng
open Go Go.RowKit Go.Proofs
set_option maxRecDepth 100000
set_option maxHeartbeats 4000000
attribute [local irreducible] OwnT DefS
/-- The e-th choice of d kinds, each less than R. -/
def dg (R : Nat) : Nat → Nat → Nat → Nat
  | 0, _, _ => 0
  | d + 1, e, 0 => e / R ^ d
  | d + 1, e, j + 1 => dg R d (e % R ^ d) j
def entF (kinds : Nat) (G : Nat → Nat → Int) : Nat → Nat → SV := fun i _ => .row kinds 1 fun a _ => .int .i64 (G i a)
def addG (R m k d : Nat) (G : Nat → Nat → Int) (b : Nat → Int) : Nat → Nat → Int := fun i a => if i < m then G i a else if k ≤ a ∧ a < k + d then (dg R d (i - m) (a - k) : Nat) else b a
theorem entF_bd {L K kinds : Nat} {G : Nat → Nat → Int} (i j : Nat) : Bd L K (entF kinds G i j) := by
  simp only [entF, Bd]; exact fun _ _ _ _ => trivial
theorem entF_ren (B V : Nat → Nat) (kinds : Nat) (G : Nat → Nat → Int) : (fun i j => renS B V (entF kinds G i j)) = entF kinds G := rfl
theorem add_base {m k : Nat} {R : Nat} {G : Nat → Nat → Int} {b : Nat → Int} : ∀ i, i < m + 1 → catF m (entF k G) (oneF [.row k 1 fun i _ => .int .i64 (b i)]) i 0 = entF k (addG R m k 0 G b) i 0 := fun i hi => by
  by_cases h : i < m
  · simp only [catF, if_pos h, entF, addG]
  · simp only [catF, if_neg h, entF, addG, oneF, nth]
    congr 1; funext a _; rw [if_neg (by omega)]
theorem add_low {R m k d kinds : Nat} {G : Nat → Nat → Int} {b : Nat → Int} : ∀ i, i < m → entF kinds G i 0 = entF kinds (addG R m k d G b) i 0 := fun i hi => by
  simp only [entF, addG, if_pos hi]
theorem add_last {R m k d n : Nat} {G : Nat → Nat → Int} {b b' : Nat → Int} (hR : 1 ≤ R) (hb : ∀ a, b' a = if a = k then (n : Int) else b a) {i a : Nat} (hi : i < m + (n + 1) * R ^ d) :
    addG R (m + n * R ^ d) (k + 1) d (addG R m k (d + 1) G b) b' i a = addG R m k (d + 1) G b i a := by
  have hp : 0 < R ^ d := Nat.pow_pos hR
  unfold addG
  by_cases h1 : i < m + n * R ^ d
  · rw [if_pos h1]
  · rw [if_neg h1, if_neg (show ¬ i < m by omega)]
    obtain ⟨e, rfl⟩ : ∃ e, i = m + n * R ^ d + e := ⟨i - (m + n * R ^ d), by omega⟩
    have he : e < R ^ d := by rw [Nat.succ_mul] at hi; omega
    have e1 : m + n * R ^ d + e - m = e + R ^ d * n := by rw [Nat.mul_comm]; omega
    have e2 : m + n * R ^ d + e - (m + n * R ^ d) = e := by omega
    have e3 : (e + R ^ d * n) / R ^ d = n := by rw [Nat.add_mul_div_left _ _ hp, Nat.div_eq_of_lt he]; omega
    have e4 : (e + R ^ d * n) % R ^ d = e := by rw [Nat.add_mul_mod_self_left, Nat.mod_eq_of_lt he]
    rw [e1, e2]
    by_cases h2 : a = k
    · subst h2
      rw [if_neg (by omega), if_pos (by omega), hb, if_pos rfl, Nat.sub_self, dg, e3]
    · by_cases h3 : k ≤ a ∧ a < k + (d + 1)
      · obtain ⟨j, hj⟩ : ∃ j, a - k = j + 1 := ⟨a - k - 1, by omega⟩
        rw [if_pos (by omega), if_pos h3, hj, dg, e4, show a - (k + 1) = j by omega]
      · rw [if_neg (by omega), if_neg h3, hb, if_neg h2]
theorem choices_frame {kinds most : Int} {k v m M : Nat} {b : Nat → Int} {F F' : Nat → Nat → SV} (V : List Vc) (hF : ∀ i j, Bd 0 1 (F i j)) (hF' : ∀ i j, Bd 0 1 (F' i j)) (rF : (fun i j => renS (nmN []) (nmN [0]) (F i j)) = F) (rF' : (fun i j => renS (nmN []) (nmN [0]) (F' i j)) = F')
    (h : CallsS Try.prog 40 [.int .i64 kinds, .int .i64 most, .row k 1 (fun i _ => .int .i64 (b i)), .vec 0 v] ⟨[], [.live v 25 1 m F]⟩ (fun o h' => ∃ v', o = .ret (.vec 0 v') ∧ h' = ⟨[], [.live v' 25 1 M F']⟩)) :
    CallsS Try.prog 40 [.int .i64 kinds, .int .i64 most, .row k 1 (fun i _ => .int .i64 (b i)), .vec 0 v] ⟨[], .live v 25 1 m F :: V⟩ (fun o h' => ∃ v', o = .ret (.vec 0 v') ∧ h' = ⟨[], .live v' 25 1 M F' :: V⟩) := by
  have := calls_ren (h := ⟨[], .live v 25 1 m F :: V⟩) [] [0] h (by decide) (by decide) (by simp [BdL, Bd]) (by simp [bdB]) (by simp [bdV]; exact fun i _ => hF i 0) (by simp only [go_sem, ↓reduceIte, Nat.reduceAdd, Nat.reduceSub, Nat.reduceMul, Nat.reduceEqDiff, Nat.reduceLT, Nat.reduceLeDiff, Int.reduceToNat, Int.reduceLE, Int.reduceLT, Int.reduceEq, Int.reduceNeg, reduceCtorEq])
    (by simp only [matV, go_sem, ↓reduceIte, Nat.reduceAdd, Nat.reduceSub, Nat.reduceMul, Nat.reduceEqDiff, Nat.reduceLT, Nat.reduceLeDiff, Int.reduceToNat, Int.reduceLE, Int.reduceLT, Int.reduceEq, Int.reduceNeg, reduceCtorEq, rF]) (by simp) (by intro k hk; simp at hk; subst hk; simp [lenV])
    (by rintro o h' ⟨v', rfl, rfl⟩; refine ⟨rfl, rfl, by simp [bdB], by simp [bdV]; exact fun i _ => hF' i 0, by simp [bdO, Bd]⟩)
  refine calls_mono ?_ this
  rintro o h' ⟨o0, h0', ⟨v', rfl, rfl⟩, rfl, rfl⟩
  refine ⟨v', rfl, ?_⟩
  simp only [go_sem, ↓reduceIte, Nat.reduceAdd, Nat.reduceSub, Nat.reduceMul, Nat.reduceEqDiff, Nat.reduceLT, Nat.reduceLeDiff, Int.reduceToNat, Int.reduceLE, Int.reduceLT, Int.reduceEq, Int.reduceNeg, reduceCtorEq, rF']
theorem choices_calls {R kinds : Nat} (hR : 1 ≤ R ∧ R ≤ 25) (hk : kinds ≤ 6) : ∀ (d k : Nat) (b : Nat → Int) (m : Nat) (G : Nat → Nat → Int) (v : Nat), k + d = kinds → m + R ^ d ≤ 4000 →
    CallsS Try.prog 40 [.int .i64 (kinds : Int), .int .i64 ((R : Int) - 1), .row k 1 (fun i _ => .int .i64 (b i)), .vec 0 v] ⟨[], [.live v 25 1 m (entF kinds G)]⟩
      (fun o h' => ∃ v', o = .ret (.vec 0 v') ∧ h' = ⟨[], [.live v' 25 1 (m + R ^ d) (entF kinds (addG R m k d G b))]⟩) := by
  intro d
  induction d with
  | zero =>
    intro k b m G v hkd hm
    obtain rfl : k = kinds := by omega
    refine calls_trim (calls_of_run (C := cx [40] [] [] [] none) (cx_ok trivial trivial) (K := fun o h' => ∃ v' W, o = .ret (.vec 0 v') ∧ h' = ⟨[], .live v' 25 1 (m + 1) (catF m (entF k G) (oneF [.row k 1 (fun i _ => .int .i64 (b i))])) :: W⟩) rfl fn_40 rfl 1000 ?_) ?_
    · simp only [Try.f40, go_sem, ↓reduceIte, Nat.reduceAdd, Nat.reduceSub, Nat.reduceMul, Nat.reduceEqDiff, Nat.reduceLT, Nat.reduceLeDiff, Int.reduceToNat, Int.reduceLE, Int.reduceLT, Int.reduceEq, Int.reduceNeg, reduceCtorEq]
      simp only [Nat.pow_zero] at hm
      exact ⟨⟨by omega, by omega⟩, _, _, rfl, rfl⟩
    · rintro o h' ⟨v', W, rfl, rfl⟩
      refine ⟨.vec 0 v', .vec 0 v', ⟨[], [.live v' 25 1 (m + R ^ 0) (entF k (addG R m k 0 G b))]⟩, ⟨rfl, v', rfl, rfl⟩, ⟨?_, ?_, ?_, ?_, ?_, ?_⟩, ⟨?_, ?_⟩, ⟨?_, ?_⟩⟩ <;> simp only [go_sem, ↓reduceIte, Nat.reduceAdd, Nat.reduceSub, Nat.reduceMul, Nat.reduceEqDiff, Nat.reduceLT, Nat.reduceLeDiff, Int.reduceToNat, Int.reduceLE, Int.reduceLT, Int.reduceEq, Int.reduceNeg, reduceCtorEq, Nat.pow_zero] <;> (try simp)
      · exact add_base
      · exact fun i _ => entF_bd i 0
  | succ d ih =>
    intro k b m G v hkd hm
    have hp : 0 < R ^ d := Nat.pow_pos (by omega)
    refine calls_trim (calls_of_run (C := cx [40] [] [] [] none) (cx_ok trivial trivial) (K := fun o h' => ∃ v' W, o = .ret (.vec 0 v') ∧ h' = ⟨[], .live v' 25 1 (m + R ^ (d + 1)) (entF kinds (addG R m k (d + 1) G b)) :: W⟩) rfl fn_40 rfl 1000 ?_) ?_
    · simp only [Try.f40, go_sem, ↓reduceIte, Nat.reduceAdd, Nat.reduceSub, Nat.reduceMul, Nat.reduceEqDiff, Nat.reduceLT, Nat.reduceLeDiff, Int.reduceToNat, Int.reduceLE, Int.reduceLT, Int.reduceEq, Int.reduceNeg, reduceCtorEq]
      refine ⟨fun e => by simp at e; omega, fun _ => ?_⟩
      refine loop_of { x : Nat × Nat // x.1 ≤ R } (fun x => [(9, .int .i64 (x.1.1 : Int)), (3, .vec 0 x.1.2), (2, .row k 1 fun i _ => .int .i64 (b i)), (1, .int .i64 ((R : Int) - 1)), (0, .int .i64 (kinds : Int))]) (fun x => ⟨[], [.live x.1.2 25 1 (m + x.1.1 * R ^ d) (entF kinds (addG R m k (d + 1) G b)), .dead]⟩) (fun x => R - x.1.1) (fun _ => ⟨rfl, rfl⟩) ⟨(0, v), by omega⟩ (by apply sub_of <;> simp only [Nat.zero_mul, Nat.add_zero, go_sem, ↓reduceIte, Nat.reduceAdd, Nat.reduceSub, Nat.reduceMul, Nat.reduceEqDiff, Nat.reduceLT, Nat.reduceLeDiff, Int.reduceToNat, Int.reduceLE, Int.reduceLT, Int.reduceEq, Int.reduceNeg, reduceCtorEq] <;> (try simp) <;> (try exact fun j _ => Bd_nth (by simp [BdL, Bd]) j) <;> (try exact bd_setL (by simp [bdAs, BdL, Bd])) <;> (try exact nestF_bd _ _ _ _ _ _ _ _ _) <;> first | exact add_low | exact fun i _ => entF_bd i 0) ?_
      rintro ⟨⟨n, u⟩, hn⟩
      simp only [Try.f40, go_sem, ↓reduceIte, Nat.reduceAdd, Nat.reduceSub, Nat.reduceMul, Nat.reduceEqDiff, Nat.reduceLT, Nat.reduceLeDiff, Int.reduceToNat, Int.reduceLE, Int.reduceLT, Int.reduceEq, Int.reduceNeg, reduceCtorEq]
      have hp2 : m + n * R ^ d + R ^ d ≤ m + R ^ (d + 1) ∨ R ≤ n := by
        rcases Nat.lt_or_ge n R with h | h
        · left
          have := Nat.mul_le_mul_right (R ^ d) (show n + 1 ≤ R from h)
          rw [Nat.succ_mul] at this
          rw [Nat.pow_succ, Nat.mul_comm (R ^ d)]
          omega
        · exact .inr h
      refine ⟨fun e1 => ?_, fun e1 => ?_⟩
      · simp only [decide_eq_true_eq] at e1
        have hnR : n < R := by omega
        have hpl : (n + 1) * R ^ d = n * R ^ d + R ^ d := Nat.succ_mul _ _
        have hw : IntKind.i64.wrap ((n : Int) + 1) = ((n + 1 : Nat) : Int) := by rw [wrap_id (by omega) (by omega)]; omega
        refine ⟨⟨by omega, by omega⟩, ⟨by omega, by omega⟩, ?_⟩
        unfold callS
        have hcall := choices_frame [.dead, .dead, .live 0 3 1 1 (oneF [.int .i64 (n : Int)])] (fun i j => entF_bd i j) (fun i j => entF_bd i j) (entF_ren _ _ _ _) (entF_ren _ _ _ _) (ih (k + 1) (fun a => if a = k then (n : Int) else b a) (m + n * R ^ d) (addG R m k (d + 1) G b) u (by omega) (by omega))
        refine calls_mono ?_ (calls_give (l1 := [.int .i64 (kinds : Int), .int .i64 ((R : Int) - 1)]) (l2 := [.vec 0 u]) (id := 2) (ver := 2) rfl (calls_pre ?_ rfl rfl hcall))
        · rintro o h' ⟨v', rfl, rfl⟩
          simp only [Try.f40, go_sem, ↓reduceIte, Nat.reduceAdd, Nat.reduceSub, Nat.reduceMul, Nat.reduceEqDiff, Nat.reduceLT, Nat.reduceLeDiff, Int.reduceToNat, Int.reduceLE, Int.reduceLT, Int.reduceEq, Int.reduceNeg, reduceCtorEq]
          refine ⟨⟨(n + 1, v'), by simp only []; omega⟩, by simp only []; omega, ?_⟩
          apply sub_of <;> simp only [hw, go_sem, ↓reduceIte, Nat.reduceAdd, Nat.reduceSub, Nat.reduceMul, Nat.reduceEqDiff, Nat.reduceLT, Nat.reduceLeDiff, Int.reduceToNat, Int.reduceLE, Int.reduceLT, Int.reduceEq, Int.reduceNeg, reduceCtorEq] <;> (try simp)
          · refine ⟨by omega, fun i hi => ?_⟩
            simp only [entF]
            congr 1; funext a _
            rw [add_last hR.1 (fun a => rfl) hi]
          · exact fun i _ => entF_bd i 0
        · refine ⟨?_, ?_, ?_, ?_, ?_, ?_⟩ <;> simp only [List.cons_append, List.nil_append, go_sem, ↓reduceIte, Nat.reduceAdd, Nat.reduceSub, Nat.reduceMul, Nat.reduceEqDiff, Nat.reduceLT, Nat.reduceLeDiff, Int.reduceToNat, Int.reduceLE, Int.reduceLT, Int.reduceEq, Int.reduceNeg, reduceCtorEq] <;> (try simp)
          · intro i hi
            simp only [catF, oneF, nth]
            by_cases h : i < k
            · rw [if_pos h, if_neg (by omega), if_neg (by omega)]; rfl
            · rw [if_neg h, if_pos (by omega)]
          · exact ⟨fun i _ => entF_bd i 0, trivial⟩
      · simp only [decide_eq_false_iff_not] at e1
        have hnR : n = R := by simp only [] at hn; omega
        subst hnR
        refine ⟨u, [.dead], rfl, ?_⟩
        rw [Nat.pow_succ, Nat.mul_comm (n ^ d)]
    · rintro o h' ⟨v', W, rfl, rfl⟩
      refine ⟨.vec 0 v', .vec 0 v', ⟨[], [.live v' 25 1 (m + R ^ (d + 1)) (entF kinds (addG R m k (d + 1) G b))]⟩, ⟨rfl, v', rfl, rfl⟩, ⟨?_, ?_, ?_, ?_, ?_, ?_⟩, ⟨?_, ?_⟩, ⟨?_, ?_⟩⟩ <;> simp only [go_sem, ↓reduceIte, Nat.reduceAdd, Nat.reduceSub, Nat.reduceMul, Nat.reduceEqDiff, Nat.reduceLT, Nat.reduceLeDiff, Int.reduceToNat, Int.reduceLE, Int.reduceLT, Int.reduceEq, Int.reduceNeg, reduceCtorEq] <;> (try simp)
      exact fun i _ => entF_bd i 0
end Go.Eng
end

/- money: the best of all choices is the best choice. -/
section
namespace Go.Eng
open Go Go.RowKit Go.Proofs
set_option maxRecDepth 100000
set_option maxHeartbeats 4000000
attribute [local irreducible] OwnT DefS
theorem dg_lt {R : Nat} : ∀ {d e j : Nat}, e < R ^ d → j < d → dg R d e j < R
  | 0, _, _, _, hj => absurd hj (by omega)
  | d + 1, e, 0, he, _ => by
    simp only [dg]
    exact Nat.div_lt_of_lt_mul (by rw [Nat.pow_succ] at he; exact he)
  | d + 1, e, j + 1, he, hj => by
    simp only [dg]
    have hp : 0 < R ^ d := by
      rcases Nat.eq_zero_or_pos R with h | h
      · subst h; simp at he
      · exact Nat.pow_pos h
    exact dg_lt (Nat.mod_lt _ hp) (by omega)
theorem dg_sur {R : Nat} (hR : 0 < R) : ∀ (d : Nat) (c : Nat → Nat), (∀ j, j < d → c j < R) → ∃ e, e < R ^ d ∧ ∀ j, j < d → dg R d e j = c j
  | 0, _, _ => ⟨0, by simp, fun j hj => absurd hj (by omega)⟩
  | d + 1, c, hc => by
    obtain ⟨e, he, hd⟩ := dg_sur hR d (fun j => c (j + 1)) (fun j hj => hc (j + 1) (by omega))
    have hp : 0 < R ^ d := Nat.pow_pos hR
    refine ⟨e + R ^ d * c 0, ?_, fun j hj => ?_⟩
    · have := Nat.mul_le_mul_left (R ^ d) (show c 0 + 1 ≤ R from hc 0 (by omega))
      rw [Nat.mul_succ] at this
      rw [Nat.pow_succ]
      omega
    · cases j with
      | zero => simp only [dg]; rw [Nat.add_mul_div_left _ _ hp, Nat.div_eq_of_lt he]; omega
      | succ j =>
        simp only [dg]
        rw [Nat.add_mul_mod_self_left, Nat.mod_eq_of_lt he]
        exact hd j (by omega)
theorem dg_lex {R : Nat} : ∀ {d e e' : Nat}, e < e' → e' < R ^ d → ∃ i, i < d ∧ (∀ j, j < i → dg R d e j = dg R d e' j) ∧ dg R d e i < dg R d e' i
  | 0, e, e', h, h' => by simp at h'; omega
  | d + 1, e, e', h, h' => by
    have hp : 0 < R ^ d := by
      rcases Nat.eq_zero_or_pos R with h0 | h0
      · subst h0; simp at h'
      · exact Nat.pow_pos h0
    have hq := Nat.div_le_div_right (c := R ^ d) (Nat.le_of_lt h)
    rcases Nat.lt_or_ge (e / R ^ d) (e' / R ^ d) with hl | hl
    · exact ⟨0, by omega, fun j hj => absurd hj (by omega), by simp only [dg]; exact hl⟩
    · have he : e / R ^ d = e' / R ^ d := by omega
      have h1 := Nat.div_add_mod e (R ^ d)
      have h2 := Nat.div_add_mod e' (R ^ d)
      rw [he] at h1
      obtain ⟨i, hi, hb, hlt⟩ := dg_lex (R := R) (d := d) (e := e % R ^ d) (e' := e' % R ^ d) (by omega) (Nat.mod_lt _ hp)
      refine ⟨i + 1, by omega, fun j hj => ?_, by simp only [dg]; exact hlt⟩
      cases j with
      | zero => simp only [dg]; exact he
      | succ j => simp only [dg]; exact hb j (by omega)
theorem own_le {l : Nat → Nat → Int} {n : Nat} : ∀ (k : Nat) (a p : Int), 0 ≤ a → 0 ≤ p → 0 ≤ (best l n k a p).own ∧ (best l n k a p).own ≤ max a p
  | 0, a, p, ha, hp => by simp only [best]; omega
  | k + 1, a, p, ha, hp => by
    simp only [best]
    refine pickA_all (P := fun A => 0 ≤ A.own ∧ A.own ≤ max a p) (by simp only []; omega) _ (fun i hi => ?_)
    simp only [candA]; omega
theorem wkA_le {l : Nat → Nat → Int} {n : Nat} (hl : ∀ i, i < n → tkB (l i) = true) {a p : Int} (ha : 0 ≤ a) (hp : 0 ≤ p) : ∀ i, i ≤ n → (0 ≤ (wkA l n a p i).1 ∧ (wkA l n a p i).1 ≤ a) ∧ (0 ≤ (wkA l n a p i).2 ∧ (wkA l n a p i).2 ≤ p)
  | 0, _ => by simp only [wkA]; omega
  | i + 1, hi => by
    obtain ⟨h1, h2⟩ := wkA_le hl ha hp i (by omega)
    obtain ⟨t1, t2, t3⟩ := tkB_iff.1 (hl i (by omega))
    have ho := (own_le (l := l) (n := n) (n - i) _ _ h1.1 h2.1).1
    have q1 := Int.mul_nonneg ho t1.1
    have q2 := Int.mul_nonneg ho (show 0 ≤ l i 0 + l i 1 by omega)
    simp only [wkA]
    omega
theorem chA_le {l : Nat → Nat → Int} {n : Nat} (hl : ∀ i, i < n → tkB (l i) = true) {a ch : Int} (ha : 0 ≤ a) (hc : 0 ≤ ch) {i : Nat} (hi : i < n) : 0 ≤ chA l n a (a + ch) i ∧ chA l n a (a + ch) i ≤ a + ch := by
  obtain ⟨h1, h2⟩ := wkA_le hl ha (show 0 ≤ a + ch by omega) i (by omega)
  have := own_le (l := l) (n := n) (n - i) _ _ h1.1 h2.1
  unfold chA
  omega
/-- The e-th choice, looked at. -/
def enA (l : Nat → Nat → Int) (n R : Nat) (a ch : Int) (e : Int) : Ans :=
  ⟨admB n l (fun i _ => (dg R n e.toNat i : Nat)) a ch, e, sumK (fun i => (dg R n e.toNat i : Nat) * l i 2) n, sumK (fun i => (dg R n e.toNat i : Nat)) n⟩
theorem enum_best {l : Nat → Nat → Int} {n R : Nat} {a ch : Int} (hl : ∀ i, i < n → tkB (l i) = true) (ha : 0 ≤ a ∧ a ≤ 12) (hc : 0 ≤ ch ∧ ch ≤ 12) (hR : (R : Int) = a + ch + 1) (hn : n ≤ 6) :
    (pickA (enA l n R a ch) (R ^ n)).is = (best l n n a (a + ch)).is ∧
      ((best l n n a (a + ch)).is = true → ∃ j : Nat, j < R ^ n ∧ pickA (enA l n R a ch) (R ^ n) = enA l n R a ch (j : Int) ∧ (∀ i, i < n → (dg R n j i : Int) = chA l n a (a + ch) i)) := by
  have hopt : ∀ j : Nat, (enA l n R a ch (j : Int)).is = true → (best l n n a (a + ch)).is = true ∧ (best l n n a (a + ch)).le (enA l n R a ch (j : Int)) := fun j hj => by
    simp only [enA, Int.toNat_natCast, admB, Bool.and_eq_true, decide_eq_true_eq] at hj
    have := best_opt hl (fun i => (dg R n j i : Nat)) (fun i _ => by omega) n a (a + ch) (Nat.le_refl _) (by omega) (by omega) (by rw [sumT_all]; exact hj.1) (by rw [sumT_all]; exact hj.2)
    refine ⟨this.1, ?_⟩
    have h2 := this.2
    simp only [sumT_all, Ans.le] at h2
    simp only [enA, Int.toNat_natCast, Ans.le]
    exact h2
  cases hb : (best l n n a (a + ch)).is with
  | false =>
    refine ⟨?_, fun h => by cases h⟩
    rcases pick_spec (enA l n R a ch) (R ^ n) with ⟨h, _⟩ | ⟨j, _, h1, h2, _, _⟩
    · exact h
    · have := (hopt j h2).1
      rw [hb] at this; cases this
  | true =>
    have hE := chp_of (a := a) (ch := ch) hn hl ha hc hb
    obtain ⟨s1, s2, s3, s4, s5⟩ := chp_sum hE
    have hP := (chp_ok hE).2.2.2.2.2.2
    simp only [sumT_all] at s2 s3 s4 s5
    obtain ⟨e, he, hd⟩ := dg_sur (R := R) (by omega) n (fun i => (chA l n a (a + ch) i).toNat) (fun i hi => by have := chA_le hl ha.1 hc.1 hi; omega)
    have hd' : ∀ i, i < n → ((dg R n e i : Nat) : Int) = chA l n a (a + ch) i := fun i hi => by rw [hd i hi]; have := chA_le hl ha.1 hc.1 hi; omega
    have e1 : sumK (fun i => ((dg R n e i : Nat) : Int) * l i 0) n = sumK (fun i => chA l n a (a + ch) i * l i 0) n := sumK_congr fun i hi => by rw [hd' i hi]
    have e2 : sumK (fun i => ((dg R n e i : Nat) : Int) * (l i 0 + l i 1)) n = sumK (fun i => chA l n a (a + ch) i * (l i 0 + l i 1)) n := sumK_congr fun i hi => by rw [hd' i hi]
    have e3 : sumK (fun i => ((dg R n e i : Nat) : Int) * l i 2) n = sumK (fun i => chA l n a (a + ch) i * l i 2) n := sumK_congr fun i hi => by rw [hd' i hi]
    have e4 : sumK (fun i => ((dg R n e i : Nat) : Int)) n = sumK (chA l n a (a + ch)) n := sumK_congr fun i hi => by rw [hd' i hi]
    have hise : (enA l n R a ch (e : Int)).is = true := by
      simp only [enA, Int.toNat_natCast, admB, Bool.and_eq_true, decide_eq_true_eq, e1, e2]
      exact ⟨s2, s3⟩
    rcases pick_spec (enA l n R a ch) (R ^ n) with ⟨_, h⟩ | ⟨j, hj, h1, h2, h3, h4⟩
    · have := h e he
      rw [hise] at this; cases this
    · refine ⟨by rw [h1]; exact h2, fun _ => ⟨j, hj, h1, ?_⟩⟩
      have k1 := h3 e he hise
      have k2 := (hopt j h2).2
      have k3 : (enA l n R a ch (e : Int)).price = (best l n n a (a + ch)).price ∧ (enA l n R a ch (e : Int)).num = (best l n n a (a + ch)).num := by
        simp only [enA, Int.toNat_natCast, e3, e4]
        omega
      simp only [Ans.le] at k1 k2
      have kp : (enA l n R a ch (j : Int)).price = (enA l n R a ch (e : Int)).price ∧ (enA l n R a ch (j : Int)).num = (enA l n R a ch (e : Int)).num := by omega
      rcases Nat.lt_trichotomy j e with h | h | h
      · exfalso
        obtain ⟨i, hi, hbef, hlt⟩ := dg_lex h he
        simp only [enA, Int.toNat_natCast, admB, Bool.and_eq_true, decide_eq_true_eq] at h2
        simp only [enA, Int.toNat_natCast, e3, e4] at kp
        refine best_first hl (a := a) (p := a + ch) (by omega) (by omega) hb (c := fun i => (dg R n j i : Nat)) (fun i _ => by omega) (by rw [sumT_all]; exact h2.1) (by rw [sumT_all]; exact h2.2) (by rw [sumT_all, sumT_all]; exact kp.1) (by rw [sumT_all, sumT_all]; exact kp.2) i hi (fun x hx => ?_) ?_
        · rw [hbef x hx]; exact hd' x (by omega)
        · rw [← hd' i hi]; omega
      · subst h; exact hd'
      · exfalso
        have := h4 e h hise
        simp only [Ans.lt] at this
        omega
end Go.Eng
end

/- money: the reference's cheapest tickets. -/
section
namespace Go.Eng
open Go Go.RowKit Go.Proofs
set_option maxRecDepth 100000
set_option maxHeartbeats 4000000
attribute [local irreducible] OwnT DefS
/-- The e-th choice. -/
def cE (R n : Nat) : Nat → Nat → Int := addG R 0 0 n (fun _ _ => 0) (fun _ => 0)
theorem cE_dg {R n e i : Nat} (hi : i < n) : cE R n e i = (dg R n e i : Nat) := by
  simp only [cE, addG]
  rw [if_neg (by omega), if_pos (by omega)]
  simp
theorem sumK_cE {R n e : Nat} {f : Int → Nat → Int} : sumK (fun i => f (cE R n e i) i) n = sumK (fun i => f ((dg R n e i : Nat) : Int) i) n := sumK_congr fun i hi => by rw [cE_dg hi]
theorem entF_at (kinds : Nat) (G : Nat → Nat → Int) (i j : Nat) : entF kinds G i j = .row kinds 1 fun a _ => .int .i64 (G i a) := rfl
theorem enA_c (l : Nat → Nat → Int) (n R : Nat) (a ch : Int) (e : Nat) : enA l n R a ch (e : Int) = ⟨admB n l (fun i _ => cE R n e i) a ch, e, sumK (fun i => cE R n e i * l i 2) n, sumK (fun i => cE R n e i) n⟩ := by
  simp only [enA, Int.toNat_natCast, admB]
  rw [sumK_cE (f := fun c i => c * l i 0), sumK_cE (f := fun c i => c * (l i 0 + l i 1)), sumK_cE (f := fun c i => c * l i 2), sumK_cE (f := fun c _ => c)]
theorem choices_top {R n : Nat} (hR : 1 ≤ R ∧ R ≤ 25) (hn : n ≤ 6) (hT : R ^ n ≤ 4000) :
    CallsS Try.prog 40 [.int .i64 (n : Int), .int .i64 ((R : Int) - 1), .row 0 1 (fun _ _ => .any), .vec 1 0] ⟨[], [.live 0 3 1 0 (fun _ _ => .any), .live 0 25 1 0 (fun _ _ => .any)]⟩
      (fun o h' => ∃ v', o = .ret (.vec 1 v') ∧ h' = ⟨[], [.live 0 3 1 0 (fun _ _ => .any), .live v' 25 1 (R ^ n) (entF n (cE R n))]⟩) := by
  have h := choices_calls (kinds := n) hR hn n 0 (fun _ => 0) 0 (fun _ _ => 0) 0 (by omega) (by omega)
  rw [Nat.zero_add] at h
  have := calls_ren (h := ⟨[], [.live 0 3 1 0 (fun _ _ => .any), .live 0 25 1 0 (entF n fun _ _ => 0)]⟩) [] [1] h (by decide) (by decide) (by simp [BdL, Bd]) (by simp [bdB]) (by simp [bdV]) (by simp only [go_sem, ↓reduceIte, Nat.reduceAdd, Nat.reduceSub, Nat.reduceMul, Nat.reduceEqDiff, Nat.reduceLT, Nat.reduceLeDiff, Int.reduceToNat, Int.reduceLE, Int.reduceLT, Int.reduceEq, Int.reduceNeg, reduceCtorEq])
    (by simp only [matV, go_sem, ↓reduceIte, Nat.reduceAdd, Nat.reduceSub, Nat.reduceMul, Nat.reduceEqDiff, Nat.reduceLT, Nat.reduceLeDiff, Int.reduceToNat, Int.reduceLE, Int.reduceLT, Int.reduceEq, Int.reduceNeg, reduceCtorEq, entF_ren]) (by simp) (by intro k hk; simp at hk; subst hk; simp [lenV])
    (by rintro o h' ⟨v', rfl, rfl⟩; refine ⟨rfl, rfl, by simp [bdB], by simp [bdV]; exact fun i _ => entF_bd i 0, by simp [bdO, Bd]⟩)
  refine calls_mono ?_ (calls_pre (args' := [.int .i64 (n : Int), .int .i64 ((R : Int) - 1), .row 0 1 (fun _ _ => .int .i64 0), .vec 1 0]) (h' := ⟨[], [.live 0 3 1 0 (fun _ _ => .any), .live 0 25 1 0 (entF n fun _ _ => 0)]⟩) ?_ rfl rfl this)
  · rintro o h' ⟨o0, h0', ⟨v', rfl, rfl⟩, rfl, rfl⟩
    refine ⟨v', rfl, ?_⟩
    simp only [go_sem, ↓reduceIte, Nat.reduceAdd, Nat.reduceSub, Nat.reduceMul, Nat.reduceEqDiff, Nat.reduceLT, Nat.reduceLeDiff, Int.reduceToNat, Int.reduceLE, Int.reduceLT, Int.reduceEq, Int.reduceNeg, reduceCtorEq, entF_ren]
    rfl
  · refine ⟨?_, ?_, ?_, ?_, ?_, ?_⟩ <;> simp only [go_sem, ↓reduceIte, Nat.reduceAdd, Nat.reduceSub, Nat.reduceMul, Nat.reduceEqDiff, Nat.reduceLT, Nat.reduceLeDiff, Int.reduceToNat, Int.reduceLE, Int.reduceLT, Int.reduceEq, Int.reduceNeg, reduceCtorEq] <;> (try simp)
/-- What the reference returns. -/
def RefK (n : Nat) (l : Nat → Nat → Int) (a ch : Int) : Out → HS → Prop := fun o h' =>
  (chpE n l a ch = 0 ∧ ∃ (V : List Vc) (f : Nat → Int), (∀ i, i < n → f i = chA l n a (a + ch) i) ∧ o = .ret (.tup [.row n 1 (fun i _ => .int .i64 (f i)), .int .i64 (chpP n l a ch), .int .i64 0]) ∧ h' = ⟨[], V⟩) ∨
    (chpE n l a ch ≠ 0 ∧ ∃ (V : List Vc) (id : Nat), getV V id = .live 0 3 1 0 (fun _ _ => .any) ∧ o = .ret (.tup [.vec id 0, .int .i64 0, .int .i64 (chpE n l a ch)]) ∧ h' = ⟨[], V⟩)
theorem cheapestR_calls {n : Nat} {l : Nat → Nat → Int} {a ch : Int} (hn8 : n ≤ 8) (hpw : chpV n l a ch = true → (in3 a 0 12 && in3 ch 0 12) = true → (a + ch + 1).toNat ^ n ≤ 3000) :
    CallsS Try.prog 13 [.row n 3 (fun i j => .int .i64 (l i j)), .int .i64 a, .int .i64 ch] ⟨[], []⟩ (RefK n l a ch) := by
  refine calls_of_run (C := cx [40] [] [(24, ticketsBase), (39, inBase), (25, admitsBase), (26, priceBase)] [] none) (cx_ok trivial ⟨tickets_base, in_base, admits_base, price_base, trivial⟩) rfl fn_13 rfl 1000 ?_
  simp only [Try.f13, tickets_eq, in_eq, admits_eq, price_eq, go_sem, ↓reduceIte, Nat.reduceAdd, Nat.reduceSub, Nat.reduceMul, Nat.reduceEqDiff, Nat.reduceLT, Nat.reduceLeDiff, Int.reduceToNat, Int.reduceLE, Int.reduceLT, Int.reduceEq, Int.reduceNeg, reduceCtorEq]
  refine ⟨by omega, fun e1 => ?_, fun e1 => ⟨fun e2 => ?_, fun e2 => ⟨fun e3 => ?_, fun e3 => ?_⟩⟩⟩
  · have hE : chpE n l a ch = 1 := by
      have hf : (decide (n ≤ 6) && allU (tkBl l) n) = false := by rw [Bool.and_comm]; simpa only [Bool.not_eq_true'] using e1
      simp only [chpE, chpV, hf, Bool.false_eq_true, if_false]
    exact Or.inr ⟨by omega, _, _, rfl, by rw [hE], rfl⟩
  · have hV : chpV n l a ch = true := by simp only [chpV]; rw [Bool.and_comm]; simpa using e1
    have hE : chpE n l a ch = 2 := by
      simp only [chpE, hV, if_true]
      rw [if_neg]
      simp at e2; simp [e2]
    exact Or.inr ⟨by omega, _, _, rfl, by rw [hE], rfl⟩
  · have hV : chpV n l a ch = true := by simp only [chpV]; rw [Bool.and_comm]; simpa using e1
    have hE : chpE n l a ch = 2 := by
      simp only [chpE, hV, if_true]
      rw [if_neg]
      simp at e3; simp [e3]
    exact Or.inr ⟨by omega, _, _, rfl, by rw [hE], rfl⟩
  · have hV : chpV n l a ch = true := by simp only [chpV]; rw [Bool.and_comm]; simpa using e1
    have hI : (in3 a 0 12 && in3 ch 0 12) = true := by simp at e2 e3; simp [e2, e3]
    have hT := hpw hV hI
    obtain ⟨ha, hc⟩ : (0 ≤ a ∧ a ≤ 12) ∧ 0 ≤ ch ∧ ch ≤ 12 := by simpa [in3_iff] using hI
    obtain ⟨hn, hl⟩ : n ≤ 6 ∧ ∀ i, i < n → tkB (l i) = true := by simpa [chpV, allU_iff, tkBl] using hV
    have wR : IntKind.i64.wrap (a + ch) = (((a + ch + 1).toNat : Nat) : Int) - 1 := by rw [wrap_id (by omega) (by omega)]; omega
    have hRR : (((a + ch + 1).toNat : Nat) : Int) = a + ch + 1 := by omega
    generalize (a + ch + 1).toNat = R at hT wR hRR
    have hR : 1 ≤ R ∧ R ≤ 25 := by omega
    rw [wR]
    unfold callS
    refine calls_mono ?_ (choices_top hR hn (by omega))
    rintro o h' ⟨v', rfl, rfl⟩
    obtain ⟨b1, b2⟩ := enum_best hl ha hc hRR hn
    generalize hT' : R ^ n = T at hT b1 b2
    simp only [Try.f13, tickets_eq, in_eq, admits_eq, price_eq, go_sem, ↓reduceIte, Nat.reduceAdd, Nat.reduceSub, Nat.reduceMul, Nat.reduceEqDiff, Nat.reduceLT, Nat.reduceLeDiff, Int.reduceToNat, Int.reduceLE, Int.reduceLT, Int.reduceEq, Int.reduceNeg, reduceCtorEq]
    have hRT : ∀ e i, e < T → i < n → 0 ≤ cE R n e i ∧ cE R n e i ≤ 100 := fun e i he hi => by
      rw [cE_dg hi]
      have := dg_lt (R := R) (d := n) (e := e) (j := i) (by omega) hi
      omega
    generalize hf : enA l n R a ch = f at b1 b2
    have hfe : ∀ e : Nat, f (e : Int) = ⟨admB n l (fun i _ => cE R n e i) a ch, e, sumK (fun i => cE R n e i * l i 2) n, sumK (fun i => cE R n e i) n⟩ := fun e => by rw [← hf]; exact enA_c l n R a ch e
    have hbt : ∀ x y : Ans, x.is = false → x.better y = false := fun x y h => by simp [Ans.better, h]
    refine loop_of { x : Nat × Bool // x.1 ≤ T ∧ (pickA f x.1).is = x.2 } (fun x => [(14, .int .i64 (x.1.1 : Int)), (13, .int .i64 (pickA f x.1.1).num), (12, .int .i64 (pickA f x.1.1).price), (11, .bool x.1.2), (10, bif x.1.2 then .row n 1 (fun i _ => .int .i64 (cE R n (pickA f x.1.1).own.toNat i)) else .vec 2 0), (9, .vec 1 v'), (2, .int .i64 ch), (1, .int .i64 a), (0, .row n 3 fun i j => .int .i64 (l i j))]) (fun _ => ⟨[], [.live 0 3 1 0 fun _ _ => .any, .live v' 25 1 T (entF n (cE R n)), .live 0 3 1 0 fun _ _ => .any]⟩) (fun x => T - x.1.1) (fun _ => ⟨rfl, rfl⟩) ⟨(0, false), by omega, rfl⟩ (by apply sub_of <;> simp only [pickA, cond_false, go_sem, ↓reduceIte, Nat.reduceAdd, Nat.reduceSub, Nat.reduceMul, Nat.reduceEqDiff, Nat.reduceLT, Nat.reduceLeDiff, Int.reduceToNat, Int.reduceLE, Int.reduceLT, Int.reduceEq, Int.reduceNeg, reduceCtorEq] <;> (try simp); all_goals exact fun i _ => entF_bd i 0) ?_
    rintro ⟨⟨e, b⟩, he, hb⟩
    simp only at he hb
    cases b
    all_goals simp only [Try.f13, cond_true, cond_false, entF_at, tickets_eq, in_eq, admits_eq, price_eq, go_sem, ↓reduceIte, Nat.reduceAdd, Nat.reduceSub, Nat.reduceMul, Nat.reduceEqDiff, Nat.reduceLT, Nat.reduceLeDiff, Int.reduceToNat, Int.reduceLE, Int.reduceLT, Int.reduceEq, Int.reduceNeg, reduceCtorEq]
    all_goals have hw3 : IntKind.i64.wrap ((e : Int) + 1) = ((e + 1 : Nat) : Int) := by rw [wrap_id (by omega) (by omega)]; omega
    all_goals have hno : admB n l (fun i _ => cE R n e i) a ch = false → pickA f (e + 1) = pickA f e := fun h => by
                simp only [pickA]
                rw [if_neg]
                rw [hbt _ _ (by rw [hfe]; exact h)]
                simp
    · refine ⟨fun e4 => ?_, fun e4 => ?_⟩
      · simp only [decide_eq_true_eq] at e4
        have heT : e < T := by omega
        refine ⟨⟨by omega, by omega⟩, heT, ⟨by omega, by omega, by omega, by omega, hl, fun i hi => hRT e i heT hi⟩, fun e5 => ?_, fun e5 => ?_⟩
        · simp only [Bool.not_eq_true'] at e5
          have hp := hno e5
          refine ⟨⟨(e + 1, false), by simp only []; omega, by rw [hp]; exact hb⟩, by simp only []; omega, ?_⟩
          apply sub_of <;> simp only [hw3, hp, cond_false, go_sem, ↓reduceIte, Nat.reduceAdd, Nat.reduceSub, Nat.reduceMul, Nat.reduceEqDiff, Nat.reduceLT, Nat.reduceLeDiff, Int.reduceToNat, Int.reduceLE, Int.reduceLT, Int.reduceEq, Int.reduceNeg, reduceCtorEq] <;> (try simp)
          all_goals exact fun i _ => entF_bd i 0
        · simp only [Bool.not_eq_false'] at e5
          have hp : pickA f (e + 1) = f (e : Int) := by
            simp only [pickA]
            rw [if_pos (better_iff.2 ⟨by rw [hfe]; exact e5, .inl hb⟩)]
          have hp' := hp.trans (hfe e)
          refine ⟨⟨by omega, by omega⟩, heT, ⟨by omega, by omega, hl, fun i hi => hRT e i heT hi⟩, ⟨by omega, by omega⟩, heT, ⟨(e + 1, true), by simp only []; omega, by rw [hp']; exact e5⟩, by simp only []; omega, ?_⟩
          apply sub_of <;> simp only [hw3, hp', cond_true, Int.toNat_natCast, go_sem, ↓reduceIte, Nat.reduceAdd, Nat.reduceSub, Nat.reduceMul, Nat.reduceEqDiff, Nat.reduceLT, Nat.reduceLeDiff, Int.reduceToNat, Int.reduceLE, Int.reduceLT, Int.reduceEq, Int.reduceNeg, reduceCtorEq] <;> (try simp)
          all_goals exact fun i _ => entF_bd i 0
      · simp only [decide_eq_false_iff_not] at e4
        obtain rfl : e = T := by omega
        rw [hb] at b1
        have hE : chpE n l a ch = 4 := by simp [chpE, hV, hI, ← b1]
        exact Or.inr ⟨by omega, _, _, rfl, by rw [hE], rfl⟩
    · refine ⟨fun e4 => ?_, fun e4 => ?_⟩
      · simp only [decide_eq_true_eq] at e4
        have heT : e < T := by omega
        refine ⟨⟨by omega, by omega⟩, heT, ⟨by omega, by omega, by omega, by omega, hl, fun i hi => hRT e i heT hi⟩, fun e5 => ?_, fun e5 => ?_⟩
        · simp only [Bool.not_eq_true'] at e5
          have hp := hno e5
          refine ⟨⟨(e + 1, true), by simp only []; omega, by rw [hp]; exact hb⟩, by simp only []; omega, ?_⟩
          apply sub_of <;> simp only [hw3, hp, cond_true, go_sem, ↓reduceIte, Nat.reduceAdd, Nat.reduceSub, Nat.reduceMul, Nat.reduceEqDiff, Nat.reduceLT, Nat.reduceLeDiff, Int.reduceToNat, Int.reduceLE, Int.reduceLT, Int.reduceEq, Int.reduceNeg, reduceCtorEq] <;> (try simp)
          all_goals exact fun i _ => entF_bd i 0
        · simp only [Bool.not_eq_false'] at e5
          refine ⟨⟨by omega, by omega⟩, heT, ⟨by omega, by omega, hl, fun i hi => hRT e i heT hi⟩, fun e6 => (by
            have hp : pickA f (e + 1) = f (e : Int) := by
              simp only [pickA]
              rw [if_pos (better_iff.2 ⟨by rw [hfe]; exact e5, .inr (by rw [hfe]; simp only [Ans.lt]; simp only [decide_eq_true_eq, decide_eq_false_iff_not] at *; omega)⟩)]
            have hp' := hp.trans (hfe e)
            refine ⟨⟨by omega, by omega⟩, heT, ⟨(e + 1, true), by simp only []; omega, by rw [hp']; exact e5⟩, by simp only []; omega, ?_⟩
            apply sub_of <;> simp only [hw3, hp', cond_true, Int.toNat_natCast, go_sem, ↓reduceIte, Nat.reduceAdd, Nat.reduceSub, Nat.reduceMul, Nat.reduceEqDiff, Nat.reduceLT, Nat.reduceLeDiff, Int.reduceToNat, Int.reduceLE, Int.reduceLT, Int.reduceEq, Int.reduceNeg, reduceCtorEq] <;> (try simp)
            all_goals exact fun i _ => entF_bd i 0), fun e6 => ⟨fun e7 => ⟨fun e8 => (by
            have hp : pickA f (e + 1) = f (e : Int) := by
              simp only [pickA]
              rw [if_pos (better_iff.2 ⟨by rw [hfe]; exact e5, .inr (by rw [hfe]; simp only [Ans.lt]; simp only [decide_eq_true_eq, decide_eq_false_iff_not] at *; omega)⟩)]
            have hp' := hp.trans (hfe e)
            refine ⟨⟨by omega, by omega⟩, heT, ⟨(e + 1, true), by simp only []; omega, by rw [hp']; exact e5⟩, by simp only []; omega, ?_⟩
            apply sub_of <;> simp only [hw3, hp', cond_true, Int.toNat_natCast, go_sem, ↓reduceIte, Nat.reduceAdd, Nat.reduceSub, Nat.reduceMul, Nat.reduceEqDiff, Nat.reduceLT, Nat.reduceLeDiff, Int.reduceToNat, Int.reduceLE, Int.reduceLT, Int.reduceEq, Int.reduceNeg, reduceCtorEq] <;> (try simp)
            all_goals exact fun i _ => entF_bd i 0), fun e8 => (by
            have hp : pickA f (e + 1) = pickA f e := by
              simp only [pickA]
              rw [if_neg]
              intro h
              obtain ⟨_, h2⟩ := better_iff.1 h
              rcases h2 with h2 | h2
              · rw [hb] at h2; cases h2
              · rw [hfe] at h2
                simp only [Ans.lt] at h2
                simp only [decide_eq_true_eq, decide_eq_false_iff_not] at *
                omega
            refine ⟨⟨(e + 1, true), by simp only []; omega, by rw [hp]; exact hb⟩, by simp only []; omega, ?_⟩
            apply sub_of <;> simp only [hw3, hp, cond_true, go_sem, ↓reduceIte, Nat.reduceAdd, Nat.reduceSub, Nat.reduceMul, Nat.reduceEqDiff, Nat.reduceLT, Nat.reduceLeDiff, Int.reduceToNat, Int.reduceLE, Int.reduceLT, Int.reduceEq, Int.reduceNeg, reduceCtorEq] <;> (try simp)
            all_goals exact fun i _ => entF_bd i 0)⟩, fun e7 => (by
            have hp : pickA f (e + 1) = pickA f e := by
              simp only [pickA]
              rw [if_neg]
              intro h
              obtain ⟨_, h2⟩ := better_iff.1 h
              rcases h2 with h2 | h2
              · rw [hb] at h2; cases h2
              · rw [hfe] at h2
                simp only [Ans.lt] at h2
                simp only [decide_eq_true_eq, decide_eq_false_iff_not] at *
                omega
            refine ⟨⟨(e + 1, true), by simp only []; omega, by rw [hp]; exact hb⟩, by simp only []; omega, ?_⟩
            apply sub_of <;> simp only [hw3, hp, cond_true, go_sem, ↓reduceIte, Nat.reduceAdd, Nat.reduceSub, Nat.reduceMul, Nat.reduceEqDiff, Nat.reduceLT, Nat.reduceLeDiff, Int.reduceToNat, Int.reduceLE, Int.reduceLT, Int.reduceEq, Int.reduceNeg, reduceCtorEq] <;> (try simp)
            all_goals exact fun i _ => entF_bd i 0)⟩⟩
      · simp only [decide_eq_false_iff_not] at e4
        obtain rfl : e = T := by omega
        rw [hb] at b1
        have hbi := b1.symm
        obtain ⟨j, hj, hpj, hdj⟩ := b2 hbi
        have hE := chp_of hn hl ha hc hbi
        obtain ⟨_, _, _, s4, _⟩ := chp_sum hE
        rw [sumT_all] at s4
        have hpp := hpj.trans (hfe j)
        have hP : (pickA f e).price = chpP n l a ch := by
          rw [hpp, s4]
          simp only []
          exact sumK_congr fun i hi => by rw [cE_dg hi, hdj i hi]
        have hown : (pickA f e).own.toNat = j := by rw [hpp]; rfl
        rw [hP, hown]
        exact Or.inl ⟨hE, _, fun i => cE R n j i, fun i hi => (cE_dg hi).trans (hdj i hi), rfl, rfl⟩
end Go.Eng
end
