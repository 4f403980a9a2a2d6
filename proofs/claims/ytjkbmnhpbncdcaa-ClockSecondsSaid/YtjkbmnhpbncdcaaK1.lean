/-
  A part of the symbolic machine, of its soundness, and of what functions compute. No condition.
-/
import Derived.Test.YtjkbmnhpbncdcaaE4
set_option linter.unusedSimpArgs false
set_option linter.unusedVariables false
/- Ways through the regions whose order is drawn. -/
section
namespace Go.Eng
def p5_16 : Plan := .quiet 0 (.quiet 1 (.quiet 2 (.quiet 3 (.quiet 4 (.quiet 5 (.quiet 6 (.quiet 7 (.quiet 8 (.loud 9 [2, 3, 4, 5] (.loud 10 [] (.quiet 11 (.done))))))))))))
def p5_48 : Plan := .quiet 0 (.quiet 1 (.quiet 2 (.quiet 3 (.quiet 4 (.quiet 5 (.quiet 6 (.quiet 7 (.quiet 8 (.quiet 9 (.quiet 10 (.quiet 11 (.quiet 12 (.done)))))))))))))
def p5_58 : Plan := .quiet 0 (.quiet 1 (.quiet 2 (.quiet 3 (.quiet 4 (.quiet 5 (.quiet 6 (.quiet 7 (.quiet 8 (.quiet 9 (.quiet 10 (.quiet 11 (.quiet 12 (.quiet 13 (.quiet 14 (.quiet 15 (.quiet 16 (.quiet 17 (.quiet 18 (.quiet 19 (.quiet 20 (.quiet 21 (.quiet 22 (.quiet 23 (.quiet 24 (.quiet 25 (.quiet 26 (.quiet 27 (.quiet 28 (.quiet 29 (.quiet 30 (.quiet 31 (.quiet 32 (.quiet 33 (.quiet 34 (.quiet 35 (.quiet 36 (.quiet 37 (.quiet 38 (.quiet 39 (.quiet 40 (.quiet 41 (.quiet 42 (.quiet 43 (.quiet 44 (.quiet 45 (.quiet 46 (.quiet 47 (.quiet 48 (.quiet 49 (.quiet 50 (.quiet 51 (.quiet 52 (.quiet 53 (.quiet 54 (.quiet 55 (.quiet 56 (.quiet 57 (.quiet 58 (.quiet 59 (.quiet 60 (.quiet 61 (.quiet 62 (.quiet 63 (.quiet 64 (.quiet 65 (.quiet 66 (.quiet 67 (.done))))))))))))))))))))))))))))))))))))))))))))))))))))))))))))))))))))
def p6_12 : Plan := .quiet 0 (.quiet 1 (.quiet 2 (.quiet 3 (.quiet 4 (.quiet 5 (.quiet 6 (.quiet 7 (.quiet 8 (.both (.loud 9 [3, 4, 7, 8] (.loud 10 [3, 4, 7, 8] (.loud 11 [7, 8] (.loud 12 [] (.done))))) (.loud 10 [3, 4, 7, 8] (.loud 9 [3, 4, 7, 8] (.loud 11 [7, 8] (.loud 12 [] (.done))))))))))))))
def p6_14 : Plan := .quiet 0 (.quiet 1 (.quiet 2 (.quiet 3 (.quiet 4 (.quiet 5 (.quiet 6 (.quiet 7 (.loud 8 [6] (.quiet 9 (.loud 10 [] (.done)))))))))))
def p8_10 : Plan := .quiet 0 (.quiet 1 (.quiet 2 (.quiet 3 (.quiet 4 (.quiet 5 (.quiet 6 (.quiet 7 (.quiet 8 (.loud 9 [2, 3, 4, 5] (.loud 10 [] (.quiet 11 (.done))))))))))))
def p8_12 : Plan := .quiet 0 (.quiet 1 (.quiet 2 (.quiet 3 (.quiet 4 (.quiet 5 (.quiet 6 (.quiet 7 (.quiet 8 (.quiet 9 (.quiet 10 (.quiet 11 (.quiet 12 (.quiet 13 (.quiet 14 (.quiet 15 (.quiet 16 (.quiet 17 (.quiet 18 (.quiet 19 (.quiet 20 (.quiet 21 (.quiet 22 (.quiet 23 (.quiet 24 (.quiet 25 (.quiet 26 (.quiet 27 (.quiet 28 (.quiet 29 (.quiet 30 (.quiet 31 (.quiet 32 (.quiet 33 (.quiet 34 (.quiet 35 (.quiet 36 (.quiet 37 (.quiet 38 (.quiet 39 (.quiet 40 (.quiet 41 (.quiet 42 (.quiet 43 (.quiet 44 (.quiet 45 (.quiet 46 (.quiet 47 (.quiet 48 (.quiet 49 (.quiet 50 (.quiet 51 (.quiet 52 (.done)))))))))))))))))))))))))))))))))))))))))))))))))))))
def p8_15 : Plan := .quiet 0 (.quiet 1 (.quiet 2 (.quiet 3 (.quiet 4 (.quiet 5 (.quiet 6 (.quiet 7 (.quiet 8 (.quiet 9 (.quiet 10 (.quiet 11 (.quiet 12 (.done)))))))))))))
def p9_35 : Plan := .quiet 0 (.quiet 1 (.quiet 2 (.quiet 3 (.quiet 4 (.quiet 5 (.quiet 6 (.quiet 7 (.quiet 8 (.done)))))))))
def p10_5 : Plan := .quiet 0 (.quiet 1 (.quiet 2 (.quiet 3 (.loud 4 [0, 1] (.quiet 5 (.quiet 6 (.quiet 7 (.quiet 8 (.quiet 9 (.quiet 10 (.quiet 11 (.quiet 12 (.loud 13 [9] (.quiet 14 (.quiet 15 (.quiet 16 (.quiet 17 (.quiet 18 (.quiet 19 (.quiet 20 (.quiet 21 (.quiet 22 (.loud 23 [19] (.quiet 24 (.quiet 25 (.quiet 26 (.quiet 27 (.quiet 28 (.done)))))))))))))))))))))))))))))
def p10_13 : Plan := .quiet 0 (.quiet 1 (.quiet 2 (.quiet 3 (.loud 4 [0] (.quiet 5 (.quiet 6 (.quiet 7 (.quiet 8 (.done)))))))))
def p17_8 : Plan := .quiet 0 (.quiet 1 (.quiet 2 (.quiet 3 (.quiet 4 (.quiet 5 (.quiet 6 (.quiet 7 (.quiet 8 (.quiet 9 (.quiet 10 (.quiet 11 (.quiet 12 (.quiet 13 (.quiet 14 (.quiet 15 (.done))))))))))))))))
def p19_6 : Plan := .quiet 0 (.quiet 1 (.quiet 2 (.quiet 3 (.quiet 4 (.quiet 5 (.quiet 6 (.quiet 7 (.quiet 8 (.done)))))))))
def p20_4 : Plan := .quiet 0 (.quiet 1 (.quiet 2 (.quiet 3 (.quiet 4 (.quiet 5 (.quiet 6 (.quiet 7 (.quiet 8 (.quiet 9 (.quiet 10 (.quiet 11 (.quiet 12 (.quiet 13 (.quiet 14 (.quiet 15 (.quiet 16 (.quiet 17 (.quiet 18 (.quiet 19 (.quiet 20 (.quiet 21 (.done))))))))))))))))))))))
def p22_6 : Plan := .quiet 0 (.quiet 1 (.quiet 2 (.quiet 3 (.quiet 4 (.quiet 5 (.quiet 6 (.quiet 7 (.quiet 8 (.quiet 9 (.done))))))))))
def p27_6 : Plan := .quiet 0 (.quiet 1 (.quiet 2 (.quiet 3 (.quiet 4 (.quiet 5 (.quiet 6 (.quiet 7 (.quiet 8 (.done)))))))))
def p30_7 : Plan := .quiet 0 (.quiet 1 (.quiet 2 (.quiet 3 (.quiet 4 (.quiet 5 (.quiet 6 (.quiet 7 (.quiet 8 (.quiet 9 (.quiet 10 (.quiet 11 (.quiet 12 (.loud 13 [] (.done))))))))))))))
def p30_10 : Plan := .quiet 0 (.quiet 1 (.quiet 2 (.quiet 3 (.quiet 4 (.quiet 5 (.done))))))
def p39_1 : Plan := .quiet 0 (.quiet 1 (.quiet 2 (.quiet 3 (.quiet 4 (.quiet 5 (.quiet 6 (.quiet 7 (.quiet 8 (.quiet 9 (.quiet 10 (.quiet 11 (.quiet 12 (.quiet 13 (.done))))))))))))))
def p44_7 : Plan := .quiet 0 (.quiet 1 (.quiet 2 (.quiet 3 (.quiet 4 (.quiet 5 (.quiet 6 (.quiet 7 (.quiet 8 (.quiet 9 (.quiet 10 (.quiet 11 (.quiet 12 (.quiet 13 (.quiet 14 (.quiet 15 (.done))))))))))))))))
def p44_10 : Plan := .quiet 0 (.quiet 1 (.quiet 2 (.quiet 3 (.quiet 4 (.quiet 5 (.quiet 6 (.loud 7 [] (.done))))))))
def p44_11 : Plan := .quiet 0 (.quiet 1 (.quiet 2 (.quiet 3 (.quiet 4 (.quiet 5 (.quiet 6 (.quiet 7 (.quiet 8 (.quiet 9 (.loud 10 [0, 1, 4, 5, 6] (.loud 11 [] (.quiet 12 (.done)))))))))))))
def p50_1 : Plan := .quiet 0 (.quiet 1 (.quiet 2 (.quiet 3 (.quiet 4 (.quiet 5 (.quiet 6 (.quiet 7 (.quiet 8 (.quiet 9 (.quiet 10 (.quiet 11 (.loud 12 [3, 4] (.quiet 13 (.quiet 14 (.done)))))))))))))))
def p50_5 : Plan := .quiet 0 (.quiet 1 (.quiet 2 (.quiet 3 (.quiet 4 (.quiet 5 (.quiet 6 (.quiet 7 (.quiet 8 (.quiet 9 (.quiet 10 (.quiet 11 (.quiet 12 (.quiet 13 (.quiet 14 (.quiet 15 (.quiet 16 (.quiet 17 (.done))))))))))))))))))
def p50_6 : Plan := .quiet 0 (.quiet 1 (.quiet 2 (.quiet 3 (.quiet 4 (.quiet 5 (.quiet 6 (.quiet 7 (.quiet 8 (.quiet 9 (.quiet 10 (.quiet 11 (.quiet 12 (.quiet 13 (.quiet 14 (.quiet 15 (.quiet 16 (.quiet 17 (.done))))))))))))))))))
def p50_9 : Plan := .quiet 0 (.quiet 1 (.quiet 2 (.quiet 3 (.quiet 4 (.quiet 5 (.quiet 6 (.quiet 7 (.quiet 8 (.quiet 9 (.quiet 10 (.quiet 11 (.quiet 12 (.quiet 13 (.quiet 14 (.quiet 15 (.quiet 16 (.quiet 17 (.quiet 18 (.quiet 19 (.quiet 20 (.quiet 21 (.quiet 22 (.quiet 23 (.quiet 24 (.quiet 25 (.quiet 26 (.quiet 27 (.quiet 28 (.quiet 29 (.quiet 30 (.quiet 31 (.done))))))))))))))))))))))))))))))))
def p50_13 : Plan := .quiet 0 (.quiet 1 (.quiet 2 (.quiet 3 (.quiet 4 (.quiet 5 (.quiet 6 (.quiet 7 (.quiet 8 (.quiet 9 (.quiet 10 (.quiet 11 (.quiet 12 (.quiet 13 (.quiet 14 (.quiet 15 (.quiet 16 (.quiet 17 (.quiet 19 (.quiet 20 (.quiet 21 (.loud 18 [20, 21] (.quiet 22 (.loud 23 [] (.done))))))))))))))))))))))))
def p50_14 : Plan := .quiet 0 (.quiet 1 (.quiet 2 (.quiet 3 (.quiet 4 (.quiet 5 (.quiet 6 (.quiet 7 (.quiet 8 (.quiet 9 (.quiet 10 (.quiet 11 (.quiet 12 (.quiet 13 (.quiet 14 (.quiet 15 (.quiet 16 (.quiet 17 (.quiet 19 (.quiet 20 (.quiet 21 (.loud 18 [20, 21] (.quiet 22 (.loud 23 [] (.done))))))))))))))))))))))))
def p52_1 : Plan := .quiet 0 (.quiet 1 (.quiet 2 (.quiet 3 (.quiet 4 (.quiet 5 (.quiet 6 (.quiet 7 (.done))))))))
def p56_3 : Plan := .quiet 0 (.quiet 1 (.quiet 2 (.quiet 3 (.quiet 4 (.quiet 5 (.quiet 6 (.quiet 7 (.quiet 8 (.quiet 9 (.quiet 10 (.loud 11 [0, 1, 2, 3, 4, 5, 6, 7, 8, 9, 10] (.loud 12 [] (.done)))))))))))))
def p58_25 : Plan := .quiet 0 (.quiet 1 (.quiet 2 (.quiet 3 (.quiet 4 (.quiet 5 (.quiet 6 (.quiet 7 (.quiet 8 (.quiet 9 (.quiet 10 (.loud 11 [] (.done))))))))))))
def p58_27 : Plan := .quiet 0 (.quiet 1 (.quiet 2 (.quiet 3 (.quiet 4 (.quiet 5 (.quiet 6 (.quiet 7 (.quiet 8 (.quiet 9 (.quiet 10 (.loud 11 [] (.done))))))))))))
def p58_28 : Plan := .quiet 0 (.quiet 1 (.quiet 2 (.quiet 3 (.quiet 4 (.quiet 5 (.quiet 6 (.quiet 7 (.quiet 8 (.quiet 9 (.quiet 10 (.loud 11 [] (.done))))))))))))
def p58_30 : Plan := .quiet 0 (.quiet 1 (.quiet 2 (.quiet 3 (.quiet 4 (.quiet 5 (.quiet 6 (.quiet 7 (.quiet 8 (.quiet 9 (.quiet 10 (.loud 11 [] (.done))))))))))))
def p58_32 : Plan := .quiet 0 (.quiet 1 (.quiet 2 (.quiet 3 (.quiet 4 (.quiet 5 (.quiet 6 (.quiet 7 (.quiet 8 (.quiet 9 (.quiet 10 (.loud 11 [] (.done))))))))))))
def p61_2 : Plan := .quiet 0 (.quiet 1 (.quiet 2 (.quiet 3 (.quiet 4 (.quiet 5 (.quiet 6 (.quiet 7 (.quiet 8 (.quiet 9 (.quiet 10 (.quiet 11 (.quiet 12 (.loud 13 [] (.done))))))))))))))
def p61_5 : Plan := .quiet 0 (.quiet 1 (.quiet 2 (.quiet 3 (.quiet 4 (.quiet 5 (.quiet 6 (.quiet 7 (.quiet 8 (.quiet 9 (.quiet 10 (.quiet 11 (.done))))))))))))
def p61_10 : Plan := .quiet 0 (.quiet 1 (.quiet 2 (.quiet 3 (.quiet 4 (.quiet 5 (.quiet 6 (.quiet 7 (.quiet 8 (.quiet 9 (.quiet 11 (.quiet 12 (.quiet 13 (.loud 10 [12, 13] (.quiet 14 (.loud 15 [] (.done))))))))))))))))
def p62_3 : Plan := .quiet 0 (.quiet 1 (.quiet 2 (.quiet 3 (.quiet 4 (.quiet 5 (.quiet 6 (.quiet 7 (.done))))))))
def p62_7 : Plan := .quiet 0 (.quiet 1 (.quiet 2 (.quiet 3 (.quiet 4 (.loud 5 [3] (.loud 6 [] (.quiet 7 (.loud 8 [] (.done)))))))))
def p62_12 : Plan := .quiet 0 (.quiet 1 (.quiet 2 (.quiet 3 (.quiet 4 (.quiet 5 (.quiet 6 (.quiet 7 (.done))))))))
def p62_13 : Plan := .quiet 0 (.quiet 1 (.quiet 2 (.quiet 3 (.quiet 4 (.loud 5 [3] (.loud 6 [] (.quiet 7 (.loud 8 [] (.done)))))))))
def p66_5 : Plan := .quiet 0 (.quiet 1 (.quiet 2 (.quiet 3 (.quiet 4 (.quiet 5 (.quiet 6 (.quiet 7 (.quiet 8 (.quiet 9 (.quiet 10 (.quiet 11 (.quiet 12 (.loud 13 [] (.done))))))))))))))
def p66_6 : Plan := .quiet 0 (.quiet 1 (.quiet 2 (.quiet 3 (.quiet 4 (.quiet 5 (.quiet 6 (.quiet 7 (.quiet 8 (.quiet 9 (.quiet 10 (.quiet 11 (.quiet 12 (.loud 13 [] (.done))))))))))))))
def p67_5 : Plan := .quiet 0 (.quiet 1 (.quiet 2 (.quiet 3 (.quiet 4 (.quiet 5 (.quiet 6 (.quiet 7 (.done))))))))
def p67_13 : Plan := .quiet 0 (.quiet 2 (.quiet 3 (.quiet 4 (.quiet 6 (.quiet 7 (.quiet 8 (.quiet 9 (.quiet 11 (.loud 1 [4, 9, 11] (.loud 5 [9, 11] (.loud 10 [11] (.quiet 12 (.loud 13 [] (.done))))))))))))))
def p68_1 : Plan := .quiet 1 (.quiet 3 (.both (.loud 0 [3] (.both (.loud 2 [3] (.loud 4 [] (.loud 5 [] (.quiet 6 (.done))))) (.loud 4 [] (.loud 2 [] (.loud 5 [] (.quiet 6 (.done))))))) (.loud 4 [] (.loud 0 [] (.loud 2 [] (.loud 5 [] (.quiet 6 (.done))))))))
end Go.Eng
end

/- clock: lists of penalties (plain). -/
section
namespace Go.Eng
open Go Go.RowKit Go.Proofs
set_option maxRecDepth 100000
set_option maxHeartbeats 4000000
attribute [local irreducible] OwnT DefS
theorem wrap_id {x : Int} (h1 : -9223372036854775808 ≤ x) (h2 : x ≤ 9223372036854775807) : IntKind.i64.wrap x = x := by
  simp [IntKind.wrap, IntKind.signed, IntKind.bits]
  omega
def in3 (n lo hi : Int) : Bool := decide (lo ≤ n) && decide (n ≤ hi)
theorem in3_iff {n lo hi : Int} : in3 n lo hi = true ↔ lo ≤ n ∧ n ≤ hi := by simp [in3]
theorem in3_false {n lo hi : Int} : in3 n lo hi = false ↔ n < lo ∨ hi < n := by
  cases h : in3 n lo hi
  · simp [in3] at h; simp; omega
  · simp [in3] at h; simp; omega
theorem spl_intro {q : Bool} {A B : Prop} (h1 : q = true → A) (h2 : q = false → B) : spl q A B := ⟨h1, h2⟩
/-- A penalty: of whom, of which kind, how many seconds are left. -/
structure Pen where
  a : Int
  k : Int
  l : Int
deriving DecidableEq
def pe (p : Pen) : Nat → Int
  | 0 => p.a
  | 1 => p.k
  | _ => p.l
def pf (l : List Pen) (i j : Nat) : Int := pe (l.getD i ⟨0, 0, 0⟩) j
def pn (f : Nat → Nat → Int) (i : Nat) : Pen := ⟨f i 0, f i 1, f i 2⟩
def pl (n : Nat) (f : Nat → Nat → Int) : List Pen := (List.range n).map (pn f)
theorem pl_len (n : Nat) (f : Nat → Nat → Int) : (pl n f).length = n := by simp [pl]
theorem pl_get {n : Nat} {f : Nat → Nat → Int} {i : Nat} (hi : i < n) : (pl n f).getD i ⟨0, 0, 0⟩ = pn f i := by
  simp [pl, hi]
theorem pe_pn {f : Nat → Nat → Int} {i j : Nat} (hj : j < 3) : pe (pn f i) j = f i j := by
  have : j = 0 ∨ j = 1 ∨ j = 2 := by omega
  rcases this with rfl | rfl | rfl <;> rfl
theorem pf_pl {n : Nat} {f : Nat → Nat → Int} {i j : Nat} (hi : i < n) (hj : j < 3) : pf (pl n f) i j = f i j := by
  rw [pf, pl_get hi, pe_pn hj]
theorem pl_pf (l : List Pen) : pl l.length (pf l) = l := by
  apply List.ext_getElem
  · simp [pl_len]
  · intro i h1 h2
    simp [pl, pn, pf, pe, h2]
theorem pl_congr {n : Nat} {f g : Nat → Nat → Int} (h : ∀ i j, i < n → j < 3 → f i j = g i j) : pl n f = pl n g := by
  unfold pl
  apply List.map_congr_left
  intro i hi
  simp only [List.mem_range] at hi
  simp [pn, h i 0 hi (by omega), h i 1 hi (by omega), h i 2 hi (by omega)]
theorem pl_succ (n : Nat) (f : Nat → Nat → Int) : pl (n + 1) f = pl n f ++ [pn f n] := by
  simp [pl, List.range_succ]
theorem pl_ext {l : List Pen} {n : Nat} {f : Nat → Nat → Int} (hl : l.length = n) (h : ∀ i j, i < n → j < 3 → pf l i j = f i j) : l = pl n f := by
  subst hl
  rw [← pl_congr (f := pf l) (g := f) h, pl_pf]
theorem pf_out {l : List Pen} {i j : Nat} (h : l.length ≤ i) : pf l i j = 0 := by
  simp only [pf, List.getD_eq_getElem?_getD, List.getElem?_eq_none h, Option.getD_none]
  match j with
  | 0 => rfl
  | 1 => rfl
  | _ + 2 => rfl
theorem pf_app {l k : List Pen} {i j : Nat} : pf (l ++ k) i j = if i < l.length then pf l i j else pf k (i - l.length) j := by
  simp only [pf, List.getD_eq_getElem?_getD]
  split
  · rename_i h; rw [List.getElem?_append_left h]
  · rename_i h; rw [List.getElem?_append_right (by omega)]
theorem pf_mem {l : List Pen} {i : Nat} (h : i < l.length) : ⟨pf l i 0, pf l i 1, pf l i 2⟩ ∈ l := by
  simp only [pf, List.getD_eq_getElem?_getD, List.getElem?_eq_getElem h, Option.getD_some, pe]
  exact List.getElem_mem h
theorem mem_pl {n : Nat} {f : Nat → Nat → Int} {p : Pen} (h : p ∈ pl n f) : ∃ i, i < n ∧ p = pn f i := by
  simp only [pl, List.mem_map, List.mem_range] at h
  obtain ⟨i, h1, h2⟩ := h
  exact ⟨i, h1, h2.symm⟩
/-- The second one that is served: the first of another player. -/
def secL : List Pen → Nat
  | [] => 0
  | p :: r => 1 + r.findIdx (fun q => decide (q.a ≠ p.a))
def nS (l : List Pen) : Nat := if l.length = 0 then 0 else if secL l < l.length then 2 else 1
def wS (l : List Pen) (k : Nat) : Int := if k = 0 then 0 else (secL l : Int)
theorem secL_spec : ∀ {l : List Pen}, 0 < l.length → 0 < secL l ∧ secL l ≤ l.length ∧ (∀ j, j < secL l → pf l j 0 = pf l 0 0) ∧ (secL l < l.length → pf l (secL l) 0 ≠ pf l 0 0)
  | [], h => by simp at h
  | p :: r, _ => by
    simp only [secL, List.length_cons]
    have hle : r.findIdx (fun q => decide (q.a ≠ p.a)) ≤ r.length := List.findIdx_le_length
    refine ⟨by omega, by omega, fun j hj => ?_, fun h => ?_⟩
    · match j with
      | 0 => rfl
      | j + 1 =>
        have := List.not_of_lt_findIdx (p := fun q : Pen => decide (q.a ≠ p.a)) (xs := r) (i := j) (by omega)
        simp only [decide_eq_true_eq, Decidable.not_not, decide_eq_false_iff_not] at this
        have hlt : j < r.length := by omega
        simpa [pf, pe, hlt] using this
    · have hlt : r.findIdx (fun q => decide (q.a ≠ p.a)) < r.length := by omega
      have := List.findIdx_getElem (p := fun q : Pen => decide (q.a ≠ p.a)) (xs := r) (w := hlt)
      simp only [decide_eq_true_eq] at this
      rw [Nat.add_comm 1]
      simp only [pf, pe, List.getD_eq_getElem?_getD, List.getElem?_cons_succ, List.getElem?_cons_zero, List.getElem?_eq_getElem hlt, Option.getD_some]
      exact this
theorem secL_eq {l : List Pen} {k : Nat} (h0 : 0 < l.length) (h1 : k ≤ l.length) (h2 : ∀ j, j < k → pf l j 0 = pf l 0 0) (h3 : k < l.length → pf l k 0 ≠ pf l 0 0) : secL l = k := by
  obtain ⟨_, q2, q3, q4⟩ := secL_spec h0
  rcases Nat.lt_trichotomy (secL l) k with h | h | h
  · exact absurd (h2 _ h) (q4 (by omega))
  · exact h
  · exact absurd (q3 k h) (h3 (by omega))
theorem secP_eq {n : Nat} {f : Nat → Nat → Int} {k : Nat} (h0 : 0 < n) (h1 : k ≤ n) (h2 : ∀ j, j < k → f j 0 = f 0 0) (h3 : k < n → f k 0 ≠ f 0 0) : secL (pl n f) = k := by
  refine secL_eq (by rw [pl_len]; exact h0) (by rw [pl_len]; exact h1) (fun j hj => ?_) (fun h => ?_)
  · rw [pf_pl (by omega) (by omega), pf_pl h0 (by omega)]; exact h2 j hj
  · rw [pl_len] at h; rw [pf_pl h (by omega), pf_pl h0 (by omega)]; exact h3 h
theorem nS_le (l : List Pen) : nS l ≤ 2 := by unfold nS; split <;> (try split) <;> omega
theorem wS_lt {l : List Pen} {k : Nat} (hk : k < nS l) : 0 ≤ wS l k ∧ wS l k < l.length := by
  unfold nS at hk
  unfold wS
  split at hk
  · omega
  · split at hk <;> split <;> omega
theorem wS_inj {l : List Pen} {j k : Nat} (hj : j < nS l) (hk : k < nS l) (h : wS l j = wS l k) : j = k := by
  have h2 := nS_le l
  by_cases h0 : l.length = 0
  · simp [nS, h0] at hj
  · obtain ⟨q1, _⟩ := secL_spec (l := l) (by omega)
    unfold wS at h
    split at h <;> split at h <;> omega
/-- Seconds pass for some of them. -/
def decW (m : Nat) (w : Nat → Int) (n : Int) (l : List Pen) : List Pen := pl l.length (fun i j => if j = 2 ∧ ∃ k, k < m ∧ w k = i then pf l i j - n else pf l i j)
def goneW (m : Nat) (w : Nat → Int) (n : Int) (l : List Pen) : List Pen := (decW m w n l).filter (fun p => decide (p.l ≠ 0))
/-- The least of a number and what is left of some of them. -/
def minW (w : Nat → Int) (f : Nat → Nat → Int) (most : Int) : Nat → Int
  | 0 => most
  | k + 1 => min (minW w f most k) (f (w k).toNat 2)
theorem minW_le (w : Nat → Int) (f : Nat → Nat → Int) (most : Int) : ∀ (m : Nat), minW w f most m ≤ most ∧ ∀ k, k < m → minW w f most m ≤ f (w k).toNat 2
  | 0 => ⟨by simp [minW], fun k hk => by omega⟩
  | m + 1 => by
    obtain ⟨h1, h2⟩ := minW_le w f most m
    simp only [minW]
    refine ⟨by omega, fun k hk => ?_⟩
    rcases Nat.lt_or_ge k m with h | h
    · have := h2 k h; omega
    · obtain rfl : k = m := by omega
      omega
theorem minW_ge (w : Nat → Int) (f : Nat → Nat → Int) (most b : Int) : ∀ (m : Nat), b ≤ most → (∀ k, k < m → b ≤ f (w k).toNat 2) → b ≤ minW w f most m
  | 0, h, _ => by simpa [minW] using h
  | m + 1, h, h2 => by
    have h1 := minW_ge w f most b m h (fun k hk => h2 k (by omega))
    have := h2 m (by omega)
    simp only [minW]
    omega
end Go.Eng
end

/- clock: small functions. -/
section
namespace Go.Eng
open Go Go.RowKit Go.Proofs
set_option maxRecDepth 100000
set_option maxHeartbeats 4000000
attribute [local irreducible] OwnT DefS
theorem catF_one (F : Nat → SV) {i x : Nat} (hx : x < i + 1) : catF i (fun a _ => F a) (oneF [F i]) x 0 = F x := by
  rcases Nat.lt_or_ge x i with h | h
  · simp only [catF, if_pos h]
  · obtain rfl : x = i := by omega
    simp only [catF, if_neg (Nat.lt_irrefl _), oneF, nth]
def withinBase : BaseF := fun args => match args with
  | [.int .i64 n, .int .i64 lo, .int .i64 hi] => some (True, .bool (in3 n lo hi))
  | _ => none
theorem within_eq (n : Int) (lo : Int) (hi : Int) : withinBase [.int .i64 n, .int .i64 lo, .int .i64 hi] = some (True, .bool (in3 n lo hi)) := rfl
theorem within_base : Base Try.prog 32 withinBase := by
  intro args p v hq hp
  unfold withinBase at hq
  split at hq
  rotate_left
  · cases hq
  rename_i n lo hi
  cases hq
  refine base_of (C := cx [] [] [] [] none) (cx_ok trivial trivial) rfl (g := 32) (fn := Try.f32)
    (args' := [.int .i64 n, .int .i64 lo, .int .i64 hi]) (fn_32) rfl 1000 (by simp only [BdL, Bd, and_self, and_true, true_and]) ⟨SameD.rfl' _, SameD.rfl' _, SameD.rfl' _, trivial⟩ ?_
  simp only [Try.f32, go_sem, ↓reduceIte, Nat.reduceAdd, Nat.reduceSub, Nat.reduceMul, Nat.reduceEqDiff, Nat.reduceLT, Nat.reduceLeDiff, Int.reduceToNat, Int.reduceLE, Int.reduceLT, Int.reduceEq, Int.reduceNeg, reduceCtorEq]
  (repeat' refine And.intro (fun _ => ?_) (fun _ => ?_)) <;> simp_all [in3] <;> omega
def inBase : BaseF := fun args => match args with
  | [.int .i64 n, .int .i64 lo, .int .i64 hi] => some (True, .bool (in3 n lo hi))
  | _ => none
theorem in_eq (n : Int) (lo : Int) (hi : Int) : inBase [.int .i64 n, .int .i64 lo, .int .i64 hi] = some (True, .bool (in3 n lo hi)) := rfl
theorem in_base : Base Try.prog 42 inBase := by
  intro args p v hq hp
  unfold inBase at hq
  split at hq
  rotate_left
  · cases hq
  rename_i n lo hi
  cases hq
  refine base_of (C := cx [] [] [] [] none) (cx_ok trivial trivial) rfl (g := 42) (fn := Try.f42)
    (args' := [.int .i64 n, .int .i64 lo, .int .i64 hi]) (fn_42) rfl 1000 (by simp only [BdL, Bd, and_self, and_true, true_and]) ⟨SameD.rfl' _, SameD.rfl' _, SameD.rfl' _, trivial⟩ ?_
  simp only [Try.f42, go_sem, ↓reduceIte, Nat.reduceAdd, Nat.reduceSub, Nat.reduceMul, Nat.reduceEqDiff, Nat.reduceLT, Nat.reduceLeDiff, Int.reduceToNat, Int.reduceLE, Int.reduceLT, Int.reduceEq, Int.reduceNeg, reduceCtorEq]
  (repeat' refine And.intro (fun _ => ?_) (fun _ => ?_)) <;> simp_all [in3] <;> omega
def servedRBase : BaseF := fun args => match args with
  | [.row n sz_f f_f] => some ((sz_f = 3 ∧ IntR n 3 f_f) ∧ (n ≤ 1000000), .row (nS (pl n (ivf f_f))) 1 (fun i _ => .int .i64 (wS (pl n (ivf f_f)) i)))
  | _ => none
theorem servedR_eq (n : Nat) (sz_f : Nat) (f_f : Nat → Nat → SV) : servedRBase [.row n sz_f f_f] = some ((sz_f = 3 ∧ IntR n 3 f_f) ∧ (n ≤ 1000000), .row (nS (pl n (ivf f_f))) 1 (fun i _ => .int .i64 (wS (pl n (ivf f_f)) i))) := rfl
theorem servedR_base : Base Try.prog 22 servedRBase := by
  intro args p v hq hp
  unfold servedRBase at hq
  split at hq
  rotate_left
  · cases hq
  rename_i n sz_f f_f
  cases hq
  obtain ⟨⟨rfl, i_f⟩, pre⟩ := hp
  refine baseF_of (C := cx [] [] [] [(22, 6, p22_6)] none) (cx_ok trivial trivial) rfl (g := 22) (fn := Try.f22)
    (args' := [.row n 3 (rowF .i64 (ivf f_f))]) (fn_22) rfl 1000 (by
    simp only [BdL, Bd, and_self, and_true, true_and]
    exact (fun i j hi hj => by rw [i_f i j hi hj]; trivial)) ⟨SameD.int i_f, trivial⟩ ?_
  generalize ivf f_f = f at *
  simp only [rowF_eq]
  simp only [p22_6, Try.f22, go_sem, ↓reduceIte, Nat.reduceAdd, Nat.reduceSub, Nat.reduceMul, Nat.reduceEqDiff, Nat.reduceLT, Nat.reduceLeDiff, Int.reduceToNat, Int.reduceLE, Int.reduceLT, Int.reduceEq, Int.reduceNeg, reduceCtorEq]
  refine ⟨fun c1 => ?_, fun c1 => ?_⟩
  · simp only [decide_eq_true_eq] at c1
    have : nS (pl n f) = 0 := by simp [nS, pl_len]; omega
    simp only [this]
    exact ⟨trivial, fun i j hi => by omega⟩
  simp only [decide_eq_false_iff_not] at c1
  have hn : 0 < n := by omega
  refine loop_ofH { i : Nat // 0 < i ∧ i ≤ n ∧ ∀ j, j < i → f j 0 = f 0 0 } (fun i => [(3, .int .i64 (i.1 : Int)), (0, .row n 3 fun i j => .int .i64 (f i j))]) (fun h _ => h) (fun i => n - i.1) (fun _ => ⟨rfl, rfl⟩) ⟨1, by omega, by omega, fun j hj => by rw [show j = 0 by omega]⟩ (by (apply sub_of <;> simp only [go_sem, ↓reduceIte, Nat.reduceAdd, Nat.reduceSub, Nat.reduceMul, Nat.reduceEqDiff, Nat.reduceLT, Nat.reduceLeDiff, Int.reduceToNat, Int.reduceLE, Int.reduceLT, Int.reduceEq, Int.reduceNeg, reduceCtorEq] <;> (try simp [catF]) <;> (try exact fun j _ => Bd_nth (by simp [BdL, Bd]) j) <;> (try exact bd_setL (by simp [bdAs, BdL, Bd])) <;> (try exact nestF_bd _ _ _ _ _ _ _ _ _))) ?_
  rintro ⟨i, hi0, hi, h3⟩
  simp only [p22_6, Try.f22, go_sem, ↓reduceIte, Nat.reduceAdd, Nat.reduceSub, Nat.reduceMul, Nat.reduceEqDiff, Nat.reduceLT, Nat.reduceLeDiff, Int.reduceToNat, Int.reduceLE, Int.reduceLT, Int.reduceEq, Int.reduceNeg, reduceCtorEq]
  have hw3 : IntKind.i64.wrap ((i : Int) + 1) = ((i + 1 : Nat) : Int) := by rw [wrap_id (by omega) (by omega)]; omega
  refine ⟨fun e1 => ?_, fun e1 => ?_⟩
  · simp only [decide_eq_true_eq] at e1
    refine ⟨⟨by kernel_rfl, by kernel_rfl⟩, ⟨by omega, by omega⟩, by omega, fun e2 => ?_, fun e2 => ?_⟩
    · simp only [Bool.not_eq_true', decide_eq_false_iff_not] at e2
      have hs : secL (pl n f) = i := secP_eq hn hi h3 (fun _ => e2)
      have h2 : nS (pl n f) = 2 := by simp only [nS, hs, pl_len]; rw [if_neg (by omega), if_pos (by omega)]
      rw [h2]
      refine ⟨rfl, fun a j ha hj => ?_⟩
      have : a = 0 ∨ a = 1 := by omega
      obtain rfl : j = 0 := by omega
      rcases this with rfl | rfl <;> simp [cellAt, nth, wS, hs]
    · simp only [Bool.not_eq_false', decide_eq_true_eq] at e2
      refine ⟨⟨i + 1, by omega, by omega, fun j hj => ?_⟩, by simp only []; omega, ?_⟩
      · rcases Nat.lt_or_ge j i with h | h
        · exact h3 j h
        · obtain rfl : j = i := by omega
          exact e2
      · apply sub_of <;> simp only [hw3, go_sem, ↓reduceIte, Nat.reduceAdd, Nat.reduceSub, Nat.reduceMul, Nat.reduceEqDiff, Nat.reduceLT, Nat.reduceLeDiff, Int.reduceToNat, Int.reduceLE, Int.reduceLT, Int.reduceEq, Int.reduceNeg, reduceCtorEq] <;> (try simp) <;> (try exact fun j _ => Bd_nth (by simp [BdL, Bd]) j) <;> (try exact bd_setL (by simp [bdAs, BdL, Bd])) <;> (try exact nestF_bd _ _ _ _ _ _ _ _ _)
  · simp only [decide_eq_false_iff_not] at e1
    obtain rfl : i = n := by omega
    have hs : secL (pl i f) = i := secP_eq (by omega) (by omega) h3 (fun h => by omega)
    have h2 : nS (pl i f) = 1 := by simp [nS, hs, pl_len]; omega
    rw [h2]
    refine ⟨rfl, fun a j ha hj => ?_⟩
    obtain rfl : a = 0 := by omega
    obtain rfl : j = 0 := by omega
    simp [oneF, nth, wS]
def servedPBase : BaseF := fun args => match args with
  | [.row n sz_f f_f] => some ((sz_f = 3 ∧ IntR n 3 f_f) ∧ (n ≤ 1000000), .row (nS (pl n (ivf f_f))) 1 (fun i _ => .int .i64 (wS (pl n (ivf f_f)) i)))
  | _ => none
theorem servedP_eq (n : Nat) (sz_f : Nat) (f_f : Nat → Nat → SV) : servedPBase [.row n sz_f f_f] = some ((sz_f = 3 ∧ IntR n 3 f_f) ∧ (n ≤ 1000000), .row (nS (pl n (ivf f_f))) 1 (fun i _ => .int .i64 (wS (pl n (ivf f_f)) i))) := rfl
theorem servedP_base : Base Try.prog 35 servedPBase := by
  intro args p v hq hp
  unfold servedPBase at hq
  split at hq
  rotate_left
  · cases hq
  rename_i n sz_f f_f
  cases hq
  obtain ⟨⟨rfl, i_f⟩, pre⟩ := hp
  refine baseF_of (C := cx [] [] [] [(52, 1, p52_1)] none) (cx_ok trivial trivial) rfl (g := 35) (fn := Try.f35)
    (args' := [.row n 3 (rowF .i64 (ivf f_f))]) (fn_35) rfl 1000 (by
    simp only [BdL, Bd, and_self, and_true, true_and]
    exact (fun i j hi hj => by rw [i_f i j hi hj]; trivial)) ⟨SameD.int i_f, trivial⟩ ?_
  generalize ivf f_f = f at *
  simp only [rowF_eq]
  simp only [p52_1, Try.f51, Try.f52, Try.f35, go_sem, ↓reduceIte, Nat.reduceAdd, Nat.reduceSub, Nat.reduceMul, Nat.reduceEqDiff, Nat.reduceLT, Nat.reduceLeDiff, Int.reduceToNat, Int.reduceLE, Int.reduceLT, Int.reduceEq, Int.reduceNeg, reduceCtorEq]
  refine ⟨fun c1 => ?_, fun c1 => ?_⟩
  · simp only [decide_eq_true_eq] at c1
    have : nS (pl n f) = 0 := by simp [nS, pl_len]; omega
    simp only [this]
    exact ⟨trivial, fun i j hi => by omega⟩
  simp only [decide_eq_false_iff_not] at c1
  have hn : 0 < n := by omega
  refine loop_ofH { i : Nat // i ≤ n ∧ ∀ j, j < i → f j 0 = f 0 0 } (fun i => [(8, .int .i64 (i.1 : Int)), (7, .int .i64 (n : Int)), (1, .func 52 [.ptr 0 0]), (0, .row n 3 fun i j => .int .i64 (f i j))]) (fun h _ => h) (fun i => n - i.1) (fun _ => ⟨rfl, rfl⟩) ⟨0, by omega, fun j hj => by omega⟩ (by (apply sub_of <;> simp only [go_sem, ↓reduceIte, Nat.reduceAdd, Nat.reduceSub, Nat.reduceMul, Nat.reduceEqDiff, Nat.reduceLT, Nat.reduceLeDiff, Int.reduceToNat, Int.reduceLE, Int.reduceLT, Int.reduceEq, Int.reduceNeg, reduceCtorEq] <;> (try simp [catF]) <;> (try exact fun j _ => Bd_nth (by simp [BdL, Bd]) j) <;> (try exact bd_setL (by simp [bdAs, BdL, Bd])) <;> (try exact nestF_bd _ _ _ _ _ _ _ _ _))) ?_
  rintro ⟨i, hi, h3⟩
  simp only [p52_1, Try.f51, Try.f52, Try.f35, go_sem, ↓reduceIte, Nat.reduceAdd, Nat.reduceSub, Nat.reduceMul, Nat.reduceEqDiff, Nat.reduceLT, Nat.reduceLeDiff, Int.reduceToNat, Int.reduceLE, Int.reduceLT, Int.reduceEq, Int.reduceNeg, reduceCtorEq]
  have hw3 : IntKind.i64.wrap ((i : Int) + 1) = ((i + 1 : Nat) : Int) := by rw [wrap_id (by omega) (by omega)]; omega
  have last : nS (pl n f) = 1 → (1 = nS (pl n f) ∧ ∀ (i j : Nat), i < nS (pl n f) → j < 1 → nth [.int .i64 0] j = .int .i64 (wS (pl n f) i)) := fun h => by
    rw [h]
    refine ⟨rfl, fun a j ha hj => ?_⟩
    obtain rfl : a = 0 := by omega
    obtain rfl : j = 0 := by omega
    simp [nth, wS]
  refine ⟨fun e1 => ⟨⟨by omega, by simpa using e1⟩, ⟨by kernel_rfl, by kernel_rfl⟩, by omega, fun e2 => ⟨fun e3 => ?_, fun e3 => ?_⟩, fun e2 => ?_⟩, fun e1 => ?_⟩
  all_goals simp only [decide_eq_true_eq, decide_eq_false_iff_not] at e1
  all_goals try simp only [decide_eq_true_eq, decide_eq_false_iff_not] at e3
  · simp only [Bool.not_eq_true', decide_eq_false_iff_not] at e2
    have hs : secL (pl n f) = i := secP_eq hn hi h3 (fun _ => e2)
    have h2 : nS (pl n f) = 2 := by simp only [nS, hs, pl_len]; rw [if_neg (by omega), if_pos (by omega)]
    rw [h2]
    refine ⟨rfl, fun a j ha hj => ?_⟩
    have : a = 0 ∨ a = 1 := by omega
    obtain rfl : j = 0 := by omega
    rcases this with rfl | rfl <;> simp [nth, wS, hs]
  · simp only [Bool.not_eq_true', decide_eq_false_iff_not] at e2
    exact absurd (by rw [show i = 0 by omega]) e2
  · simp only [Bool.not_eq_false', decide_eq_true_eq] at e2
    refine ⟨⟨i + 1, by omega, fun j hj => ?_⟩, by simp only []; omega, ?_⟩
    · rcases Nat.lt_or_ge j i with h | h
      · exact h3 j h
      · obtain rfl : j = i := by omega
        exact e2
    · apply sub_of <;> simp only [hw3, go_sem, ↓reduceIte, Nat.reduceAdd, Nat.reduceSub, Nat.reduceMul, Nat.reduceEqDiff, Nat.reduceLT, Nat.reduceLeDiff, Int.reduceToNat, Int.reduceLE, Int.reduceLT, Int.reduceEq, Int.reduceNeg, reduceCtorEq] <;> (try simp) <;> (try exact fun j _ => Bd_nth (by simp [BdL, Bd]) j) <;> (try exact bd_setL (by simp [bdAs, BdL, Bd])) <;> (try exact nestF_bd _ _ _ _ _ _ _ _ _)
  · obtain rfl : i = n := by omega
    have hs : secL (pl i f) = i := secP_eq (by omega) (by omega) h3 (fun h => by omega)
    exact last (by simp [nS, hs, pl_len]; omega)
def leastBase : BaseF := fun args => match args with
  | [.int .i64 a, .row m sz_l f_l] => some ((sz_l = 1 ∧ IntR m 1 f_l) ∧ (m ≤ 1000000), .int .i64 (minW (fun k => k) (fun i _ => (ivf f_l) i 0) a m))
  | _ => none
theorem least_eq (a : Int) (m : Nat) (sz_l : Nat) (f_l : Nat → Nat → SV) : leastBase [.int .i64 a, .row m sz_l f_l] = some ((sz_l = 1 ∧ IntR m 1 f_l) ∧ (m ≤ 1000000), .int .i64 (minW (fun k => k) (fun i _ => (ivf f_l) i 0) a m)) := rfl
theorem least_base : Base Try.prog 53 leastBase := by
  intro args p v hq hp
  unfold leastBase at hq
  split at hq
  rotate_left
  · cases hq
  rename_i a m sz_l f_l
  cases hq
  obtain ⟨⟨rfl, i_l⟩, pre⟩ := hp
  refine base_of (C := cx [] [] [] [] none) (cx_ok trivial trivial) rfl (g := 53) (fn := Try.f53)
    (args' := [.int .i64 a, .row m 1 (rowF .i64 (ivf f_l))]) (fn_53) rfl 1000 (by
    simp only [BdL, Bd, and_self, and_true, true_and]
    exact (fun i j hi hj => by rw [i_l i j hi hj]; trivial)) ⟨SameD.rfl' _, SameD.int i_l, trivial⟩ ?_
  generalize ivf f_l = l at *
  simp only [rowF_eq]
  simp only [Try.f53, go_sem, ↓reduceIte, Nat.reduceAdd, Nat.reduceSub, Nat.reduceMul, Nat.reduceEqDiff, Nat.reduceLT, Nat.reduceLeDiff, Int.reduceToNat, Int.reduceLE, Int.reduceLT, Int.reduceEq, Int.reduceNeg, reduceCtorEq]
  refine loop_of { i : Nat // i ≤ m } (fun i => [(9, .int .i64 (i.1 : Int)), (8, .int .i64 (m : Int)), (7, .row m 1 fun i j => .int .i64 (l i j)), (0, .int .i64 (minW (fun k => k) (fun i _ => l i 0) a i.1))]) (fun _ => ⟨[], []⟩) (fun i => m - i.1) (fun _ => ⟨rfl, rfl⟩) ⟨0, by omega⟩ (by simp only [minW]; (apply sub_of <;> simp only [go_sem, ↓reduceIte, Nat.reduceAdd, Nat.reduceSub, Nat.reduceMul, Nat.reduceEqDiff, Nat.reduceLT, Nat.reduceLeDiff, Int.reduceToNat, Int.reduceLE, Int.reduceLT, Int.reduceEq, Int.reduceNeg, reduceCtorEq] <;> (try simp [catF]) <;> (try exact fun j _ => Bd_nth (by simp [BdL, Bd]) j) <;> (try exact bd_setL (by simp [bdAs, BdL, Bd])) <;> (try exact nestF_bd _ _ _ _ _ _ _ _ _))) ?_
  rintro ⟨i, hi⟩
  simp only [Try.f53, go_sem, ↓reduceIte, Nat.reduceAdd, Nat.reduceSub, Nat.reduceMul, Nat.reduceEqDiff, Nat.reduceLT, Nat.reduceLeDiff, Int.reduceToNat, Int.reduceLE, Int.reduceLT, Int.reduceEq, Int.reduceNeg, reduceCtorEq]
  have hw3 : IntKind.i64.wrap ((i : Int) + 1) = ((i + 1 : Nat) : Int) := by rw [wrap_id (by omega) (by omega)]; omega
  refine ⟨fun e1 => ?_, fun e1 => ?_⟩
  all_goals simp only [decide_eq_true_eq, decide_eq_false_iff_not] at e1
  · refine ⟨⟨by omega, by omega⟩, ⟨i + 1, by omega⟩, by simp only []; omega, ?_⟩
    apply sub_of <;> simp only [hw3, minW, Int.toNat_natCast, go_sem, ↓reduceIte, Nat.reduceAdd, Nat.reduceSub, Nat.reduceMul, Nat.reduceEqDiff, Nat.reduceLT, Nat.reduceLeDiff, Int.reduceToNat, Int.reduceLE, Int.reduceLT, Int.reduceEq, Int.reduceNeg, reduceCtorEq] <;> (try simp) <;> (try exact fun j _ => Bd_nth (by simp [BdL, Bd]) j) <;> (try exact bd_setL (by simp [bdAs, BdL, Bd])) <;> (try exact nestF_bd _ _ _ _ _ _ _ _ _)
  · obtain rfl : i = m := by omega
    trivial
def soonestBase : BaseF := fun args => match args with
  | [.row n sz_f f_f, .row m sz_w f_w, .int .i64 a] => some ((sz_f = 3 ∧ IntR n 3 f_f) ∧ (sz_w = 1 ∧ IntR m 1 f_w) ∧ (m ≤ 1000000 ∧ ∀ k, k < m → 0 ≤ (ivf f_w) k 0 ∧ (ivf f_w) k 0 < n), .int .i64 (minW (fun k => (ivf f_w) k 0) (ivf f_f) a m))
  | _ => none
theorem soonest_eq (n : Nat) (sz_f : Nat) (f_f : Nat → Nat → SV) (m : Nat) (sz_w : Nat) (f_w : Nat → Nat → SV) (a : Int) : soonestBase [.row n sz_f f_f, .row m sz_w f_w, .int .i64 a] = some ((sz_f = 3 ∧ IntR n 3 f_f) ∧ (sz_w = 1 ∧ IntR m 1 f_w) ∧ (m ≤ 1000000 ∧ ∀ k, k < m → 0 ≤ (ivf f_w) k 0 ∧ (ivf f_w) k 0 < n), .int .i64 (minW (fun k => (ivf f_w) k 0) (ivf f_f) a m)) := rfl
theorem soonest_base : Base Try.prog 36 soonestBase := by
  intro args p v hq hp
  unfold soonestBase at hq
  split at hq
  rotate_left
  · cases hq
  rename_i n sz_f f_f m sz_w f_w a
  cases hq
  obtain ⟨⟨rfl, i_f⟩, ⟨rfl, i_w⟩, pre⟩ := hp
  refine base_of (C := cx [] [] [(53, leastBase)] [] none) (cx_ok trivial ⟨least_base, trivial⟩) rfl (g := 36) (fn := Try.f36)
    (args' := [.row n 3 (rowF .i64 (ivf f_f)), .row m 1 (rowF .i64 (ivf f_w)), .int .i64 a]) (fn_36) rfl 1000 (by
    simp only [BdL, Bd, and_self, and_true, true_and]
    exact ⟨(fun i j hi hj => by rw [i_f i j hi hj]; trivial), (fun i j hi hj => by rw [i_w i j hi hj]; trivial)⟩) ⟨SameD.int i_f, SameD.int i_w, SameD.rfl' _, trivial⟩ ?_
  generalize ivf f_f = f at *
  generalize ivf f_w = w at *
  simp only [rowF_eq]
  simp only [least_eq, Try.f36, go_sem, ↓reduceIte, Nat.reduceAdd, Nat.reduceSub, Nat.reduceMul, Nat.reduceEqDiff, Nat.reduceLT, Nat.reduceLeDiff, Int.reduceToNat, Int.reduceLE, Int.reduceLT, Int.reduceEq, Int.reduceNeg, reduceCtorEq]
  obtain ⟨hm, hw⟩ := pre
  refine loop_of { i : Nat // i ≤ m } (fun i => [(11, .int .i64 (i.1 : Int)), (10, .int .i64 (m : Int)), (9, .row m 1 fun i j => .int .i64 (w i j)), (2, .int .i64 (minW (fun k => w k 0) f a i.1)), (0, .row n 3 fun i j => .int .i64 (f i j))]) (fun _ => ⟨[], []⟩) (fun i => m - i.1) (fun _ => ⟨rfl, rfl⟩) ⟨0, by omega⟩ (by simp only [minW]; (apply sub_of <;> simp only [go_sem, ↓reduceIte, Nat.reduceAdd, Nat.reduceSub, Nat.reduceMul, Nat.reduceEqDiff, Nat.reduceLT, Nat.reduceLeDiff, Int.reduceToNat, Int.reduceLE, Int.reduceLT, Int.reduceEq, Int.reduceNeg, reduceCtorEq] <;> (try simp [catF]) <;> (try exact fun j _ => Bd_nth (by simp [BdL, Bd]) j) <;> (try exact bd_setL (by simp [bdAs, BdL, Bd])) <;> (try exact nestF_bd _ _ _ _ _ _ _ _ _))) ?_
  rintro ⟨i, hi⟩
  simp only [least_eq, Try.f36, go_sem, ↓reduceIte, Nat.reduceAdd, Nat.reduceSub, Nat.reduceMul, Nat.reduceEqDiff, Nat.reduceLT, Nat.reduceLeDiff, Int.reduceToNat, Int.reduceLE, Int.reduceLT, Int.reduceEq, Int.reduceNeg, reduceCtorEq]
  have hw3 : IntKind.i64.wrap ((i : Int) + 1) = ((i + 1 : Nat) : Int) := by rw [wrap_id (by omega) (by omega)]; omega
  have one : ∀ (x : Int) (h : HS), IntR 1 1 fun i j => frzF 3 h (nth [.int .i64 x] j) := fun x h i j hi hj => by
    obtain rfl : i = 0 := by omega
    obtain rfl : j = 0 := by omega
    rfl
  refine ⟨fun e1 => ?_, fun e1 => ?_⟩
  all_goals simp only [decide_eq_true_eq, decide_eq_false_iff_not] at e1
  · refine ⟨⟨by omega, by omega⟩, hw i (by omega), one _ _, ⟨i + 1, by omega⟩, by simp only []; omega, ?_⟩
    apply sub_of <;> simp only [hw3, minW, Int.toNat_natCast, go_sem, ↓reduceIte, Nat.reduceAdd, Nat.reduceSub, Nat.reduceMul, Nat.reduceEqDiff, Nat.reduceLT, Nat.reduceLeDiff, Int.reduceToNat, Int.reduceLE, Int.reduceLT, Int.reduceEq, Int.reduceNeg, reduceCtorEq] <;> (try simp) <;> (try exact fun j _ => Bd_nth (by simp [BdL, Bd]) j) <;> (try exact bd_setL (by simp [bdAs, BdL, Bd])) <;> (try exact nestF_bd _ _ _ _ _ _ _ _ _)
    rfl
  · obtain rfl : i = m := by omega
    trivial
def everyBase : BaseF := fun args => match args with
  | [.row n sz_f f_f] => some ((sz_f = 3 ∧ IntR n 3 f_f) ∧ (n ≤ 1000000), .row n 1 (fun i _ => .int .i64 (i : Int)))
  | _ => none
theorem every_eq (n : Nat) (sz_f : Nat) (f_f : Nat → Nat → SV) : everyBase [.row n sz_f f_f] = some ((sz_f = 3 ∧ IntR n 3 f_f) ∧ (n ≤ 1000000), .row n 1 (fun i _ => .int .i64 (i : Int))) := rfl
theorem every_base : Base Try.prog 63 everyBase := by
  intro args p v hq hp
  unfold everyBase at hq
  split at hq
  rotate_left
  · cases hq
  rename_i n sz_f f_f
  cases hq
  obtain ⟨⟨rfl, i_f⟩, pre⟩ := hp
  refine baseF_of (C := cx [] [] [] [] none) (cx_ok trivial trivial) rfl (g := 63) (fn := Try.f63)
    (args' := [.row n 3 (rowF .i64 (ivf f_f))]) (fn_63) rfl 1000 (by
    simp only [BdL, Bd, and_self, and_true, true_and]
    exact (fun i j hi hj => by rw [i_f i j hi hj]; trivial)) ⟨SameD.int i_f, trivial⟩ ?_
  generalize ivf f_f = f at *
  simp only [rowF_eq]
  simp only [Try.f63, go_sem, ↓reduceIte, Nat.reduceAdd, Nat.reduceSub, Nat.reduceMul, Nat.reduceEqDiff, Nat.reduceLT, Nat.reduceLeDiff, Int.reduceToNat, Int.reduceLE, Int.reduceLT, Int.reduceEq, Int.reduceNeg, reduceCtorEq]
  refine loop_of { i : Nat // i ≤ n } (fun i => [(7, .int .i64 (i.1 : Int)), (6, .int .i64 (n : Int)), (3, .vec 1 i.1)]) (fun i => ⟨[], [.live 0 3 1 0 (fun _ _ => .any), .live i.1 3 1 i.1 (fun i _ => .int .i64 (i : Int))]⟩) (fun i => n - i.1) (fun _ => ⟨rfl, rfl⟩) ⟨0, by omega⟩ (by (apply sub_of <;> simp only [go_sem, ↓reduceIte, Nat.reduceAdd, Nat.reduceSub, Nat.reduceMul, Nat.reduceEqDiff, Nat.reduceLT, Nat.reduceLeDiff, Int.reduceToNat, Int.reduceLE, Int.reduceLT, Int.reduceEq, Int.reduceNeg, reduceCtorEq] <;> (try simp [catF]) <;> (try exact fun j _ => Bd_nth (by simp [BdL, Bd]) j) <;> (try exact bd_setL (by simp [bdAs, BdL, Bd])) <;> (try exact nestF_bd _ _ _ _ _ _ _ _ _))) ?_
  rintro ⟨i, hi⟩
  simp only [Try.f63, go_sem, ↓reduceIte, Nat.reduceAdd, Nat.reduceSub, Nat.reduceMul, Nat.reduceEqDiff, Nat.reduceLT, Nat.reduceLeDiff, Int.reduceToNat, Int.reduceLE, Int.reduceLT, Int.reduceEq, Int.reduceNeg, reduceCtorEq]
  have hw3 : IntKind.i64.wrap ((i : Int) + 1) = ((i + 1 : Nat) : Int) := by rw [wrap_id (by omega) (by omega)]; omega
  refine ⟨fun e1 => ?_, fun e1 => ?_⟩
  all_goals simp only [decide_eq_true_eq, decide_eq_false_iff_not] at e1
  · refine ⟨⟨by omega, by omega⟩, ⟨i + 1, by omega⟩, by simp only []; omega, ?_⟩
    apply sub_of <;> simp only [hw3, go_sem, ↓reduceIte, Nat.reduceAdd, Nat.reduceSub, Nat.reduceMul, Nat.reduceEqDiff, Nat.reduceLT, Nat.reduceLeDiff, Int.reduceToNat, Int.reduceLE, Int.reduceLT, Int.reduceEq, Int.reduceNeg, reduceCtorEq] <;> (try simp) <;> (try exact fun j _ => Bd_nth (by simp [BdL, Bd]) j) <;> (try exact bd_setL (by simp [bdAs, BdL, Bd])) <;> (try exact nestF_bd _ _ _ _ _ _ _ _ _)
    exact fun x hx => catF_one (fun a => .int .i64 (a : Int)) hx
  · obtain rfl : i = n := by omega
    exact ⟨rfl, fun _ _ _ _ => trivial⟩
def allRBase : BaseF := fun args => match args with
  | [.row n sz_f f_f] => some ((sz_f = 3 ∧ IntR n 3 f_f) ∧ (n ≤ 1000000), .row n 1 (fun i _ => .int .i64 (i : Int)))
  | _ => none
theorem allR_eq (n : Nat) (sz_f : Nat) (f_f : Nat → Nat → SV) : allRBase [.row n sz_f f_f] = some ((sz_f = 3 ∧ IntR n 3 f_f) ∧ (n ≤ 1000000), .row n 1 (fun i _ => .int .i64 (i : Int))) := rfl
theorem allR_base : Base Try.prog 69 allRBase := by
  intro args p v hq hp
  unfold allRBase at hq
  split at hq
  rotate_left
  · cases hq
  rename_i n sz_f f_f
  cases hq
  obtain ⟨⟨rfl, i_f⟩, pre⟩ := hp
  refine baseF_of (C := cx [] [] [] [] none) (cx_ok trivial trivial) rfl (g := 69) (fn := Try.f69)
    (args' := [.row n 3 (rowF .i64 (ivf f_f))]) (fn_69) rfl 1000 (by
    simp only [BdL, Bd, and_self, and_true, true_and]
    exact (fun i j hi hj => by rw [i_f i j hi hj]; trivial)) ⟨SameD.int i_f, trivial⟩ ?_
  generalize ivf f_f = f at *
  simp only [rowF_eq]
  simp only [Try.f69, go_sem, ↓reduceIte, Nat.reduceAdd, Nat.reduceSub, Nat.reduceMul, Nat.reduceEqDiff, Nat.reduceLT, Nat.reduceLeDiff, Int.reduceToNat, Int.reduceLE, Int.reduceLT, Int.reduceEq, Int.reduceNeg, reduceCtorEq]
  refine loop_of { i : Nat // i ≤ n } (fun i => [(4, .int .i64 (i.1 : Int)), (3, .vec 1 i.1), (0, .row n 3 fun i j => .int .i64 (f i j))]) (fun i => ⟨[], [.live 0 3 1 0 (fun _ _ => .any), .live i.1 3 1 i.1 (fun i _ => .int .i64 (i : Int))]⟩) (fun i => n - i.1) (fun _ => ⟨rfl, rfl⟩) ⟨0, by omega⟩ (by (apply sub_of <;> simp only [go_sem, ↓reduceIte, Nat.reduceAdd, Nat.reduceSub, Nat.reduceMul, Nat.reduceEqDiff, Nat.reduceLT, Nat.reduceLeDiff, Int.reduceToNat, Int.reduceLE, Int.reduceLT, Int.reduceEq, Int.reduceNeg, reduceCtorEq] <;> (try simp [catF]) <;> (try exact fun j _ => Bd_nth (by simp [BdL, Bd]) j) <;> (try exact bd_setL (by simp [bdAs, BdL, Bd])) <;> (try exact nestF_bd _ _ _ _ _ _ _ _ _))) ?_
  rintro ⟨i, hi⟩
  simp only [Try.f69, go_sem, ↓reduceIte, Nat.reduceAdd, Nat.reduceSub, Nat.reduceMul, Nat.reduceEqDiff, Nat.reduceLT, Nat.reduceLeDiff, Int.reduceToNat, Int.reduceLE, Int.reduceLT, Int.reduceEq, Int.reduceNeg, reduceCtorEq]
  have hw3 : IntKind.i64.wrap ((i : Int) + 1) = ((i + 1 : Nat) : Int) := by rw [wrap_id (by omega) (by omega)]; omega
  refine ⟨fun e1 => ?_, fun e1 => ?_⟩
  all_goals simp only [decide_eq_true_eq, decide_eq_false_iff_not] at e1
  · refine ⟨⟨by omega, by omega⟩, ⟨i + 1, by omega⟩, by simp only []; omega, ?_⟩
    apply sub_of <;> simp only [hw3, go_sem, ↓reduceIte, Nat.reduceAdd, Nat.reduceSub, Nat.reduceMul, Nat.reduceEqDiff, Nat.reduceLT, Nat.reduceLeDiff, Int.reduceToNat, Int.reduceLE, Int.reduceLT, Int.reduceEq, Int.reduceNeg, reduceCtorEq] <;> (try simp) <;> (try exact fun j _ => Bd_nth (by simp [BdL, Bd]) j) <;> (try exact bd_setL (by simp [bdAs, BdL, Bd])) <;> (try exact nestF_bd _ _ _ _ _ _ _ _ _)
    exact fun x hx => catF_one (fun a => .int .i64 (a : Int)) hx
  · obtain rfl : i = n := by omega
    exact ⟨rfl, fun _ _ _ _ => trivial⟩
def strengthPBase : BaseF := fun args => match args with
  | [.row n sz_f f_f] => some ((sz_f = 3 ∧ IntR n 3 f_f) ∧ (n ≤ 1000000), .int .i64 (5 - (nS (pl n (ivf f_f)) : Int)))
  | _ => none
theorem strengthP_eq (n : Nat) (sz_f : Nat) (f_f : Nat → Nat → SV) : strengthPBase [.row n sz_f f_f] = some ((sz_f = 3 ∧ IntR n 3 f_f) ∧ (n ≤ 1000000), .int .i64 (5 - (nS (pl n (ivf f_f)) : Int))) := rfl
theorem strengthP_base : Base Try.prog 64 strengthPBase := by
  intro args p v hq hp
  unfold strengthPBase at hq
  split at hq
  rotate_left
  · cases hq
  rename_i n sz_f f_f
  cases hq
  obtain ⟨⟨rfl, i_f⟩, pre⟩ := hp
  refine base_of (C := cx [] [] [(35, servedPBase)] [] none) (cx_ok trivial ⟨servedP_base, trivial⟩) rfl (g := 64) (fn := Try.f64)
    (args' := [.row n 3 (rowF .i64 (ivf f_f))]) (fn_64) rfl 1000 (by
    simp only [BdL, Bd, and_self, and_true, true_and]
    exact (fun i j hi hj => by rw [i_f i j hi hj]; trivial)) ⟨SameD.int i_f, trivial⟩ ?_
  generalize ivf f_f = f at *
  simp only [rowF_eq]
  simp only [servedP_eq, Try.f64, go_sem, ↓reduceIte, Nat.reduceAdd, Nat.reduceSub, Nat.reduceMul, Nat.reduceEqDiff, Nat.reduceLT, Nat.reduceLeDiff, Int.reduceToNat, Int.reduceLE, Int.reduceLT, Int.reduceEq, Int.reduceNeg, reduceCtorEq]
  have := nS_le (pl n f)
  rw [wrap_id (by omega) (by omega)]
  exact ⟨pre, rfl⟩
def strengthRBase : BaseF := fun args => match args with
  | [.row n sz_f f_f] => some ((sz_f = 3 ∧ IntR n 3 f_f) ∧ (n ≤ 1000000), .int .i64 (5 - (nS (pl n (ivf f_f)) : Int)))
  | _ => none
theorem strengthR_eq (n : Nat) (sz_f : Nat) (f_f : Nat → Nat → SV) : strengthRBase [.row n sz_f f_f] = some ((sz_f = 3 ∧ IntR n 3 f_f) ∧ (n ≤ 1000000), .int .i64 (5 - (nS (pl n (ivf f_f)) : Int))) := rfl
theorem strengthR_base : Base Try.prog 65 strengthRBase := by
  intro args p v hq hp
  unfold strengthRBase at hq
  split at hq
  rotate_left
  · cases hq
  rename_i n sz_f f_f
  cases hq
  obtain ⟨⟨rfl, i_f⟩, pre⟩ := hp
  refine base_of (C := cx [] [] [(22, servedRBase)] [] none) (cx_ok trivial ⟨servedR_base, trivial⟩) rfl (g := 65) (fn := Try.f65)
    (args' := [.row n 3 (rowF .i64 (ivf f_f))]) (fn_65) rfl 1000 (by
    simp only [BdL, Bd, and_self, and_true, true_and]
    exact (fun i j hi hj => by rw [i_f i j hi hj]; trivial)) ⟨SameD.int i_f, trivial⟩ ?_
  generalize ivf f_f = f at *
  simp only [rowF_eq]
  simp only [servedR_eq, Try.f65, go_sem, ↓reduceIte, Nat.reduceAdd, Nat.reduceSub, Nat.reduceMul, Nat.reduceEqDiff, Nat.reduceLT, Nat.reduceLeDiff, Int.reduceToNat, Int.reduceLE, Int.reduceLT, Int.reduceEq, Int.reduceNeg, reduceCtorEq]
  have := nS_le (pl n f)
  rw [wrap_id (by omega) (by omega)]
  exact ⟨pre, rfl⟩
end Go.Eng
end

/- clock: penalties that are over are taken out. -/
section
namespace Go.Eng
open Go Go.RowKit Go.Proofs
set_option maxRecDepth 100000
set_option maxHeartbeats 4000000
attribute [local irreducible] OwnT DefS
/-- What is left of the first j. -/
def keepL (f : Nat → Nat → Int) (j : Nat) : List Pen := (pl j f).filter (fun p => decide (p.l ≠ 0))
theorem keepL_succ (f : Nat → Nat → Int) (j : Nat) : keepL f (j + 1) = if f j 2 = 0 then keepL f j else keepL f j ++ [pn f j] := by
  unfold keepL
  rw [pl_succ, List.filter_append]
  by_cases h : f j 2 = 0
  · simp [pn, h]
  · simp [pn, h]
theorem keepL_len (f : Nat → Nat → Int) (j : Nat) : (keepL f j).length ≤ j := by
  have := List.length_filter_le (fun p : Pen => decide (p.l ≠ 0)) (pl j f)
  rw [pl_len] at this
  exact this
theorem keepL_all {f : Nat → Nat → Int} : ∀ {j : Nat}, (∀ i, i < j → f i 2 ≠ 0) → keepL f j = pl j f
  | 0, _ => rfl
  | j + 1, h => by rw [keepL_succ, if_neg (h j (by omega)), keepL_all (fun i hi => h i (by omega)), pl_succ]
/-- Memory in between: the first i are what is left of the first j, from j on nothing is changed. -/
def MidF (N : Nat) (f : Nat → Nat → Int) (j : Nat) (g : Nat → Nat → Int) : Prop :=
  j ≤ N ∧ (keepL f j).length < j ∧ (∀ x c, x < (keepL f j).length → c < 3 → g x c = pf (keepL f j) x c) ∧ ∀ x c, j ≤ x → x < N → c < 3 → g x c = f x c
theorem del_calls {v N : Nat} {f : Nat → Nat → Int} (hN : N ≤ 1000000) :
    CallsS Try.prog 54 [.vec 0 v, .func 55 []] ⟨[], [.live v 55 3 N (fun i j => .int .i64 (f i j))]⟩ (fun o h' => ∃ v', o = .ret (.vec 0 v') ∧ h' = ⟨[], [.live v' 55 3 (keepL f N).length (fun i j => .int .i64 (pf (keepL f N) i j))]⟩) := by
  refine calls_trim (K := fun o h' => ∃ (F : Nat → Nat → SV) (v' : Nat) (B : List Blk) (V : List Vc), (∀ i j, i < (keepL f N).length → j < 3 → F i j = .int .i64 (pf (keepL f N) i j)) ∧ o = .ret (.vec 0 v') ∧ h' = ⟨B, .live v' 55 3 (keepL f N).length F :: V⟩) ?_ ?_
  · refine calls_bump (K := fun o h' => ∃ (F : Nat → Nat → SV) (B : List Blk) (V : List Vc), (∀ i j, i < (keepL f N).length → j < 3 → F i j = .int .i64 (pf (keepL f N) i j)) ∧ (o = .ret (.vec 0 v) ∧ (keepL f N).length = N ∨ ∃ x, o = .ret (.vcut 0 v 3 0 (keepL f N).length x)) ∧ h' = ⟨B, .live v 55 3 N F :: V⟩) ?_ ?_
    · refine calls_of_run (C := cx [] [] [] [] none) (cx_ok trivial trivial) rfl fn_54 rfl 1000 ?_
      simp only [Try.f54, Try.f51, Try.f55, go_sem, ↓reduceIte, Nat.reduceAdd, Nat.reduceSub, Nat.reduceMul, Nat.reduceEqDiff, Nat.reduceLT, Nat.reduceLeDiff, Int.reduceToNat, Int.reduceLE, Int.reduceLT, Int.reduceEq, Int.reduceNeg, reduceCtorEq]
      refine loop_ofH { i : Nat // i ≤ N ∧ ∀ j, j < i → f j 2 ≠ 0 } (fun i => [(8, .int .i64 (i.1 : Int)), (7, .int .i64 (N : Int)), (1, .func 55 []), (0, .vec 0 v)]) (fun h _ => h) (fun i => N - i.1) (fun _ => ⟨rfl, rfl⟩) ⟨0, by omega, fun j hj => by omega⟩ (by (apply sub_of <;> simp only [go_sem, ↓reduceIte, Nat.reduceAdd, Nat.reduceSub, Nat.reduceMul, Nat.reduceEqDiff, Nat.reduceLT, Nat.reduceLeDiff, Int.reduceToNat, Int.reduceLE, Int.reduceLT, Int.reduceEq, Int.reduceNeg, reduceCtorEq] <;> (try simp [catF]) <;> (try exact fun j _ => Bd_nth (by simp [BdL, Bd]) j) <;> (try exact bd_setL (by simp [bdAs, BdL, Bd])) <;> (try exact nestF_bd _ _ _ _ _ _ _ _ _))) ?_
      rintro ⟨i, hi, h3⟩
      simp only [Try.f54, Try.f51, Try.f55, go_sem, ↓reduceIte, Nat.reduceAdd, Nat.reduceSub, Nat.reduceMul, Nat.reduceEqDiff, Nat.reduceLT, Nat.reduceLeDiff, Int.reduceToNat, Int.reduceLE, Int.reduceLT, Int.reduceEq, Int.reduceNeg, reduceCtorEq]
      have hw3 : ∀ i : Nat, i ≤ N → IntKind.i64.wrap ((i : Int) + 1) = ((i + 1 : Nat) : Int) := fun i h => by rw [wrap_id (by omega) (by omega)]; omega
      refine ⟨fun e1 => ⟨⟨by omega, by simpa using e1⟩, by simpa using e1, fun e2 => ?_, fun e2 => ?_⟩, fun e1 => ?_⟩
      all_goals simp only [decide_eq_true_eq, decide_eq_false_iff_not] at e1
      all_goals try simp only [decide_eq_true_eq, decide_eq_false_iff_not] at e2
      · have k0 : keepL f i = pl i f := keepL_all h3
        have k1 : keepL f (i + 1) = pl i f := by rw [keepL_succ, if_pos e2, k0]
        refine loop_ofH { x : Nat × (Nat → Nat → Int) // MidF N f x.1 x.2 } (fun x => [(6, .int .i64 (x.1.1 : Int)), (5, .int .i64 ((keepL f x.1.1).length : Int)), (1, .func 55 []), (0, .vec 0 v)]) (fun h x => ⟨[getB h.blks 0], [.live v 55 3 N (fun i j => .int .i64 (x.1.2 i j)), .live 0 55 3 0 (fun _ _ => .any)]⟩) (fun x => N - x.1.1) (fun _ => ⟨rfl, rfl⟩)
          ⟨(i + 1, f), by omega, by rw [k1, pl_len]; omega, fun x c hx hc => by rw [k1, pl_len] at hx; rw [k1, pf_pl hx hc], fun x c _ _ _ => rfl⟩ (by simp only [k1, pl_len, hw3 i hi]; (apply sub_of <;> simp only [go_sem, ↓reduceIte, Nat.reduceAdd, Nat.reduceSub, Nat.reduceMul, Nat.reduceEqDiff, Nat.reduceLT, Nat.reduceLeDiff, Int.reduceToNat, Int.reduceLE, Int.reduceLT, Int.reduceEq, Int.reduceNeg, reduceCtorEq] <;> (try simp [catF]) <;> (try exact fun j _ => Bd_nth (by simp [BdL, Bd]) j) <;> (try exact bd_setL (by simp [bdAs, BdL, Bd])) <;> (try exact nestF_bd _ _ _ _ _ _ _ _ _))) ?_
        rintro ⟨⟨j, g⟩, hj, hk, hg1, hg2⟩
        simp only at hj hk hg1 hg2
        simp only [Try.f54, Try.f51, Try.f55, go_sem, ↓reduceIte, Nat.reduceAdd, Nat.reduceSub, Nat.reduceMul, Nat.reduceEqDiff, Nat.reduceLT, Nat.reduceLeDiff, Int.reduceToNat, Int.reduceLE, Int.reduceLT, Int.reduceEq, Int.reduceNeg, reduceCtorEq]
        have hw4 : IntKind.i64.wrap (((keepL f j).length : Int) + 1) = (((keepL f j).length + 1 : Nat) : Int) := hw3 _ (by omega)
        refine ⟨fun e3 => ⟨by simp at e3; omega, by simpa using e3, fun e4 => ⟨by omega, by omega, ?_⟩, fun e4 => ?_⟩, fun e3 => ⟨by omega, by omega, ?_⟩⟩
        all_goals simp only [decide_eq_true_eq, decide_eq_false_iff_not] at e3
        · simp only [Bool.not_eq_true', decide_eq_false_iff_not] at e4
          have gj : ∀ c, c < 3 → g j c = f j c := fun c hc => hg2 j c (Nat.le_refl _) (by omega) hc
          have k2 : keepL f (j + 1) = keepL f j ++ [pn f j] := by rw [keepL_succ, if_neg (by rw [← gj 2 (by omega)]; exact e4)]
          refine ⟨⟨(j + 1, fun x c => if x = (keepL f j).length then f j c else g x c), by omega, by rw [k2]; simp; omega, fun x c hx hc => ?_, fun x c h1 h2 hc => ?_⟩, by simp only []; omega, ?_⟩
          · simp only [k2, List.length_append, List.length_singleton] at hx ⊢
            rw [pf_app]
            split
            · rename_i h; rw [if_neg (by omega), h]; simp only [Nat.sub_self]
              rw [show pf [pn f j] 0 c = pe (pn f j) c from rfl, pe_pn hc]
            · rw [if_pos (by omega)]; exact hg1 x c (by omega) hc
          · simp only []; rw [if_neg (by omega)]; exact hg2 x c (by omega) h2 hc
          · apply sub_of <;> simp only [hw3 j hj, hw4, k2, List.length_append, List.length_singleton, go_sem, ↓reduceIte, Nat.reduceAdd, Nat.reduceSub, Nat.reduceMul, Nat.reduceEqDiff, Nat.reduceLT, Nat.reduceLeDiff, Int.reduceToNat, Int.reduceLE, Int.reduceLT, Int.reduceEq, Int.reduceNeg, reduceCtorEq] <;> (try simp) <;> (try exact fun j _ => Bd_nth (by simp [BdL, Bd]) j) <;> (try exact bd_setL (by simp [bdAs, BdL, Bd])) <;> (try exact nestF_bd _ _ _ _ _ _ _ _ _)
            intro x c hx hc
            by_cases h : x = (keepL f j).length
            · rw [if_pos ⟨h, hc⟩, if_pos h, ← gj c hc]
              have : c = 0 ∨ c = 1 ∨ c = 2 := by omega
              rcases this with rfl | rfl | rfl <;> rfl
            · rw [if_neg (fun q => h q.1), if_neg h]
        · simp only [Bool.not_eq_false', decide_eq_true_eq] at e4
          have gj : g j 2 = f j 2 := hg2 j 2 (Nat.le_refl _) (by omega) (by omega)
          have k2 : keepL f (j + 1) = keepL f j := by rw [keepL_succ, if_pos (by rw [← gj]; exact e4)]
          refine ⟨⟨(j + 1, g), by omega, by rw [k2]; omega, by rw [k2]; exact hg1, fun x c h1 h2 hc => hg2 x c (by omega) h2 hc⟩, by simp only []; omega, ?_⟩
          apply sub_of <;> (try simp only [hw3 j hj, k2, go_sem, ↓reduceIte, Nat.reduceAdd, Nat.reduceSub, Nat.reduceMul, Nat.reduceEqDiff, Nat.reduceLT, Nat.reduceLeDiff, Int.reduceToNat, Int.reduceLE, Int.reduceLT, Int.reduceEq, Int.reduceNeg, reduceCtorEq]) <;> (try simp) <;> (try exact fun j _ => Bd_nth (by simp [BdL, Bd]) j) <;> (try exact bd_setL (by simp [bdAs, BdL, Bd])) <;> (try exact nestF_bd _ _ _ _ _ _ _ _ _)
        · obtain rfl : j = N := by omega
          refine ⟨_, _, _, ?_, .inr ⟨false, rfl⟩, rfl⟩
          intro a c ha hc
          simp only [clrF]
          rw [if_neg (by omega), hg1 a c ha hc]
      · refine ⟨⟨i + 1, by omega, fun j hj => ?_⟩, by simp only []; omega, ?_⟩
        · rcases Nat.lt_or_ge j i with h | h
          · exact h3 j h
          · obtain rfl : j = i := by omega
            exact e2
        · apply sub_of <;> simp only [hw3 i hi, go_sem, ↓reduceIte, Nat.reduceAdd, Nat.reduceSub, Nat.reduceMul, Nat.reduceEqDiff, Nat.reduceLT, Nat.reduceLeDiff, Int.reduceToNat, Int.reduceLE, Int.reduceLT, Int.reduceEq, Int.reduceNeg, reduceCtorEq] <;> (try simp) <;> (try exact fun j _ => Bd_nth (by simp [BdL, Bd]) j) <;> (try exact bd_setL (by simp [bdAs, BdL, Bd])) <;> (try exact nestF_bd _ _ _ _ _ _ _ _ _)
      · obtain rfl : i = N := by omega
        have k0 : keepL f i = pl i f := keepL_all h3
        exact ⟨_, _, _, fun a b ha hb => by rw [k0, pl_len] at ha; rw [k0, pf_pl ha hb], .inl (by rw [k0, pl_len]), rfl⟩
    · rintro o h' ⟨F, B, V, hF, ho, rfl⟩
      refine ⟨0, v, 55, 3, N, (keepL f N).length, F, ?_, rfl, F, v + 1, B, V, hF, rfl, rfl⟩
      rcases ho with ⟨h1, h2⟩ | ⟨x, h1⟩
      · exact .inl ⟨h1, h2⟩
      · exact .inr ⟨x, h1⟩
  · rintro o h' ⟨F, v', B, V, hF, rfl, rfl⟩
    refine ⟨.vec 0 v', .vec 0 v', ⟨[], [.live v' 55 3 (keepL f N).length (fun i j => .int .i64 (pf (keepL f N) i j))]⟩, ⟨rfl, v', rfl, rfl⟩, ⟨?_, ?_, ?_, ?_, ?_, ?_⟩, ⟨?_, ?_⟩, ⟨?_, ?_⟩⟩ <;> (try simp only [go_sem, ↓reduceIte, Nat.reduceAdd, Nat.reduceSub, Nat.reduceMul, Nat.reduceEqDiff, Nat.reduceLT, Nat.reduceLeDiff, Int.reduceToNat, Int.reduceLE, Int.reduceLT, Int.reduceEq, Int.reduceNeg, reduceCtorEq]) <;> (try simp)
    exact hF
/-- The same, wherever the slice lies. -/
theorem vec_at {g : Nat} {v N : Nat} {f : Nat → Nat → Int} {L : List Pen} {xs : List SV} (hb1 : BdL 0 1 xs) (hx' : ∀ b u, renL b u xs = xs)
    (hc : CallsS Try.prog g (.vec 0 v :: xs) ⟨[], [.live v 55 3 N (fun i j => .int .i64 (f i j))]⟩ (fun o h' => ∃ v', o = .ret (.vec 0 v') ∧ h' = ⟨[], [.live v' 55 3 L.length (fun i j => .int .i64 (pf L i j))]⟩))
    (h : HS) (k : Nat) (hk : getV h.vecs k = .live v 55 3 N (fun i j => .int .i64 (f i j))) :
    CallsS Try.prog g (.vec k v :: xs) h (fun o h' => ∃ v', o = .ret (.vec k v') ∧ h' = ⟨h.blks, setV h.vecs k (.live v' 55 3 L.length (fun i j => .int .i64 (pf L i j)))⟩) := by
  have := calls_ren (h := h) [] [k] hc (by simp) (by simp) ⟨by simp [Bd], hb1⟩ (by simp [bdB]) (by simp [bdV, Bd])
    (by simp only [go_sem, ↓reduceIte, Nat.reduceAdd, Nat.reduceSub, Nat.reduceMul, Nat.reduceEqDiff, Nat.reduceLT, Nat.reduceLeDiff, Int.reduceToNat, Int.reduceLE, Int.reduceLT, Int.reduceEq, Int.reduceNeg, reduceCtorEq]) ⟨by simp only [go_sem, ↓reduceIte, Nat.reduceAdd, Nat.reduceSub, Nat.reduceMul, Nat.reduceEqDiff, Nat.reduceLT, Nat.reduceLeDiff, Int.reduceToNat, Int.reduceLE, Int.reduceLT, Int.reduceEq, Int.reduceNeg, reduceCtorEq]; exact hk, trivial⟩ (by simp) (by intro k' hk'; simp at hk'; subst hk'; exact getV_lt hk)
    (by rintro o h' ⟨v', rfl, rfl⟩; simp [bdO, bdB, bdV, BdL, Bd, lenB, lenV])
  simp only [renL, hx'] at this
  simp only [go_sem, ↓reduceIte, Nat.reduceAdd, Nat.reduceSub, Nat.reduceMul, Nat.reduceEqDiff, Nat.reduceLT, Nat.reduceLeDiff, Int.reduceToNat, Int.reduceLE, Int.reduceLT, Int.reduceEq, Int.reduceNeg, reduceCtorEq] at this
  refine calls_mono ?_ this
  rintro o h' ⟨o0, h0', ⟨v', rfl, rfl⟩, rfl, rfl⟩
  exact ⟨v', by simp only [go_sem, ↓reduceIte, Nat.reduceAdd, Nat.reduceSub, Nat.reduceMul, Nat.reduceEqDiff, Nat.reduceLT, Nat.reduceLeDiff, Int.reduceToNat, Int.reduceLE, Int.reduceLT, Int.reduceEq, Int.reduceNeg, reduceCtorEq], by simp only [go_sem, ↓reduceIte, Nat.reduceAdd, Nat.reduceSub, Nat.reduceMul, Nat.reduceEqDiff, Nat.reduceLT, Nat.reduceLeDiff, Int.reduceToNat, Int.reduceLE, Int.reduceLT, Int.reduceEq, Int.reduceNeg, reduceCtorEq]⟩
theorem del_at {v N : Nat} {f : Nat → Nat → Int} (hN : N ≤ 1000000) (h : HS) (k : Nat) (hk : getV h.vecs k = .live v 55 3 N (fun i j => .int .i64 (f i j))) :
    CallsS Try.prog 54 [.vec k v, .func 55 []] h (fun o h' => ∃ v', o = .ret (.vec k v') ∧ h' = ⟨h.blks, setV h.vecs k (.live v' 55 3 (keepL f N).length (fun i j => .int .i64 (pf (keepL f N) i j)))⟩) :=
  vec_at (xs := [.func 55 []]) (by simp [BdL, Bd]) (fun _ _ => rfl) (del_calls hN) h k hk
end Go.Eng
end

/- clock: seconds pass for some penalties. -/
section
namespace Go.Eng
open Go Go.RowKit Go.Proofs
set_option maxRecDepth 100000
set_option maxHeartbeats 4000000
attribute [local irreducible] OwnT DefS
def decF (m : Nat) (w : Nat → Int) (n : Int) (f : Nat → Nat → Int) (i j : Nat) : Int := if j = 2 ∧ ∃ k, k < m ∧ w k = i then f i j - n else f i j
theorem decW_pl {m : Nat} {w : Nat → Int} {n : Int} {N : Nat} {f : Nat → Nat → Int} : decW m w n (pl N f) = pl N (decF m w n f) := by
  unfold decW
  rw [pl_len]
  apply pl_congr
  intro i j hi hj
  simp only [decF, pf_pl hi hj]
theorem decF_succ {m : Nat} {w : Nat → Int} {n : Int} {f : Nat → Nat → Int} (inj : ∀ j k, j < m + 1 → k < m + 1 → w j = w k → j = k) {i j : Nat} :
    decF (m + 1) w n f i j = if j = 2 ∧ w m = i then f i j - n else decF m w n f i j := by
  unfold decF
  by_cases h : j = 2 ∧ w m = i
  · rw [if_pos h, if_pos ⟨h.1, m, by omega, h.2⟩]
  · rw [if_neg h]
    by_cases h2 : j = 2 ∧ ∃ k, k < m ∧ w k = i
    · obtain ⟨h3, k, h4, h5⟩ := h2
      rw [if_pos ⟨h3, k, by omega, h5⟩, if_pos ⟨h3, k, h4, h5⟩]
    · rw [if_neg h2, if_neg]
      rintro ⟨h3, k, h4, h5⟩
      rcases Nat.lt_or_ge k m with h6 | h6
      · exact h2 ⟨h3, k, h6, h5⟩
      · obtain rfl : k = m := by omega
        exact h ⟨h3, h5⟩
theorem decF_new {m : Nat} {w : Nat → Int} {n : Int} {f : Nat → Nat → Int} (inj : ∀ j k, j < m + 1 → k < m + 1 → w j = w k → j = k) {i : Nat} (hi : w m = i) (j : Nat) : decF m w n f i j = f i j := by
  unfold decF
  rw [if_neg]
  rintro ⟨h3, k, h4, h5⟩
  have := inj k m (by omega) (by omega) (h5.trans hi.symm)
  omega
theorem gone_calls {v N m : Nat} {f : Nat → Nat → Int} {w : Nat → Int} {n : Int} (hN : N ≤ 1000000) (hm : m ≤ 1000000) (hw : ∀ k, k < m → 0 ≤ w k ∧ w k < N) (inj : ∀ j k, j < m → k < m → w j = w k → j = k)
    (hf : ∀ i, i < N → 0 ≤ f i 2 ∧ f i 2 ≤ 1000) (hn : 0 ≤ n ∧ n ≤ 10000000) :
    CallsS Try.prog 37 [.vec 0 v, .row m 1 (fun k _ => .int .i64 (w k)), .int .i64 n] ⟨[], [.live v 55 3 N (fun i j => .int .i64 (f i j))]⟩
      (fun o h' => ∃ v', o = .ret (.vec 0 v') ∧ h' = ⟨[], [.live v' 55 3 (goneW m w n (pl N f)).length (fun i j => .int .i64 (pf (goneW m w n (pl N f)) i j))]⟩) := by
  have hk : goneW m w n (pl N f) = keepL (decF m w n f) N := by unfold goneW keepL; rw [decW_pl]
  rw [hk]
  refine calls_trim (K := fun o h' => ∃ (v' : Nat) (V : List Vc), o = .ret (.vec 0 v') ∧ h' = ⟨[], .live v' 55 3 (keepL (decF m w n f) N).length (fun i j => .int .i64 (pf (keepL (decF m w n f) N) i j)) :: V⟩) ?_ ?_
  · refine calls_of_run (C := cx [54] [] [] [] none) (cx_ok trivial trivial) rfl fn_37 rfl 1000 ?_
    simp only [Try.f37, go_sem, ↓reduceIte, Nat.reduceAdd, Nat.reduceSub, Nat.reduceMul, Nat.reduceEqDiff, Nat.reduceLT, Nat.reduceLeDiff, Int.reduceToNat, Int.reduceLE, Int.reduceLT, Int.reduceEq, Int.reduceNeg, reduceCtorEq]
    refine loop_ofH { i : Nat // i ≤ m } (fun i => [(11, .int .i64 (i.1 : Int)), (10, .int .i64 (m : Int)), (9, .row m 1 (fun k _ => .int .i64 (w k))), (2, .int .i64 n), (0, .vec 0 v)]) (fun h i => ⟨[], [.live v 55 3 N (fun a c => .int .i64 (decF i.1 w n f a c)), .live 0 55 3 0 (fun _ _ => .any)]⟩) (fun i => m - i.1) (fun _ => ⟨rfl, rfl⟩) ⟨0, by omega⟩ (by (apply sub_of <;> simp only [go_sem, ↓reduceIte, Nat.reduceAdd, Nat.reduceSub, Nat.reduceMul, Nat.reduceEqDiff, Nat.reduceLT, Nat.reduceLeDiff, Int.reduceToNat, Int.reduceLE, Int.reduceLT, Int.reduceEq, Int.reduceNeg, reduceCtorEq] <;> (try simp [catF]) <;> (try exact fun j _ => Bd_nth (by simp [BdL, Bd]) j) <;> (try exact bd_setL (by simp [bdAs, BdL, Bd])) <;> (try exact nestF_bd _ _ _ _ _ _ _ _ _)); intro x c _ _; rw [decF, if_neg (by rintro ⟨_, k, h, _⟩; omega)]) ?_
    rintro ⟨i, hi⟩
    simp only [Try.f37, go_sem, ↓reduceIte, Nat.reduceAdd, Nat.reduceSub, Nat.reduceMul, Nat.reduceEqDiff, Nat.reduceLT, Nat.reduceLeDiff, Int.reduceToNat, Int.reduceLE, Int.reduceLT, Int.reduceEq, Int.reduceNeg, reduceCtorEq]
    have hw3 : IntKind.i64.wrap ((i : Int) + 1) = ((i + 1 : Nat) : Int) := by rw [wrap_id (by omega) (by omega)]; omega
    refine ⟨fun e1 => ?_, fun e1 => ?_⟩
    all_goals simp only [decide_eq_true_eq, decide_eq_false_iff_not] at e1
    · have hwi := hw i (by omega)
      have inj1 : ∀ j k, j < i + 1 → k < i + 1 → w j = w k → j = k := fun j k h1 h2 => inj j k (by omega) (by omega)
      have hnew := decF_new (n := n) (f := f) inj1 (i := (w i).toNat) (by omega)
      have hfi := hf (w i).toNat (by omega)
      have hd : IntKind.i64.wrap (decF i w n f (w i).toNat 2 - n) = f (w i).toNat 2 - n := by rw [hnew, wrap_id (by omega) (by omega)]
      refine ⟨⟨by omega, by omega⟩, hwi, by omega, hwi, by omega, ⟨i + 1, by omega⟩, by simp only []; omega, ?_⟩
      apply sub_of <;> simp only [hw3, hd, go_sem, ↓reduceIte, Nat.reduceAdd, Nat.reduceSub, Nat.reduceMul, Nat.reduceEqDiff, Nat.reduceLT, Nat.reduceLeDiff, Int.reduceToNat, Int.reduceLE, Int.reduceLT, Int.reduceEq, Int.reduceNeg, reduceCtorEq] <;> (try simp) <;> (try exact fun j _ => Bd_nth (by simp [BdL, Bd]) j) <;> (try exact bd_setL (by simp [bdAs, BdL, Bd])) <;> (try exact nestF_bd _ _ _ _ _ _ _ _ _)
      intro x c hx hc
      rw [decF_succ inj1]
      by_cases h : c = 2 ∧ w i = x
      · obtain ⟨rfl, h⟩ := h
        have : x = (w i).toNat := by omega
        subst this
        simp [nth]
        intro q
        omega
      · rw [if_neg h, if_neg (by omega)]
    · obtain rfl : i = m := by omega
      unfold callS
      refine calls_mono ?_ (del_at hN _ 0 rfl)
      rintro o h' ⟨v', rfl, rfl⟩
      simp only [Try.f37, go_sem, ↓reduceIte, Nat.reduceAdd, Nat.reduceSub, Nat.reduceMul, Nat.reduceEqDiff, Nat.reduceLT, Nat.reduceLeDiff, Int.reduceToNat, Int.reduceLE, Int.reduceLT, Int.reduceEq, Int.reduceNeg, reduceCtorEq]
      exact ⟨v', _, rfl, rfl⟩
  · rintro o h' ⟨v', V, rfl, rfl⟩
    refine ⟨.vec 0 v', .vec 0 v', ⟨[], [.live v' 55 3 (keepL (decF m w n f) N).length (fun i j => .int .i64 (pf (keepL (decF m w n f) N) i j))]⟩, ⟨rfl, v', rfl, rfl⟩, ⟨?_, ?_, ?_, ?_, ?_, ?_⟩, ⟨?_, ?_⟩, ⟨?_, ?_⟩⟩ <;> (try simp only [go_sem, ↓reduceIte, Nat.reduceAdd, Nat.reduceSub, Nat.reduceMul, Nat.reduceEqDiff, Nat.reduceLT, Nat.reduceLeDiff, Int.reduceToNat, Int.reduceLE, Int.reduceLT, Int.reduceEq, Int.reduceNeg, reduceCtorEq]) <;> (try simp)
theorem gone_at {v N m : Nat} {f : Nat → Nat → Int} {w : Nat → Int} {n : Int} (hN : N ≤ 1000000) (hm : m ≤ 1000000) (hw : ∀ k, k < m → 0 ≤ w k ∧ w k < N) (inj : ∀ j k, j < m → k < m → w j = w k → j = k)
    (hf : ∀ i, i < N → 0 ≤ f i 2 ∧ f i 2 ≤ 1000) (hn : 0 ≤ n ∧ n ≤ 10000000) (h : HS) (k : Nat) (hk : getV h.vecs k = .live v 55 3 N (fun i j => .int .i64 (f i j))) :
    CallsS Try.prog 37 [.vec k v, .row m 1 (fun k _ => .int .i64 (w k)), .int .i64 n] h
      (fun o h' => ∃ v', o = .ret (.vec k v') ∧ h' = ⟨h.blks, setV h.vecs k (.live v' 55 3 (goneW m w n (pl N f)).length (fun i j => .int .i64 (pf (goneW m w n (pl N f)) i j)))⟩) :=
  vec_at (xs := [.row m 1 (fun k _ => .int .i64 (w k)), .int .i64 n]) (by simp [BdL, Bd]) (fun _ _ => rfl) (gone_calls hN hm hw inj hf hn) h k hk
end Go.Eng
end

/- clock: a game as it goes (plain). -/
section
namespace Go.Eng
open Go Go.RowKit Go.Proofs
set_option maxRecDepth 100000
set_option maxHeartbeats 4000000
attribute [local irreducible] OwnT DefS
structure Bo where
  per : Int
  pl : Int
  run : Bool
  g0 : Int
  g1 : Int
  p0 : List Pen
  p1 : List Pen
  m0 : List Pen
  m1 : List Pen
deriving DecidableEq
def Bo.z : Bo := ⟨0, 0, false, 0, 0, [], [], [], []⟩
def goneS (n : Int) (l : List Pen) : List Pen := goneW (nS l) (wS l) n l
def goneM (n : Int) (l : List Pen) : List Pen := goneW l.length (fun k => (k : Int)) n l
/-- So many seconds at once. -/
def Bo.pass (n : Int) (b : Bo) : Bo := ⟨b.per, b.pl + n, decide (b.pl + n < 1200), b.g0, b.g1, goneS n b.p0, goneS n b.p1, goneM n b.m0, goneM n b.m1⟩
def stren (l : List Pen) : Int := 5 - (nS l : Int)
def minS (l : List Pen) (n : Int) : Int := minW (wS l) (pf l) n (nS l)
def minM (l : List Pen) (n : Int) : Int := minW (fun k => (k : Int)) (pf l) n l.length
/-- What both teams can do with. -/
def minB (b : Bo) (n : Int) : Int := minM b.m1 (minS b.p1 (minM b.m0 (minS b.p0 n)))
def addOut (out : List Pen) (from' x y : Int) : List Pen := if out = [] ∨ ¬ ((out.getD (out.length - 1) ⟨0, 0, 0⟩).k = x ∧ (out.getD (out.length - 1) ⟨0, 0, 0⟩).l = y) then out ++ [⟨from', x, y⟩] else out
structure Ga where
  b : Bo
  now : Int
  out : List Pen
def Ga.n (s : Ga) (to : Int) : Int := minB s.b (min (to - s.now) (1200 - s.b.pl))
def Ga.step (s : Ga) (to : Int) : Ga := ⟨s.b.pass (s.n to), s.now + s.n to, addOut s.out (s.b.per * 1200 + s.b.pl) (stren s.b.p0) (stren s.b.p1)⟩
def passP : Nat → Ga → Int → Ga
  | 0, s, to => ⟨s.b, to, s.out⟩
  | k + 1, s, to => if s.b.run = true ∧ s.now < to then passP k (s.step to) to else ⟨s.b, to, s.out⟩
/-- Penalties that can be. -/
def lOk (l : List Pen) : Prop := l.length ≤ 100000 ∧ ∀ p ∈ l, 1 ≤ p.l ∧ p.l ≤ 1000
structure Bo.Ok (b : Bo) : Prop where
  per : 0 ≤ b.per ∧ b.per ≤ 2
  pl : 0 ≤ b.pl ∧ b.pl ≤ 1200
  run : b.run = true → b.pl < 1200
  g0 : 0 ≤ b.g0 ∧ b.g0 ≤ 100000
  g1 : 0 ≤ b.g1 ∧ b.g1 ≤ 100000
  p0 : lOk b.p0
  p1 : lOk b.p1
  m0 : lOk b.m0
  m1 : lOk b.m1
structure Ga.Ok (s : Ga) : Prop where
  b : s.b.Ok
  now : 0 ≤ s.now ∧ s.now ≤ 1048576
  out : (s.out.length : Int) ≤ s.b.per * 1200 + s.b.pl
theorem lOk_pf {l : List Pen} (h : lOk l) {i : Nat} (hi : i < l.length) : 1 ≤ pf l i 2 ∧ pf l i 2 ≤ 1000 := by
  have := h.2 _ (pf_mem hi)
  exact this
theorem goneW_ok {l : List Pen} (h : lOk l) {m : Nat} {w : Nat → Int} {n : Int} (hn : 0 ≤ n) (hw : ∀ k, k < m → n ≤ pf l (w k).toNat 2) : lOk (goneW m w n l) := by
  refine ⟨Nat.le_trans (List.length_filter_le _ _) (by unfold decW; rw [pl_len]; exact h.1), fun p hp => ?_⟩
  simp only [goneW, List.mem_filter, decide_eq_true_eq] at hp
  obtain ⟨h1, h2⟩ := hp
  obtain ⟨i, hi, rfl⟩ := mem_pl h1
  have := lOk_pf h hi
  simp only [pn] at h2 ⊢
  split at h2
  · rename_i hk
    obtain ⟨_, k, hk, hk2⟩ := hk
    have := hw k hk
    rw [show (w k).toNat = i by omega] at this
    rw [if_pos ⟨trivial, k, hk, hk2⟩]
    omega
  · rename_i hk
    rw [if_neg hk]
    omega
theorem minS_le (l : List Pen) (n : Int) : minS l n ≤ n ∧ ∀ k, k < nS l → minS l n ≤ pf l (wS l k).toNat 2 := minW_le _ _ _ _
theorem minM_le (l : List Pen) (n : Int) : minM l n ≤ n ∧ ∀ k, k < l.length → minM l n ≤ pf l k 2 := minW_le _ _ _ _
theorem minS_ge {l : List Pen} (h : lOk l) {n : Int} (hn : 1 ≤ n) : 1 ≤ minS l n := minW_ge _ _ _ _ _ hn (fun k hk => (lOk_pf h (by have := wS_lt hk; omega)).1)
theorem minM_ge {l : List Pen} (h : lOk l) {n : Int} (hn : 1 ≤ n) : 1 ≤ minM l n := minW_ge _ _ _ _ _ hn (fun k hk => (lOk_pf h (by simp; omega)).1)
theorem minB_spec {b : Bo} (h : b.Ok) {n : Int} (hn : 1 ≤ n) : 1 ≤ minB b n ∧ minB b n ≤ n ∧ (∀ k, k < nS b.p0 → minB b n ≤ pf b.p0 (wS b.p0 k).toNat 2) ∧ (∀ k, k < nS b.p1 → minB b n ≤ pf b.p1 (wS b.p1 k).toNat 2) ∧
    (∀ k, k < b.m0.length → minB b n ≤ pf b.m0 k 2) ∧ (∀ k, k < b.m1.length → minB b n ≤ pf b.m1 k 2) := by
  have a1 := minS_ge h.p0 hn
  have a2 := minM_ge h.m0 a1
  have a3 := minS_ge h.p1 a2
  have a4 := minM_ge h.m1 a3
  have b1 := minS_le b.p0 n
  have b2 := minM_le b.m0 (minS b.p0 n)
  have b3 := minS_le b.p1 (minM b.m0 (minS b.p0 n))
  have b4 := minM_le b.m1 (minS b.p1 (minM b.m0 (minS b.p0 n)))
  unfold minB
  refine ⟨a4, by omega, fun k hk => ?_, fun k hk => ?_, fun k hk => ?_, fun k hk => ?_⟩
  · have := b1.2 k hk; omega
  · have := b3.2 k hk; omega
  · have := b2.2 k hk; omega
  · have := b4.2 k hk; omega
theorem pass_ok {b : Bo} (h : b.Ok) {n : Int} (hn : 1 ≤ n) (h1 : n ≤ 1200 - b.pl) (h2 : ∀ k, k < nS b.p0 → n ≤ pf b.p0 (wS b.p0 k).toNat 2) (h3 : ∀ k, k < nS b.p1 → n ≤ pf b.p1 (wS b.p1 k).toNat 2)
    (h4 : ∀ k, k < b.m0.length → n ≤ pf b.m0 k 2) (h5 : ∀ k, k < b.m1.length → n ≤ pf b.m1 k 2) : (b.pass n).Ok where
  per := h.per
  pl := by have := h.pl; simp only [Bo.pass]; omega
  run := by simp only [Bo.pass, decide_eq_true_eq]; exact id
  g0 := h.g0
  g1 := h.g1
  p0 := goneW_ok h.p0 (by omega) h2
  p1 := goneW_ok h.p1 (by omega) h3
  m0 := goneW_ok h.m0 (by omega) (fun k hk => by simpa using h4 k hk)
  m1 := goneW_ok h.m1 (by omega) (fun k hk => by simpa using h5 k hk)
theorem addOut_len (out : List Pen) (a x y : Int) : (addOut out a x y).length ≤ out.length + 1 := by
  unfold addOut; split <;> simp
theorem step_n {s : Ga} (h : s.Ok) {to : Int} (hr : s.b.run = true) (ht : s.now < to) : 1 ≤ s.n to ∧ s.n to ≤ to - s.now ∧ s.n to ≤ 1200 - s.b.pl := by
  have h1 := h.b.run hr
  obtain ⟨q1, q2, _⟩ := minB_spec h.b (n := min (to - s.now) (1200 - s.b.pl)) (by omega)
  unfold Ga.n
  omega
theorem step_ok {s : Ga} (h : s.Ok) {to : Int} (hto : to ≤ 1048576) (hr : s.b.run = true) (ht : s.now < to) : (s.step to).Ok := by
  obtain ⟨n1, n2, n3⟩ := step_n h hr ht
  have h1 := h.b.run hr
  obtain ⟨_, _, q3, q4, q5, q6⟩ := minB_spec h.b (n := min (to - s.now) (1200 - s.b.pl)) (by omega)
  refine ⟨pass_ok h.b n1 n3 q3 q4 q5 q6, ?_, ?_⟩
  · have := h.now; simp only [Ga.step]; omega
  · have := h.out
    have := addOut_len s.out (s.b.per * 1200 + s.b.pl) (stren s.b.p0) (stren s.b.p1)
    simp only [Ga.step, Bo.pass]
    omega
theorem passP_ok {to : Int} (hto : 0 ≤ to ∧ to ≤ 1048576) : ∀ (k : Nat) (s : Ga), s.Ok → (passP k s to).Ok
  | 0, s, h => ⟨h.b, hto, h.out⟩
  | k + 1, s, h => by
    simp only [passP]
    split
    · rename_i h1
      exact passP_ok hto k _ (step_ok h hto.2 h1.1 h1.2)
    · exact ⟨h.b, hto, h.out⟩
end Go.Eng
end

/- clock: time passes. -/
section
namespace Go.Eng
open Go Go.RowKit Go.Proofs
set_option maxRecDepth 100000
set_option maxHeartbeats 4000000
attribute [local irreducible] OwnT DefS
def vecL (v : Nat) (l : List Pen) : Vc := .live v 55 3 l.length (fun i j => .int .i64 (pf l i j))
/-- The game's cells. -/
def gaC (b : Bo) (now : Int) (v0 v1 v2 v3 : Nat) (f : SV) : List SV := [.int .i64 b.per, .int .i64 b.pl, .bool b.run, .int .i64 b.g0, .int .i64 b.g1, .vec 0 v0, .vec 1 v1, .vec 2 v2, .vec 3 v3, .int .i64 now, f]
def q50_9 : Plan := .quiet 0 (.quiet 1 (.quiet 2 (.quiet 3 (.quiet 4 (.quiet 5 (.quiet 6 (.quiet 7 (.quiet 8 (.quiet 9 (.quiet 10 (.quiet 11 (.quiet 12 (.quiet 13 (.quiet 14 (.quiet 15 (.quiet 16 (.quiet 17 (.quiet 18 (.quiet 19 (.quiet 20 (.quiet 21 (.quiet 22 (.quiet 23 (.quiet 24 (.quiet 25 (.quiet 26 (.quiet 27 (.quiet 28 (.quiet 29 (.quiet 30 (.loud 31 [] (.done))))))))))))))))))))))))))))))))
theorem pl_pf' (l : List Pen) : (pl l.length fun i j => pf l i j) = l := pl_pf l
theorem passP_stop {s : Ga} {to : Int} (h : ¬ (s.b.run = true ∧ s.now < to)) : ∀ (k : Nat), passP k s to = ⟨s.b, to, s.out⟩
  | 0 => rfl
  | k + 1 => by simp only [passP]; rw [if_neg h]
theorem passP_now {to : Int} : ∀ (k : Nat) (s : Ga), (passP k s to).now = to
  | 0, s => rfl
  | k + 1, s => by simp only [passP]; split; exact passP_now k _; rfl
theorem goneS_at {L : List Pen} (hL : lOk L) {n : Int} (hn : 0 ≤ n ∧ n ≤ 10000000) {v : Nat} (h : HS) (k : Nat) (hk : getV h.vecs k = .live v 55 3 L.length (fun i j => .int .i64 (pf L i j))) :
    CallsS Try.prog 37 [.vec k v, .row (nS (pl L.length (pf L))) 1 (fun i _ => .int .i64 (wS (pl L.length (pf L)) i)), .int .i64 n] h
      (fun o h' => ∃ v', o = .ret (.vec k v') ∧ h' = ⟨h.blks, setV h.vecs k (.live v' 55 3 (goneS n L).length (fun i j => .int .i64 (pf (goneS n L) i j)))⟩) := by
  have h1 := hL.1
  have h2 := nS_le L
  have := gone_at (w := wS L) (m := nS L) (f := pf L) (N := L.length) (v := v) (n := n) (by omega) (by omega) (fun k hk => wS_lt hk) (fun j k h1 h2 => wS_inj h1 h2) (fun i hi => by have := lOk_pf hL hi; omega) hn h k hk
  rw [pl_pf] at this ⊢
  exact this
theorem goneM_at {L : List Pen} (hL : lOk L) {n : Int} (hn : 0 ≤ n ∧ n ≤ 10000000) {v : Nat} (h : HS) (k : Nat) (hk : getV h.vecs k = .live v 55 3 L.length (fun i j => .int .i64 (pf L i j))) :
    CallsS Try.prog 37 [.vec k v, .row L.length 1 (fun i _ => .int .i64 (i : Int)), .int .i64 n] h
      (fun o h' => ∃ v', o = .ret (.vec k v') ∧ h' = ⟨h.blks, setV h.vecs k (.live v' 55 3 (goneM n L).length (fun i j => .int .i64 (pf (goneM n L) i j)))⟩) := by
  have h1 := hL.1
  have := gone_at (w := fun k => (k : Int)) (m := L.length) (f := pf L) (N := L.length) (v := v) (n := n) (by omega) (by omega) (fun k hk => by omega) (fun j k h1 h2 h3 => by omega) (fun i hi => by have := lOk_pf hL hi; omega) hn h k hk
  rw [pl_pf] at this
  exact this
structure Vers where
  a : Nat
  b : Nat
  c : Nat
  d : Nat
def gaH (s : Ga) (v : Vers) : HS := ⟨[.live 61 (gaC s.b s.now v.a v.b v.c v.d .nilf)], [vecL v.a s.b.p0, vecL v.b s.b.p1, vecL v.c s.b.m0, vecL v.d s.b.m1]⟩
theorem minW_one (h : HS) (k : Nat) (x y : Int) : minW (fun k => (k : Int)) (fun i _ => ivf (fun _ j => frzF (k + 1) h (nth [.int .i64 y] j)) i 0) x 1 = min x y := rfl
def nT (b : Bo) (n : Int) : Nat → Int
  | 0 => n
  | 1 => minM b.m0 (minS b.p0 n)
  | _ => minB b n
/-- Over for the teams below t. -/
def gT (g : Int → List Pen → List Pen) (n : Int) (k t : Nat) (l : List Pen) : List Pen := if k < t then g n l else l
theorem gT_0 (g : Int → List Pen → List Pen) (n : Int) (k : Nat) (l : List Pen) : gT g n k 0 l = l := rfl
theorem gT_01 (g : Int → List Pen → List Pen) (n : Int) (l : List Pen) : gT g n 0 1 l = g n l := rfl
theorem gT_11 (g : Int → List Pen → List Pen) (n : Int) (l : List Pen) : gT g n 1 1 l = l := rfl
theorem gT_02 (g : Int → List Pen → List Pen) (n : Int) (l : List Pen) : gT g n 0 2 l = g n l := rfl
theorem gT_12 (g : Int → List Pen → List Pen) (n : Int) (l : List Pen) : gT g n 1 2 l = g n l := rfl
theorem pass_calls {s : Ga} (hs : s.Ok) {to : Int} (hto : 0 ≤ to ∧ to ≤ 1048576) (v : Vers) (k : Nat) (hk : to - s.now ≤ k) :
    CallsS Try.prog 50 [.ptr 0 0, .int .i64 to] (gaH s v) (fun o h' => ∃ v', o = .ret (.tup []) ∧ h' = gaH (passP k s to) v') := by
  refine calls_trim (K := fun o h' => ∃ (v' : Vers) (B : List Blk) (V : List Vc), o = .ret (.tup []) ∧ h' = ⟨.live 61 (gaC (passP k s to).b to v'.a v'.b v'.c v'.d .nilf) :: B, vecL v'.a (passP k s to).b.p0 :: vecL v'.b (passP k s to).b.p1 :: vecL v'.c (passP k s to).b.m0 :: vecL v'.d (passP k s to).b.m1 :: V⟩) ?_ ?_
  · refine calls_of_run (C := cx [37] [] [(53, leastBase), (35, servedPBase), (36, soonestBase), (63, everyBase), (64, strengthPBase)] [(50, 1, p50_1), (50, 5, p50_5), (50, 6, p50_6), (50, 9, q50_9), (50, 13, p50_13), (50, 14, p50_14)] none) (cx_ok trivial ⟨least_base, servedP_base, soonest_base, every_base, strengthP_base, trivial⟩) rfl fn_50 rfl 1000 ?_
    simp only [gaH, gaC, vecL, Try.f50, go_sem, ↓reduceIte, Nat.reduceAdd, Nat.reduceSub, Nat.reduceMul, Nat.reduceEqDiff, Nat.reduceLT, Nat.reduceLeDiff, Int.reduceToNat, Int.reduceLE, Int.reduceLT, Int.reduceEq, Int.reduceNeg, reduceCtorEq]
    refine loop_of { x : Ga × Vers × Nat // x.1.Ok ∧ passP x.2.2 x.1 to = passP k s to ∧ to - x.1.now ≤ x.2.2 } (fun x => [(1, .int .i64 to), (0, .ptr 0 0)]) (fun x => ⟨[.live 61 (gaC x.1.1.b x.1.1.now x.1.2.1.a x.1.2.1.b x.1.2.1.c x.1.2.1.d .nilf)], [vecL x.1.2.1.a x.1.1.b.p0, vecL x.1.2.1.b x.1.1.b.p1, vecL x.1.2.1.c x.1.1.b.m0, vecL x.1.2.1.d x.1.1.b.m1]⟩) (fun x => (to - x.1.1.now).toNat) (fun _ => ⟨rfl, rfl⟩) ⟨(s, v, k), hs, rfl, hk⟩ (by simp only [gaC, vecL]; (apply sub_of <;> simp only [go_sem, ↓reduceIte, Nat.reduceAdd, Nat.reduceSub, Nat.reduceMul, Nat.reduceEqDiff, Nat.reduceLT, Nat.reduceLeDiff, Int.reduceToNat, Int.reduceLE, Int.reduceLT, Int.reduceEq, Int.reduceNeg, reduceCtorEq] <;> (try simp [catF]) <;> (try exact fun j _ => Bd_nth (by simp [BdL, Bd]) j) <;> (try exact bd_setL (by simp [bdAs, BdL, Bd])) <;> (try exact nestF_bd _ _ _ _ _ _ _ _ _))) ?_
    rintro ⟨⟨⟨⟨per, pl, run, g0, g1, p0, p1, m0, m1⟩, now, out⟩, ⟨va, vb, vc, vd⟩, k'⟩, hs', hp, hk'⟩
    simp only at hs' hp hk'
    simp only [gaC, vecL, Try.f50, least_eq, servedP_eq, soonest_eq, every_eq, strengthP_eq, p50_1, p50_5, p50_6, q50_9, p50_13, p50_14, go_sem, ↓reduceIte, Nat.reduceAdd, Nat.reduceSub, Nat.reduceMul, Nat.reduceEqDiff, Nat.reduceLT, Nat.reduceLeDiff, Int.reduceToNat, Int.reduceLE, Int.reduceLT, Int.reduceEq, Int.reduceNeg, reduceCtorEq]
    have okB := hs'.b
    have hpl := okB.pl
    have hnow := hs'.now
    simp only at hpl hnow
    have one : ∀ (x : Int) (h : HS), IntR 1 1 fun i j => frzF 3 h (nth [.int .i64 x] j) := fun x h i j hi hj => by
      obtain rfl : i = 0 := by omega
      obtain rfl : j = 0 := by omega
      rfl
    have sv : ∀ l : List Pen, lOk l → l.length ≤ 1000000 ∧ (nS (Eng.pl l.length (pf l)) ≤ 1000000 ∧ ∀ (k : Nat), k < nS (Eng.pl l.length (pf l)) → 0 ≤ wS (Eng.pl l.length (pf l)) k ∧ wS (Eng.pl l.length (pf l)) k < (l.length : Int)) := fun l h => by
      have h1 := h.1
      have h2 := nS_le l
      rw [pl_pf]
      exact ⟨by omega, by omega, fun k hk => wS_lt hk⟩
    have mv : ∀ l : List Pen, lOk l → l.length ≤ 1000000 ∧ (l.length ≤ 1000000 ∧ ∀ (k : Nat), k < l.length → 0 ≤ (k : Int) ∧ (k : Int) < (l.length : Int)) := fun l h => by
      have h1 := h.1
      exact ⟨by omega, by omega, fun k hk => by omega⟩
    have lp0 := sv _ okB.p0
    have lp1 := sv _ okB.p1
    have lm0 := mv _ okB.m0
    have lm1 := mv _ okB.m1
    simp only at lp0 lp1 lm0 lm1
    have okp0 := okB.p0
    have okp1 := okB.p1
    have okm0 := okB.m0
    have okm1 := okB.m1
    simp only at okp0 okp1 okm0 okm1
    refine spl_intro (fun hr => spl_intro (fun ht => ⟨⟨by kernel_rfl, by kernel_rfl⟩, one _ _, ?_⟩) (fun ht => ?_)) (fun hr => ?_)
    · subst hr
      simp only [decide_eq_true_eq] at ht
      have hpl2 := okB.run rfl
      simp only at hpl2
      have w1 : IntKind.i64.wrap (1200 - pl) = 1200 - pl := wrap_id (by omega) (by omega)
      have w2 : IntKind.i64.wrap (to - now) = to - now := wrap_id (by omega) (by omega)
      rw [w1, w2]
      generalize hB : (⟨per, pl, true, g0, g1, p0, p1, m0, m1⟩ : Bo) = B at hs' hp okB
      generalize hn0 : min (to - now) (1200 - pl) = n0
      refine loop_of { t : Nat // t ≤ 2 } (fun t => [(34, .int .i64 (t.1 : Int)), (4, .int .i64 (nT B n0 t.1)), (1, .int .i64 to), (0, .ptr 0 0)]) (fun _ => ⟨[.live 61 [.int .i64 per, .int .i64 pl, .bool true, .int .i64 g0, .int .i64 g1, .vec 0 va, .vec 1 vb, .vec 2 vc, .vec 3 vd, .int .i64 now, .nilf]], [vecL va p0, vecL vb p1, vecL vc m0, vecL vd m1, .dead]⟩) (fun t => 2 - t.1) (fun _ => ⟨rfl, rfl⟩) ⟨0, by omega⟩ (by simp only [nT, vecL, ← hn0]; (apply sub_of <;> simp only [go_sem, ↓reduceIte, Nat.reduceAdd, Nat.reduceSub, Nat.reduceMul, Nat.reduceEqDiff, Nat.reduceLT, Nat.reduceLeDiff, Int.reduceToNat, Int.reduceLE, Int.reduceLT, Int.reduceEq, Int.reduceNeg, reduceCtorEq] <;> (try simp [catF]) <;> (try exact fun j _ => Bd_nth (by simp [BdL, Bd]) j) <;> (try exact bd_setL (by simp [bdAs, BdL, Bd])) <;> (try exact nestF_bd _ _ _ _ _ _ _ _ _)); rfl) ?_
      rintro ⟨t, ht2⟩
      obtain rfl | rfl | rfl : t = 0 ∨ t = 1 ∨ t = 2 := by omega
      · simp only [gaC, vecL, Try.f50, least_eq, servedP_eq, soonest_eq, every_eq, strengthP_eq, p50_1, p50_5, p50_6, q50_9, p50_13, p50_14, go_sem, ↓reduceIte, Nat.reduceAdd, Nat.reduceSub, Nat.reduceMul, Nat.reduceEqDiff, Nat.reduceLT, Nat.reduceLeDiff, Int.reduceToNat, Int.reduceLE, Int.reduceLT, Int.reduceEq, Int.reduceNeg, reduceCtorEq]
        refine ⟨fun _ => ⟨⟨by kernel_rfl, by kernel_rfl⟩, by omega, by omega, lp0.1, lp0.2, ⟨by kernel_rfl, by kernel_rfl⟩, by omega, by omega, lm0.1, lm0.2, ⟨1, by omega⟩, by simp only []; omega, ?_⟩, fun h => absurd h (by simp)⟩
        apply sub_of <;> simp only [nT, minM, minS, pl_pf', vecL, ← hB, go_sem, ↓reduceIte, Nat.reduceAdd, Nat.reduceSub, Nat.reduceMul, Nat.reduceEqDiff, Nat.reduceLT, Nat.reduceLeDiff, Int.reduceToNat, Int.reduceLE, Int.reduceLT, Int.reduceEq, Int.reduceNeg, reduceCtorEq] <;> (try simp) <;> (try exact fun j _ => Bd_nth (by simp [BdL, Bd]) j) <;> (try exact bd_setL (by simp [bdAs, BdL, Bd])) <;> (try exact nestF_bd _ _ _ _ _ _ _ _ _)
        rfl
      · simp only [gaC, vecL, Try.f50, least_eq, servedP_eq, soonest_eq, every_eq, strengthP_eq, p50_1, p50_5, p50_6, q50_9, p50_13, p50_14, go_sem, ↓reduceIte, Nat.reduceAdd, Nat.reduceSub, Nat.reduceMul, Nat.reduceEqDiff, Nat.reduceLT, Nat.reduceLeDiff, Int.reduceToNat, Int.reduceLE, Int.reduceLT, Int.reduceEq, Int.reduceNeg, reduceCtorEq]
        refine ⟨fun _ => ⟨⟨by kernel_rfl, by kernel_rfl⟩, by omega, by omega, lp1.1, lp1.2, ⟨by kernel_rfl, by kernel_rfl⟩, by omega, by omega, lm1.1, lm1.2, ⟨2, by omega⟩, by simp only []; omega, ?_⟩, fun h => absurd h (by simp)⟩
        apply sub_of <;> simp only [nT, minB, minM, minS, pl_pf', vecL, ← hB, go_sem, ↓reduceIte, Nat.reduceAdd, Nat.reduceSub, Nat.reduceMul, Nat.reduceEqDiff, Nat.reduceLT, Nat.reduceLeDiff, Int.reduceToNat, Int.reduceLE, Int.reduceLT, Int.reduceEq, Int.reduceNeg, reduceCtorEq] <;> (try simp) <;> (try exact fun j _ => Bd_nth (by simp [BdL, Bd]) j) <;> (try exact bd_setL (by simp [bdAs, BdL, Bd])) <;> (try exact nestF_bd _ _ _ _ _ _ _ _ _)
        rfl
      · simp only [gaC, vecL, Try.f50, least_eq, servedP_eq, soonest_eq, every_eq, strengthP_eq, p50_1, p50_5, p50_6, q50_9, p50_13, p50_14, go_sem, ↓reduceIte, Nat.reduceAdd, Nat.reduceSub, Nat.reduceMul, Nat.reduceEqDiff, Nat.reduceLT, Nat.reduceLeDiff, Int.reduceToNat, Int.reduceLE, Int.reduceLT, Int.reduceEq, Int.reduceNeg, reduceCtorEq]
        refine ⟨fun h => absurd h (by simp), fun _ => ?_⟩
        have hnn : nT B n0 2 = minB B n0 := rfl
        have hn : 0 ≤ minB B n0 ∧ minB B n0 ≤ 10000000 := by
          have := minB_spec (b := B) okB (n := n0) (by omega)
          omega
        generalize minB B n0 = n at hnn hn
        rw [hnn]
        refine loop_of { x : Nat × Vers // x.1 ≤ 2 } (fun x => [(109, .int .i64 (x.1.1 : Int)), (4, .int .i64 n), (1, .int .i64 to), (0, .ptr 0 0)]) (fun x => ⟨[.live 61 [.int .i64 per, .int .i64 pl, .bool true, .int .i64 g0, .int .i64 g1, .vec 0 x.1.2.a, .vec 1 x.1.2.b, .vec 2 x.1.2.c, .vec 3 x.1.2.d, .int .i64 now, .nilf]], [vecL x.1.2.a (gT goneS n 0 x.1.1 p0), vecL x.1.2.b (gT goneS n 1 x.1.1 p1), vecL x.1.2.c (gT goneM n 0 x.1.1 m0), vecL x.1.2.d (gT goneM n 1 x.1.1 m1), .dead]⟩) (fun x => 2 - x.1.1) (fun _ => ⟨rfl, rfl⟩) ⟨(0, ⟨va, vb, vc, vd⟩), by simp⟩ (by simp only [vecL, gT_0]; (apply sub_of <;> simp only [go_sem, ↓reduceIte, Nat.reduceAdd, Nat.reduceSub, Nat.reduceMul, Nat.reduceEqDiff, Nat.reduceLT, Nat.reduceLeDiff, Int.reduceToNat, Int.reduceLE, Int.reduceLT, Int.reduceEq, Int.reduceNeg, reduceCtorEq] <;> (try simp [catF]) <;> (try exact fun j _ => Bd_nth (by simp [BdL, Bd]) j) <;> (try exact bd_setL (by simp [bdAs, BdL, Bd])) <;> (try exact nestF_bd _ _ _ _ _ _ _ _ _))) ?_
        rintro ⟨⟨t, ⟨va, vb, vc, vd⟩⟩, ht2⟩
        simp only at ht2
        obtain rfl | rfl | rfl : t = 0 ∨ t = 1 ∨ t = 2 := by omega
        · simp only [gaC, vecL, gT_0, Try.f50, least_eq, servedP_eq, soonest_eq, every_eq, strengthP_eq, p50_1, p50_5, p50_6, q50_9, p50_13, p50_14, go_sem, ↓reduceIte, Nat.reduceAdd, Nat.reduceSub, Nat.reduceMul, Nat.reduceEqDiff, Nat.reduceLT, Nat.reduceLeDiff, Int.reduceToNat, Int.reduceLE, Int.reduceLT, Int.reduceEq, Int.reduceNeg, reduceCtorEq]
          refine ⟨fun _ => ⟨⟨by kernel_rfl, by kernel_rfl⟩, by omega, by omega, lp0.1, ?_⟩, fun h => absurd h (by simp)⟩
          refine calls_mono ?_ (goneS_at okp0 hn _ 0 rfl)
          rintro o h' ⟨va', rfl, rfl⟩
          simp only [gaC, vecL, gT_0, Try.f50, least_eq, servedP_eq, soonest_eq, every_eq, strengthP_eq, p50_1, p50_5, p50_6, q50_9, p50_13, p50_14, go_sem, ↓reduceIte, Nat.reduceAdd, Nat.reduceSub, Nat.reduceMul, Nat.reduceEqDiff, Nat.reduceLT, Nat.reduceLeDiff, Int.reduceToNat, Int.reduceLE, Int.reduceLT, Int.reduceEq, Int.reduceNeg, reduceCtorEq]
          refine ⟨⟨by omega, by omega⟩, ⟨by kernel_rfl, by kernel_rfl⟩, by omega, by omega, lm0.1, ?_⟩
          refine calls_mono ?_ (goneM_at okm0 hn _ 2 rfl)
          rintro o h' ⟨vc', rfl, rfl⟩
          simp only [gaC, vecL, gT_0, Try.f50, least_eq, servedP_eq, soonest_eq, every_eq, strengthP_eq, p50_1, p50_5, p50_6, q50_9, p50_13, p50_14, go_sem, ↓reduceIte, Nat.reduceAdd, Nat.reduceSub, Nat.reduceMul, Nat.reduceEqDiff, Nat.reduceLT, Nat.reduceLeDiff, Int.reduceToNat, Int.reduceLE, Int.reduceLT, Int.reduceEq, Int.reduceNeg, reduceCtorEq]
          refine ⟨⟨by omega, by omega⟩, ⟨(1, ⟨va', vb, vc', vd⟩), by simp⟩, by simp only []; omega, ?_⟩
          apply sub_of <;> simp only [gT_01, gT_11, vecL, go_sem, ↓reduceIte, Nat.reduceAdd, Nat.reduceSub, Nat.reduceMul, Nat.reduceEqDiff, Nat.reduceLT, Nat.reduceLeDiff, Int.reduceToNat, Int.reduceLE, Int.reduceLT, Int.reduceEq, Int.reduceNeg, reduceCtorEq] <;> (try simp) <;> (try exact fun j _ => Bd_nth (by simp [BdL, Bd]) j) <;> (try exact bd_setL (by simp [bdAs, BdL, Bd])) <;> (try exact nestF_bd _ _ _ _ _ _ _ _ _)
          rfl
        · simp only [gaC, vecL, gT_01, gT_11, Try.f50, least_eq, servedP_eq, soonest_eq, every_eq, strengthP_eq, p50_1, p50_5, p50_6, q50_9, p50_13, p50_14, go_sem, ↓reduceIte, Nat.reduceAdd, Nat.reduceSub, Nat.reduceMul, Nat.reduceEqDiff, Nat.reduceLT, Nat.reduceLeDiff, Int.reduceToNat, Int.reduceLE, Int.reduceLT, Int.reduceEq, Int.reduceNeg, reduceCtorEq]
          refine ⟨fun _ => ⟨⟨by kernel_rfl, by kernel_rfl⟩, by omega, by omega, lp1.1, ?_⟩, fun h => absurd h (by simp)⟩
          refine calls_mono ?_ (goneS_at okp1 hn _ 1 rfl)
          rintro o h' ⟨vb', rfl, rfl⟩
          simp only [gaC, vecL, gT_01, gT_11, Try.f50, least_eq, servedP_eq, soonest_eq, every_eq, strengthP_eq, p50_1, p50_5, p50_6, q50_9, p50_13, p50_14, go_sem, ↓reduceIte, Nat.reduceAdd, Nat.reduceSub, Nat.reduceMul, Nat.reduceEqDiff, Nat.reduceLT, Nat.reduceLeDiff, Int.reduceToNat, Int.reduceLE, Int.reduceLT, Int.reduceEq, Int.reduceNeg, reduceCtorEq]
          refine ⟨⟨by omega, by omega⟩, ⟨by kernel_rfl, by kernel_rfl⟩, by omega, by omega, lm1.1, ?_⟩
          refine calls_mono ?_ (goneM_at okm1 hn _ 3 rfl)
          rintro o h' ⟨vd', rfl, rfl⟩
          simp only [gaC, vecL, gT_01, gT_11, Try.f50, least_eq, servedP_eq, soonest_eq, every_eq, strengthP_eq, p50_1, p50_5, p50_6, q50_9, p50_13, p50_14, go_sem, ↓reduceIte, Nat.reduceAdd, Nat.reduceSub, Nat.reduceMul, Nat.reduceEqDiff, Nat.reduceLT, Nat.reduceLeDiff, Int.reduceToNat, Int.reduceLE, Int.reduceLT, Int.reduceEq, Int.reduceNeg, reduceCtorEq]
          refine ⟨⟨by omega, by omega⟩, ⟨(2, ⟨va, vb', vc, vd'⟩), by simp⟩, by simp only []; omega, ?_⟩
          apply sub_of <;> simp only [gT_02, gT_12, vecL, go_sem, ↓reduceIte, Nat.reduceAdd, Nat.reduceSub, Nat.reduceMul, Nat.reduceEqDiff, Nat.reduceLT, Nat.reduceLeDiff, Int.reduceToNat, Int.reduceLE, Int.reduceLT, Int.reduceEq, Int.reduceNeg, reduceCtorEq] <;> (try simp) <;> (try exact fun j _ => Bd_nth (by simp [BdL, Bd]) j) <;> (try exact bd_setL (by simp [bdAs, BdL, Bd])) <;> (try exact nestF_bd _ _ _ _ _ _ _ _ _)
          rfl
        · simp only [gaC, vecL, gT_02, gT_12, Try.f50, least_eq, servedP_eq, soonest_eq, every_eq, strengthP_eq, p50_1, p50_5, p50_6, q50_9, p50_13, p50_14, go_sem, ↓reduceIte, Nat.reduceAdd, Nat.reduceSub, Nat.reduceMul, Nat.reduceEqDiff, Nat.reduceLT, Nat.reduceLeDiff, Int.reduceToNat, Int.reduceLE, Int.reduceLT, Int.reduceEq, Int.reduceNeg, reduceCtorEq]
          refine ⟨fun h => absurd h (by simp), fun _ => ?_⟩
          obtain ⟨k'', rfl⟩ : ∃ k'', k' = k'' + 1 := ⟨k' - 1, by omega⟩
          have hnS : Ga.n ⟨B, now, out⟩ to = n := by rw [← hnn, ← hn0]; simp only [nT, Ga.n, ← hB]
          have hst : Ga.step ⟨B, now, out⟩ to = ⟨B.pass n, now + n, addOut out (B.per * 1200 + B.pl) (stren B.p0) (stren B.p1)⟩ := by unfold Ga.step; rw [hnS]
          have hrB : B.run = true := by rw [← hB]
          obtain ⟨n1, n2, n3⟩ := step_n hs' hrB ht
          rw [hnS] at n1 n2 n3
          have hplB : B.pl = pl := by rw [← hB]
          simp only [hplB] at n3
          have hpp : passP k'' (Ga.step ⟨B, now, out⟩ to) to = passP k s to := by rw [← hp]; simp only [passP]; rw [if_pos ⟨hrB, ht⟩]
          have w3 : IntKind.i64.wrap (now + n) = now + n := wrap_id (by omega) (by omega)
          have w4 : IntKind.i64.wrap (pl + n) = pl + n := wrap_id (by omega) (by omega)
          refine ⟨⟨(Ga.step ⟨B, now, out⟩ to, ⟨va, vb, vc, vd⟩, k''), step_ok hs' hto.2 hrB ht, hpp, ?_⟩, ?_, ?_⟩
          · rw [hst]; simp only []; omega
          · show (to - (Ga.step ⟨B, now, out⟩ to).now).toNat < _
            rw [hst]; simp only []; omega
          · simp only [hst]
            apply sub_of <;> simp only [Bo.pass, vecL, w3, w4, ← hB, go_sem, ↓reduceIte, Nat.reduceAdd, Nat.reduceSub, Nat.reduceMul, Nat.reduceEqDiff, Nat.reduceLT, Nat.reduceLeDiff, Int.reduceToNat, Int.reduceLE, Int.reduceLT, Int.reduceEq, Int.reduceNeg, reduceCtorEq] <;> (try simp) <;> (try exact fun j _ => Bd_nth (by simp [BdL, Bd]) j) <;> (try exact bd_setL (by simp [bdAs, BdL, Bd])) <;> (try exact nestF_bd _ _ _ _ _ _ _ _ _)
    · rw [← hp, passP_stop (by rintro ⟨_, h⟩; simp only [decide_eq_false_iff_not] at ht h; omega)]
      exact ⟨⟨va, vb, vc, vd⟩, _, _, rfl⟩
    · rw [← hp, passP_stop (by rintro ⟨h, _⟩; simp only at h; rw [hr] at h; cases h)]
      exact ⟨⟨va, vb, vc, vd⟩, _, _, rfl⟩
  · rintro o h' ⟨v', B, V, rfl, rfl⟩
    have hnow : (passP k s to).now = to := passP_now k s
    refine ⟨.tup [], .tup [], gaH (passP k s to) v', ⟨rfl, v', rfl, rfl⟩, ⟨?_, ?_, ?_, ?_, ?_, ?_⟩, ⟨?_, ?_⟩, ⟨?_, ?_⟩⟩ <;> (try simp only [gaH, gaC, vecL, hnow, go_sem, ↓reduceIte, Nat.reduceAdd, Nat.reduceSub, Nat.reduceMul, Nat.reduceEqDiff, Nat.reduceLT, Nat.reduceLeDiff, Int.reduceToNat, Int.reduceLE, Int.reduceLT, Int.reduceEq, Int.reduceNeg, reduceCtorEq]) <;> (try simp)
end Go.Eng
end

/- clock: what is told of stretches. -/
section
namespace Go.Eng
open Go Go.RowKit Go.Proofs
set_option maxRecDepth 100000
set_option maxHeartbeats 4000000
attribute [local irreducible] OwnT DefS
def outL (v : Nat) (l : List Pen) : Vc := .live v 51 3 l.length (fun i j => .int .i64 (pf l i j))
theorem rec_calls {out : List Pen} (hl : out.length ≤ 100000) (v : Nat) (a x y : Int) :
    CallsS Try.prog 39 [.int .i64 a, .agg [.int .i64 x, .int .i64 y], .ptr 0 0] ⟨[.live 40 [.vec 0 v]], [.live v 51 3 out.length (fun i j => .int .i64 (pf out i j))]⟩
      (fun o h' => ∃ v', o = .ret (.tup []) ∧ h' = ⟨[.live 40 [.vec 0 v']], [.live v' 51 3 (addOut out a x y).length (fun i j => .int .i64 (pf (addOut out a x y) i j))]⟩) := by
  refine calls_trim (K := fun o h' => ∃ (v' : Nat) (F : Nat → Nat → SV) (B : List Blk) (V : List Vc), o = .ret (.tup []) ∧ (∀ i j, i < (addOut out a x y).length → j < 3 → F i j = .int .i64 (pf (addOut out a x y) i j)) ∧ h' = ⟨.live 40 [.vec 0 v'] :: B, .live v' 51 3 (addOut out a x y).length F :: V⟩) ?_ ?_
  · refine calls_of_run (C := cx [] [] [] [(39, 1, p39_1)] none) (cx_ok trivial trivial) rfl fn_39 rfl 1000 ?_
    simp only [Try.f39, p39_1, go_sem, ↓reduceIte, Nat.reduceAdd, Nat.reduceSub, Nat.reduceMul, Nat.reduceEqDiff, Nat.reduceLT, Nat.reduceLeDiff, Int.reduceToNat, Int.reduceLE, Int.reduceLT, Int.reduceEq, Int.reduceNeg, reduceCtorEq]
    have app : addOut out a x y = out ++ [⟨a, x, y⟩] → ∃ v' F B V, (∀ (i j : Nat), i < (addOut out a x y).length → j < 3 → F i j = .int .i64 (pf (addOut out a x y) i j)) ∧ (⟨[.live 40 [.vec 0 (v + 1)], .live 24 [.int .i64 x, .int .i64 y]], [.live (v + 1) 51 3 (out.length + 1) (catF out.length (fun i j => .int .i64 (pf out i j)) (oneF [.int .i64 a, .int .i64 x, .int .i64 y])), .live 0 51 3 1 (oneF [.int .i64 a, .int .i64 x, .int .i64 y])]⟩ : HS) = ⟨.live 40 [.vec 0 v'] :: B, .live v' 51 3 (addOut out a x y).length F :: V⟩ := fun h => by
      rw [h]
      refine ⟨v + 1, _, _, _, ?_, by rw [List.length_append]; rfl⟩
      intro i j hi hj
      rw [pf_app]
      simp only [List.length_append, List.length_singleton] at hi
      by_cases h1 : i < out.length
      · simp only [catF, if_pos h1]
      · obtain rfl : i = out.length := by omega
        simp only [catF, if_neg h1, Nat.sub_self]
        have : j = 0 ∨ j = 1 ∨ j = 2 := by omega
        rcases this with rfl | rfl | rfl <;> rfl
    refine ⟨⟨by kernel_rfl, by kernel_rfl⟩, fun e1 => ⟨⟨by omega, by omega⟩, app ?_⟩, fun e1 => ?_⟩
    · simp only [decide_eq_true_eq] at e1
      have : out = [] := List.length_eq_zero_iff.1 (by omega)
      simp [addOut, this]
    · simp only [decide_eq_false_iff_not] at e1
      have w1 : IntKind.i64.wrap ((out.length : Int) - 1) = ((out.length - 1 : Nat) : Int) := by rw [wrap_id (by omega) (by omega)]; omega
      have hne : out ≠ [] := fun h => by simp [h] at e1
      have k1 : pf out (out.length - 1) 1 = (out.getD (out.length - 1) ⟨0, 0, 0⟩).k := rfl
      have k2 : pf out (out.length - 1) 2 = (out.getD (out.length - 1) ⟨0, 0, 0⟩).l := rfl
      rw [w1]
      simp only [Int.toNat_natCast, k1, k2]
      refine ⟨by omega, by omega, fun e2 => ⟨⟨by omega, by omega⟩, app ?_⟩, fun e2 => ?_⟩
      · unfold addOut
        rw [if_pos]
        right
        rintro ⟨h1, h2⟩
        rw [h1, h2] at e2
        simp at e2
      · have : addOut out a x y = out := by
          unfold addOut
          rw [if_neg]
          rintro (h | h)
          · exact hne h
          · refine h ?_
            simpa using e2
        rw [this]
        exact ⟨v, _, _, _, fun _ _ _ _ => rfl, rfl⟩
  · rintro o h' ⟨v', F, B, V, rfl, hF, rfl⟩
    refine ⟨.tup [], .tup [], ⟨[.live 40 [.vec 0 v']], [.live v' 51 3 (addOut out a x y).length (fun i j => .int .i64 (pf (addOut out a x y) i j))]⟩, ⟨rfl, v', rfl, rfl⟩, ⟨?_, ?_, ?_, ?_, ?_, ?_⟩, ⟨?_, ?_⟩, ⟨?_, ?_⟩⟩ <;> (try simp only [go_sem, ↓reduceIte, Nat.reduceAdd, Nat.reduceSub, Nat.reduceMul, Nat.reduceEqDiff, Nat.reduceLT, Nat.reduceLeDiff, Int.reduceToNat, Int.reduceLE, Int.reduceLT, Int.reduceEq, Int.reduceNeg, reduceCtorEq]) <;> (try simp)
    exact hF
theorem rec_at {out : List Pen} (hl : out.length ≤ 100000) (v : Nat) (a x y : Int) (h : HS) (k q : Nat) (hB : getB h.blks k = .live 40 [.vec q v]) (hV : getV h.vecs q = .live v 51 3 out.length (fun i j => .int .i64 (pf out i j))) :
    CallsS Try.prog 39 [.int .i64 a, .agg [.int .i64 x, .int .i64 y], .ptr k 0] h
      (fun o h' => ∃ v', o = .ret (.tup []) ∧ h' = ⟨setB h.blks k (.live 40 [.vec q v']), setV h.vecs q (.live v' 51 3 (addOut out a x y).length (fun i j => .int .i64 (pf (addOut out a x y) i j)))⟩) := by
  have := calls_ren (h := h) [k] [q] (rec_calls hl v a x y) (by simp) (by simp) (by simp [BdL, Bd]) (by simp [bdB, BdL, Bd]) (by simp [bdV, Bd])
    ⟨by simp only [go_sem, ↓reduceIte, Nat.reduceAdd, Nat.reduceSub, Nat.reduceMul, Nat.reduceEqDiff, Nat.reduceLT, Nat.reduceLeDiff, Int.reduceToNat, Int.reduceLE, Int.reduceLT, Int.reduceEq, Int.reduceNeg, reduceCtorEq]; exact hB, trivial⟩ ⟨by simp only [go_sem, ↓reduceIte, Nat.reduceAdd, Nat.reduceSub, Nat.reduceMul, Nat.reduceEqDiff, Nat.reduceLT, Nat.reduceLeDiff, Int.reduceToNat, Int.reduceLE, Int.reduceLT, Int.reduceEq, Int.reduceNeg, reduceCtorEq]; exact hV, trivial⟩ (by intro k' hk'; simp at hk'; subst hk'; exact getB_lt hB) (by intro k' hk'; simp at hk'; subst hk'; exact getV_lt hV)
    (by rintro o h' ⟨v', rfl, rfl⟩; simp [bdO, bdB, bdV, BdL, Bd, lenB, lenV])
  simp only [go_sem, ↓reduceIte, Nat.reduceAdd, Nat.reduceSub, Nat.reduceMul, Nat.reduceEqDiff, Nat.reduceLT, Nat.reduceLeDiff, Int.reduceToNat, Int.reduceLE, Int.reduceLT, Int.reduceEq, Int.reduceNeg, reduceCtorEq] at this
  refine calls_mono ?_ this
  rintro o h' ⟨o0, h0', ⟨v', rfl, rfl⟩, rfl, rfl⟩
  exact ⟨v', by simp only [go_sem, ↓reduceIte, Nat.reduceAdd, Nat.reduceSub, Nat.reduceMul, Nat.reduceEqDiff, Nat.reduceLT, Nat.reduceLeDiff, Int.reduceToNat, Int.reduceLE, Int.reduceLT, Int.reduceEq, Int.reduceNeg, reduceCtorEq], by simp only [go_sem, ↓reduceIte, Nat.reduceAdd, Nat.reduceSub, Nat.reduceMul, Nat.reduceEqDiff, Nat.reduceLT, Nat.reduceLeDiff, Int.reduceToNat, Int.reduceLE, Int.reduceLT, Int.reduceEq, Int.reduceNeg, reduceCtorEq]⟩
end Go.Eng
end

/- clock: time passes, and stretches are told. -/
section
namespace Go.Eng
open Go Go.RowKit Go.Proofs
set_option maxRecDepth 100000
set_option maxHeartbeats 4000000
attribute [local irreducible] OwnT DefS
structure VersO where
  a : Nat
  b : Nat
  c : Nat
  d : Nat
  e : Nat
def goH (s : Ga) (v : VersO) : HS := ⟨[.live 61 (gaC s.b s.now v.a v.b v.c v.d (.func 39 [.ptr 1 0])), .live 40 [.vec 4 v.e]], [vecL v.a s.b.p0, vecL v.b s.b.p1, vecL v.c s.b.m0, vecL v.d s.b.m1, outL v.e s.out]⟩
theorem passO_calls {s : Ga} (hs : s.Ok) {to : Int} (hto : 0 ≤ to ∧ to ≤ 1048576) (v : VersO) (k : Nat) (hk : to - s.now ≤ k) :
    CallsS Try.prog 50 [.ptr 0 0, .int .i64 to] (goH s v) (fun o h' => ∃ v', o = .ret (.tup []) ∧ h' = goH (passP k s to) v') := by
  refine calls_trim (K := fun o h' => ∃ (v' : VersO) (B : List Blk) (V : List Vc), o = .ret (.tup []) ∧ h' = ⟨.live 61 (gaC (passP k s to).b to v'.a v'.b v'.c v'.d (.func 39 [.ptr 1 0])) :: .live 40 [.vec 4 v'.e] :: B, vecL v'.a (passP k s to).b.p0 :: vecL v'.b (passP k s to).b.p1 :: vecL v'.c (passP k s to).b.m0 :: vecL v'.d (passP k s to).b.m1 :: outL v'.e (passP k s to).out :: V⟩) ?_ ?_
  · refine calls_of_run (C := cx [37, 39] [] [(53, leastBase), (35, servedPBase), (36, soonestBase), (63, everyBase), (64, strengthPBase)] [(50, 1, p50_1), (50, 5, p50_5), (50, 6, p50_6), (50, 9, q50_9), (50, 13, p50_13), (50, 14, p50_14)] none) (cx_ok trivial ⟨least_base, servedP_base, soonest_base, every_base, strengthP_base, trivial⟩) rfl fn_50 rfl 1000 ?_
    simp only [goH, gaC, vecL, outL, Try.f50, go_sem, ↓reduceIte, Nat.reduceAdd, Nat.reduceSub, Nat.reduceMul, Nat.reduceEqDiff, Nat.reduceLT, Nat.reduceLeDiff, Int.reduceToNat, Int.reduceLE, Int.reduceLT, Int.reduceEq, Int.reduceNeg, reduceCtorEq]
    refine loop_of { x : Ga × VersO × Nat // x.1.Ok ∧ passP x.2.2 x.1 to = passP k s to ∧ to - x.1.now ≤ x.2.2 } (fun x => [(1, .int .i64 to), (0, .ptr 0 0)]) (fun x => ⟨[.live 61 (gaC x.1.1.b x.1.1.now x.1.2.1.a x.1.2.1.b x.1.2.1.c x.1.2.1.d (.func 39 [.ptr 1 0])), .live 40 [.vec 4 x.1.2.1.e]], [vecL x.1.2.1.a x.1.1.b.p0, vecL x.1.2.1.b x.1.1.b.p1, vecL x.1.2.1.c x.1.1.b.m0, vecL x.1.2.1.d x.1.1.b.m1, outL x.1.2.1.e x.1.1.out]⟩) (fun x => (to - x.1.1.now).toNat) (fun _ => ⟨rfl, rfl⟩) ⟨(s, v, k), hs, rfl, hk⟩ (by simp only [gaC, vecL, outL]; (apply sub_of <;> simp only [go_sem, ↓reduceIte, Nat.reduceAdd, Nat.reduceSub, Nat.reduceMul, Nat.reduceEqDiff, Nat.reduceLT, Nat.reduceLeDiff, Int.reduceToNat, Int.reduceLE, Int.reduceLT, Int.reduceEq, Int.reduceNeg, reduceCtorEq] <;> (try simp [catF]) <;> (try exact fun j _ => Bd_nth (by simp [BdL, Bd]) j) <;> (try exact bd_setL (by simp [bdAs, BdL, Bd])) <;> (try exact nestF_bd _ _ _ _ _ _ _ _ _))) ?_
    rintro ⟨⟨⟨⟨per, pl, run, g0, g1, p0, p1, m0, m1⟩, now, out⟩, ⟨va, vb, vc, vd, ve⟩, k'⟩, hs', hp, hk'⟩
    simp only at hs' hp hk'
    simp only [gaC, vecL, outL, Try.f50, least_eq, servedP_eq, soonest_eq, every_eq, strengthP_eq, p50_1, p50_5, p50_6, q50_9, p50_13, p50_14, go_sem, ↓reduceIte, Nat.reduceAdd, Nat.reduceSub, Nat.reduceMul, Nat.reduceEqDiff, Nat.reduceLT, Nat.reduceLeDiff, Int.reduceToNat, Int.reduceLE, Int.reduceLT, Int.reduceEq, Int.reduceNeg, reduceCtorEq]
    have okB := hs'.b
    have hpl := okB.pl
    have hnow := hs'.now
    simp only at hpl hnow
    have one : ∀ (x : Int) (h : HS), IntR 1 1 fun i j => frzF 3 h (nth [.int .i64 x] j) := fun x h i j hi hj => by
      obtain rfl : i = 0 := by omega
      obtain rfl : j = 0 := by omega
      rfl
    have sv : ∀ l : List Pen, lOk l → l.length ≤ 1000000 ∧ (nS (Eng.pl l.length (pf l)) ≤ 1000000 ∧ ∀ (k : Nat), k < nS (Eng.pl l.length (pf l)) → 0 ≤ wS (Eng.pl l.length (pf l)) k ∧ wS (Eng.pl l.length (pf l)) k < (l.length : Int)) := fun l h => by
      have h1 := h.1
      have h2 := nS_le l
      rw [pl_pf]
      exact ⟨by omega, by omega, fun k hk => wS_lt hk⟩
    have mv : ∀ l : List Pen, lOk l → l.length ≤ 1000000 ∧ (l.length ≤ 1000000 ∧ ∀ (k : Nat), k < l.length → 0 ≤ (k : Int) ∧ (k : Int) < (l.length : Int)) := fun l h => by
      have h1 := h.1
      exact ⟨by omega, by omega, fun k hk => by omega⟩
    have lp0 := sv _ okB.p0
    have lp1 := sv _ okB.p1
    have lm0 := mv _ okB.m0
    have lm1 := mv _ okB.m1
    simp only at lp0 lp1 lm0 lm1
    have okp0 := okB.p0
    have okp1 := okB.p1
    have okm0 := okB.m0
    have okm1 := okB.m1
    simp only at okp0 okp1 okm0 okm1
    refine spl_intro (fun hr => spl_intro (fun ht => ⟨⟨by kernel_rfl, by kernel_rfl⟩, one _ _, ?_⟩) (fun ht => ?_)) (fun hr => ?_)
    · subst hr
      simp only [decide_eq_true_eq] at ht
      have hpl2 := okB.run rfl
      simp only at hpl2
      have w1 : IntKind.i64.wrap (1200 - pl) = 1200 - pl := wrap_id (by omega) (by omega)
      have w2 : IntKind.i64.wrap (to - now) = to - now := wrap_id (by omega) (by omega)
      rw [w1, w2]
      generalize hB : (⟨per, pl, true, g0, g1, p0, p1, m0, m1⟩ : Bo) = B at hs' hp okB
      generalize hn0 : min (to - now) (1200 - pl) = n0
      refine loop_of { t : Nat // t ≤ 2 } (fun t => [(34, .int .i64 (t.1 : Int)), (4, .int .i64 (nT B n0 t.1)), (1, .int .i64 to), (0, .ptr 0 0)]) (fun _ => ⟨[.live 61 [.int .i64 per, .int .i64 pl, .bool true, .int .i64 g0, .int .i64 g1, .vec 0 va, .vec 1 vb, .vec 2 vc, .vec 3 vd, .int .i64 now, .func 39 [.ptr 1 0]], .live 40 [.vec 4 ve]], [vecL va p0, vecL vb p1, vecL vc m0, vecL vd m1, outL ve out, .dead]⟩) (fun t => 2 - t.1) (fun _ => ⟨rfl, rfl⟩) ⟨0, by omega⟩ (by simp only [nT, vecL, outL, ← hn0]; (apply sub_of <;> simp only [go_sem, ↓reduceIte, Nat.reduceAdd, Nat.reduceSub, Nat.reduceMul, Nat.reduceEqDiff, Nat.reduceLT, Nat.reduceLeDiff, Int.reduceToNat, Int.reduceLE, Int.reduceLT, Int.reduceEq, Int.reduceNeg, reduceCtorEq] <;> (try simp [catF]) <;> (try exact fun j _ => Bd_nth (by simp [BdL, Bd]) j) <;> (try exact bd_setL (by simp [bdAs, BdL, Bd])) <;> (try exact nestF_bd _ _ _ _ _ _ _ _ _)); rfl) ?_
      rintro ⟨t, ht2⟩
      obtain rfl | rfl | rfl : t = 0 ∨ t = 1 ∨ t = 2 := by omega
      · simp only [gaC, vecL, outL, Try.f50, least_eq, servedP_eq, soonest_eq, every_eq, strengthP_eq, p50_1, p50_5, p50_6, q50_9, p50_13, p50_14, go_sem, ↓reduceIte, Nat.reduceAdd, Nat.reduceSub, Nat.reduceMul, Nat.reduceEqDiff, Nat.reduceLT, Nat.reduceLeDiff, Int.reduceToNat, Int.reduceLE, Int.reduceLT, Int.reduceEq, Int.reduceNeg, reduceCtorEq]
        refine ⟨fun _ => ⟨⟨by kernel_rfl, by kernel_rfl⟩, by omega, by omega, lp0.1, lp0.2, ⟨by kernel_rfl, by kernel_rfl⟩, by omega, by omega, lm0.1, lm0.2, ⟨1, by omega⟩, by simp only []; omega, ?_⟩, fun h => absurd h (by simp)⟩
        apply sub_of <;> simp only [nT, minM, minS, pl_pf', vecL, outL, ← hB, go_sem, ↓reduceIte, Nat.reduceAdd, Nat.reduceSub, Nat.reduceMul, Nat.reduceEqDiff, Nat.reduceLT, Nat.reduceLeDiff, Int.reduceToNat, Int.reduceLE, Int.reduceLT, Int.reduceEq, Int.reduceNeg, reduceCtorEq] <;> (try simp) <;> (try exact fun j _ => Bd_nth (by simp [BdL, Bd]) j) <;> (try exact bd_setL (by simp [bdAs, BdL, Bd])) <;> (try exact nestF_bd _ _ _ _ _ _ _ _ _)
        rfl
      · simp only [gaC, vecL, outL, Try.f50, least_eq, servedP_eq, soonest_eq, every_eq, strengthP_eq, p50_1, p50_5, p50_6, q50_9, p50_13, p50_14, go_sem, ↓reduceIte, Nat.reduceAdd, Nat.reduceSub, Nat.reduceMul, Nat.reduceEqDiff, Nat.reduceLT, Nat.reduceLeDiff, Int.reduceToNat, Int.reduceLE, Int.reduceLT, Int.reduceEq, Int.reduceNeg, reduceCtorEq]
        refine ⟨fun _ => ⟨⟨by kernel_rfl, by kernel_rfl⟩, by omega, by omega, lp1.1, lp1.2, ⟨by kernel_rfl, by kernel_rfl⟩, by omega, by omega, lm1.1, lm1.2, ⟨2, by omega⟩, by simp only []; omega, ?_⟩, fun h => absurd h (by simp)⟩
        apply sub_of <;> simp only [nT, minB, minM, minS, pl_pf', vecL, outL, ← hB, go_sem, ↓reduceIte, Nat.reduceAdd, Nat.reduceSub, Nat.reduceMul, Nat.reduceEqDiff, Nat.reduceLT, Nat.reduceLeDiff, Int.reduceToNat, Int.reduceLE, Int.reduceLT, Int.reduceEq, Int.reduceNeg, reduceCtorEq] <;> (try simp) <;> (try exact fun j _ => Bd_nth (by simp [BdL, Bd]) j) <;> (try exact bd_setL (by simp [bdAs, BdL, Bd])) <;> (try exact nestF_bd _ _ _ _ _ _ _ _ _)
        rfl
      · simp only [gaC, vecL, outL, Try.f50, least_eq, servedP_eq, soonest_eq, every_eq, strengthP_eq, p50_1, p50_5, p50_6, q50_9, p50_13, p50_14, go_sem, ↓reduceIte, Nat.reduceAdd, Nat.reduceSub, Nat.reduceMul, Nat.reduceEqDiff, Nat.reduceLT, Nat.reduceLeDiff, Int.reduceToNat, Int.reduceLE, Int.reduceLT, Int.reduceEq, Int.reduceNeg, reduceCtorEq]
        refine ⟨fun h => absurd h (by simp), fun _ => ?_⟩
        have hper := okB.per
        have hout := hs'.out
        simp only [← hB] at hper hout
        have w5 : IntKind.i64.wrap (per * 1200) = per * 1200 := wrap_id (by omega) (by omega)
        have w6 : IntKind.i64.wrap (per * 1200 + pl) = per * 1200 + pl := wrap_id (by omega) (by omega)
        rw [w5, w6, pl_pf, pl_pf]
        refine ⟨⟨by kernel_rfl, by kernel_rfl⟩, by omega, lp0.1, by omega, lp1.1, ?_⟩
        refine calls_mono ?_ (rec_at (out := out) (by omega) ve _ _ _ _ 1 4 rfl rfl)
        rintro o h' ⟨ve', rfl, rfl⟩
        have hout' : addOut out (B.per * 1200 + B.pl) (stren B.p0) (stren B.p1) = addOut out (per * 1200 + pl) (5 - (nS p0 : Int)) (5 - (nS p1 : Int)) := by rw [← hB]; rfl
        rw [← hout']
        generalize hgo : addOut out (B.per * 1200 + B.pl) (stren B.p0) (stren B.p1) = out'
        simp only [gaC, vecL, outL, Try.f50, least_eq, servedP_eq, soonest_eq, every_eq, strengthP_eq, p50_1, p50_5, p50_6, q50_9, p50_13, p50_14, go_sem, ↓reduceIte, Nat.reduceAdd, Nat.reduceSub, Nat.reduceMul, Nat.reduceEqDiff, Nat.reduceLT, Nat.reduceLeDiff, Int.reduceToNat, Int.reduceLE, Int.reduceLT, Int.reduceEq, Int.reduceNeg, reduceCtorEq]
        have hnn : nT B n0 2 = minB B n0 := rfl
        have hn : 0 ≤ minB B n0 ∧ minB B n0 ≤ 10000000 := by
          have := minB_spec (b := B) okB (n := n0) (by omega)
          omega
        generalize minB B n0 = n at hnn hn
        rw [hnn]
        refine loop_of { x : Nat × Vers // x.1 ≤ 2 } (fun x => [(109, .int .i64 (x.1.1 : Int)), (4, .int .i64 n), (1, .int .i64 to), (0, .ptr 0 0)]) (fun x => ⟨[.live 61 [.int .i64 per, .int .i64 pl, .bool true, .int .i64 g0, .int .i64 g1, .vec 0 x.1.2.a, .vec 1 x.1.2.b, .vec 2 x.1.2.c, .vec 3 x.1.2.d, .int .i64 now, .func 39 [.ptr 1 0]], .live 40 [.vec 4 ve']], [vecL x.1.2.a (gT goneS n 0 x.1.1 p0), vecL x.1.2.b (gT goneS n 1 x.1.1 p1), vecL x.1.2.c (gT goneM n 0 x.1.1 m0), vecL x.1.2.d (gT goneM n 1 x.1.1 m1), outL ve' out', .dead]⟩) (fun x => 2 - x.1.1) (fun _ => ⟨rfl, rfl⟩) ⟨(0, ⟨va, vb, vc, vd⟩), by simp⟩ (by simp only [vecL, outL, gT_0]; (apply sub_of <;> simp only [go_sem, ↓reduceIte, Nat.reduceAdd, Nat.reduceSub, Nat.reduceMul, Nat.reduceEqDiff, Nat.reduceLT, Nat.reduceLeDiff, Int.reduceToNat, Int.reduceLE, Int.reduceLT, Int.reduceEq, Int.reduceNeg, reduceCtorEq] <;> (try simp [catF]) <;> (try exact fun j _ => Bd_nth (by simp [BdL, Bd]) j) <;> (try exact bd_setL (by simp [bdAs, BdL, Bd])) <;> (try exact nestF_bd _ _ _ _ _ _ _ _ _))) ?_
        rintro ⟨⟨t, ⟨va, vb, vc, vd⟩⟩, ht2⟩
        simp only at ht2
        obtain rfl | rfl | rfl : t = 0 ∨ t = 1 ∨ t = 2 := by omega
        · simp only [gaC, vecL, outL, gT_0, Try.f50, least_eq, servedP_eq, soonest_eq, every_eq, strengthP_eq, p50_1, p50_5, p50_6, q50_9, p50_13, p50_14, go_sem, ↓reduceIte, Nat.reduceAdd, Nat.reduceSub, Nat.reduceMul, Nat.reduceEqDiff, Nat.reduceLT, Nat.reduceLeDiff, Int.reduceToNat, Int.reduceLE, Int.reduceLT, Int.reduceEq, Int.reduceNeg, reduceCtorEq]
          refine ⟨fun _ => ⟨⟨by kernel_rfl, by kernel_rfl⟩, by omega, by omega, lp0.1, ?_⟩, fun h => absurd h (by simp)⟩
          refine calls_mono ?_ (goneS_at okp0 hn _ 0 rfl)
          rintro o h' ⟨va', rfl, rfl⟩
          simp only [gaC, vecL, outL, gT_0, Try.f50, least_eq, servedP_eq, soonest_eq, every_eq, strengthP_eq, p50_1, p50_5, p50_6, q50_9, p50_13, p50_14, go_sem, ↓reduceIte, Nat.reduceAdd, Nat.reduceSub, Nat.reduceMul, Nat.reduceEqDiff, Nat.reduceLT, Nat.reduceLeDiff, Int.reduceToNat, Int.reduceLE, Int.reduceLT, Int.reduceEq, Int.reduceNeg, reduceCtorEq]
          refine ⟨⟨by omega, by omega⟩, ⟨by kernel_rfl, by kernel_rfl⟩, by omega, by omega, lm0.1, ?_⟩
          refine calls_mono ?_ (goneM_at okm0 hn _ 2 rfl)
          rintro o h' ⟨vc', rfl, rfl⟩
          simp only [gaC, vecL, outL, gT_0, Try.f50, least_eq, servedP_eq, soonest_eq, every_eq, strengthP_eq, p50_1, p50_5, p50_6, q50_9, p50_13, p50_14, go_sem, ↓reduceIte, Nat.reduceAdd, Nat.reduceSub, Nat.reduceMul, Nat.reduceEqDiff, Nat.reduceLT, Nat.reduceLeDiff, Int.reduceToNat, Int.reduceLE, Int.reduceLT, Int.reduceEq, Int.reduceNeg, reduceCtorEq]
          refine ⟨⟨by omega, by omega⟩, ⟨(1, ⟨va', vb, vc', vd⟩), by simp⟩, by simp only []; omega, ?_⟩
          apply sub_of <;> simp only [gT_01, gT_11, vecL, outL, go_sem, ↓reduceIte, Nat.reduceAdd, Nat.reduceSub, Nat.reduceMul, Nat.reduceEqDiff, Nat.reduceLT, Nat.reduceLeDiff, Int.reduceToNat, Int.reduceLE, Int.reduceLT, Int.reduceEq, Int.reduceNeg, reduceCtorEq] <;> (try simp) <;> (try exact fun j _ => Bd_nth (by simp [BdL, Bd]) j) <;> (try exact bd_setL (by simp [bdAs, BdL, Bd])) <;> (try exact nestF_bd _ _ _ _ _ _ _ _ _)
          rfl
        · simp only [gaC, vecL, outL, gT_01, gT_11, Try.f50, least_eq, servedP_eq, soonest_eq, every_eq, strengthP_eq, p50_1, p50_5, p50_6, q50_9, p50_13, p50_14, go_sem, ↓reduceIte, Nat.reduceAdd, Nat.reduceSub, Nat.reduceMul, Nat.reduceEqDiff, Nat.reduceLT, Nat.reduceLeDiff, Int.reduceToNat, Int.reduceLE, Int.reduceLT, Int.reduceEq, Int.reduceNeg, reduceCtorEq]
          refine ⟨fun _ => ⟨⟨by kernel_rfl, by kernel_rfl⟩, by omega, by omega, lp1.1, ?_⟩, fun h => absurd h (by simp)⟩
          refine calls_mono ?_ (goneS_at okp1 hn _ 1 rfl)
          rintro o h' ⟨vb', rfl, rfl⟩
          simp only [gaC, vecL, outL, gT_01, gT_11, Try.f50, least_eq, servedP_eq, soonest_eq, every_eq, strengthP_eq, p50_1, p50_5, p50_6, q50_9, p50_13, p50_14, go_sem, ↓reduceIte, Nat.reduceAdd, Nat.reduceSub, Nat.reduceMul, Nat.reduceEqDiff, Nat.reduceLT, Nat.reduceLeDiff, Int.reduceToNat, Int.reduceLE, Int.reduceLT, Int.reduceEq, Int.reduceNeg, reduceCtorEq]
          refine ⟨⟨by omega, by omega⟩, ⟨by kernel_rfl, by kernel_rfl⟩, by omega, by omega, lm1.1, ?_⟩
          refine calls_mono ?_ (goneM_at okm1 hn _ 3 rfl)
          rintro o h' ⟨vd', rfl, rfl⟩
          simp only [gaC, vecL, outL, gT_01, gT_11, Try.f50, least_eq, servedP_eq, soonest_eq, every_eq, strengthP_eq, p50_1, p50_5, p50_6, q50_9, p50_13, p50_14, go_sem, ↓reduceIte, Nat.reduceAdd, Nat.reduceSub, Nat.reduceMul, Nat.reduceEqDiff, Nat.reduceLT, Nat.reduceLeDiff, Int.reduceToNat, Int.reduceLE, Int.reduceLT, Int.reduceEq, Int.reduceNeg, reduceCtorEq]
          refine ⟨⟨by omega, by omega⟩, ⟨(2, ⟨va, vb', vc, vd'⟩), by simp⟩, by simp only []; omega, ?_⟩
          apply sub_of <;> simp only [gT_02, gT_12, vecL, outL, go_sem, ↓reduceIte, Nat.reduceAdd, Nat.reduceSub, Nat.reduceMul, Nat.reduceEqDiff, Nat.reduceLT, Nat.reduceLeDiff, Int.reduceToNat, Int.reduceLE, Int.reduceLT, Int.reduceEq, Int.reduceNeg, reduceCtorEq] <;> (try simp) <;> (try exact fun j _ => Bd_nth (by simp [BdL, Bd]) j) <;> (try exact bd_setL (by simp [bdAs, BdL, Bd])) <;> (try exact nestF_bd _ _ _ _ _ _ _ _ _)
          rfl
        · simp only [gaC, vecL, outL, gT_02, gT_12, Try.f50, least_eq, servedP_eq, soonest_eq, every_eq, strengthP_eq, p50_1, p50_5, p50_6, q50_9, p50_13, p50_14, go_sem, ↓reduceIte, Nat.reduceAdd, Nat.reduceSub, Nat.reduceMul, Nat.reduceEqDiff, Nat.reduceLT, Nat.reduceLeDiff, Int.reduceToNat, Int.reduceLE, Int.reduceLT, Int.reduceEq, Int.reduceNeg, reduceCtorEq]
          refine ⟨fun h => absurd h (by simp), fun _ => ?_⟩
          obtain ⟨k'', rfl⟩ : ∃ k'', k' = k'' + 1 := ⟨k' - 1, by omega⟩
          have hnS : Ga.n ⟨B, now, out⟩ to = n := by rw [← hnn, ← hn0]; simp only [nT, Ga.n, ← hB]
          have hst : Ga.step ⟨B, now, out⟩ to = ⟨B.pass n, now + n, out'⟩ := by unfold Ga.step; rw [hnS, ← hgo]
          have hrB : B.run = true := by rw [← hB]
          obtain ⟨n1, n2, n3⟩ := step_n hs' hrB ht
          rw [hnS] at n1 n2 n3
          have hplB : B.pl = pl := by rw [← hB]
          simp only [hplB] at n3
          have hpp : passP k'' (Ga.step ⟨B, now, out⟩ to) to = passP k s to := by rw [← hp]; simp only [passP]; rw [if_pos ⟨hrB, ht⟩]
          have w3 : IntKind.i64.wrap (now + n) = now + n := wrap_id (by omega) (by omega)
          have w4 : IntKind.i64.wrap (pl + n) = pl + n := wrap_id (by omega) (by omega)
          refine ⟨⟨(Ga.step ⟨B, now, out⟩ to, ⟨va, vb, vc, vd, ve'⟩, k''), step_ok hs' hto.2 hrB ht, hpp, ?_⟩, ?_, ?_⟩
          · rw [hst]; simp only []; omega
          · show (to - (Ga.step ⟨B, now, out⟩ to).now).toNat < _
            rw [hst]; simp only []; omega
          · simp only [hst]
            apply sub_of <;> simp only [Bo.pass, vecL, outL, w3, w4, ← hB, go_sem, ↓reduceIte, Nat.reduceAdd, Nat.reduceSub, Nat.reduceMul, Nat.reduceEqDiff, Nat.reduceLT, Nat.reduceLeDiff, Int.reduceToNat, Int.reduceLE, Int.reduceLT, Int.reduceEq, Int.reduceNeg, reduceCtorEq] <;> (try simp) <;> (try exact fun j _ => Bd_nth (by simp [BdL, Bd]) j) <;> (try exact bd_setL (by simp [bdAs, BdL, Bd])) <;> (try exact nestF_bd _ _ _ _ _ _ _ _ _)
    · rw [← hp, passP_stop (by rintro ⟨_, h⟩; simp only [decide_eq_false_iff_not] at ht h; omega)]
      exact ⟨⟨va, vb, vc, vd, ve⟩, _, _, rfl⟩
    · rw [← hp, passP_stop (by rintro ⟨h, _⟩; simp only at h; rw [hr] at h; cases h)]
      exact ⟨⟨va, vb, vc, vd, ve⟩, _, _, rfl⟩
  · rintro o h' ⟨v', B, V, rfl, rfl⟩
    have hnow : (passP k s to).now = to := passP_now k s
    refine ⟨.tup [], .tup [], goH (passP k s to) v', ⟨rfl, v', rfl, rfl⟩, ⟨?_, ?_, ?_, ?_, ?_, ?_⟩, ⟨?_, ?_⟩, ⟨?_, ?_⟩⟩ <;> (try simp only [goH, gaC, vecL, outL, hnow, go_sem, ↓reduceIte, Nat.reduceAdd, Nat.reduceSub, Nat.reduceMul, Nat.reduceEqDiff, Nat.reduceLT, Nat.reduceLeDiff, Int.reduceToNat, Int.reduceLE, Int.reduceLT, Int.reduceEq, Int.reduceNeg, reduceCtorEq]) <;> (try simp)
end Go.Eng
end
