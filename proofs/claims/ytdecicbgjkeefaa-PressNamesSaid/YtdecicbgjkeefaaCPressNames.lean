/-
  PressNames: for every input the law returns true, and each argument reads afterwards as it read before. No condition.
-/
import Derived.Test.YtdecicbgjkeefaaRows
import Derived.WalkKit
import Derived.Test.YtdecicbgjkeefaaP6
set_option linter.unusedSimpArgs false
set_option linter.unusedVariables false
/- An own slice inside a struct that is handed over for good. -/
section
namespace Go.Eng
open Go Go.RowKit Go.Proofs
set_option maxRecDepth 100000
set_option maxHeartbeats 4000000
attribute [local irreducible] OwnT DefS
theorem calls_giveX {P : Program} {g : Nat} {l1 l2 : List SV} {x y : SV} {h : HS} {K : Out → HS → Prop} {id : Nat} (hxy : ∀ E w v, RelH E h w → Den E w x v → Den (E.give id) w y v)
    (hc : CallsS P g (l1 ++ y :: l2) { h with vecs := setV h.vecs id .dead } K) : CallsS P g (l1 ++ x :: l2) h K := fun E w vals hr hd => by
  have hx := give_ext E id w
  refine (hc (E.give id) w vals (give_rel hr id) ⟨by rw [hd.1]; simp, fun i z u hy hu => ?_⟩).mono ?_
  · rcases Nat.lt_trichotomy i l1.length with hi | hi | hi
    · rw [List.getElem?_append_left hi] at hy
      exact (hd.2 i z u (by rw [List.getElem?_append_left hi]; exact hy) hu).ext hx
    · subst hi
      rw [List.getElem?_append_right (Nat.le_refl _)] at hy
      simp only [Nat.sub_self, List.getElem?_cons_zero, Option.some.injEq] at hy
      subst hy
      exact hxy E w u hr (hd.2 l1.length _ u (by rw [List.getElem?_append_right (Nat.le_refl _)]; simp) hu)
    · rw [List.getElem?_append_right (by omega)] at hy
      obtain ⟨k, hk⟩ : ∃ k, i - l1.length = k + 1 := ⟨i - l1.length - 1, by omega⟩
      rw [hk, List.getElem?_cons_succ] at hy
      exact (hd.2 i z u (by rw [List.getElem?_append_right (by omega), hk, List.getElem?_cons_succ]; exact hy) hu).ext hx
  · rintro e w' ⟨o, h', E', q, r1, r2, r3⟩
    exact ⟨o, h', E', q, r1, hx.trans r2, r3⟩
theorem give_agg {h : HS} {c1 c2 : List SV} {id ver ty sz n f} (hg : getV h.vecs id = .live ver ty sz n f) (E : Env) (w : World) (v : Value) (hr : RelH E h w) (hd : Den E w (.agg (c1 ++ .vec id ver :: c2)) v) : Den (E.give id) w (.agg (c1 ++ .row n sz f :: c2)) v := by
  have hx := give_ext E id w
  cases hd with
  | agg vs hs h1 hd =>
    refine .agg vs (by rw [hs]; simp) h1 (fun i z u hy hu => ?_)
    rcases Nat.lt_trichotomy i c1.length with hi | hi | hi
    · rw [List.getElem?_append_left hi] at hy
      exact (hd i z u (by rw [List.getElem?_append_left hi]; exact hy) hu).ext hx
    · subst hi
      rw [List.getElem?_append_right (Nat.le_refl _)] at hy
      simp only [Nat.sub_self, List.getElem?_cons_zero, Option.some.injEq] at hy
      subst hy
      exact give_den hr hg (hd c1.length _ u (by rw [List.getElem?_append_right (Nat.le_refl _)]; simp) hu)
    · rw [List.getElem?_append_right (by omega)] at hy
      obtain ⟨k, hk⟩ : ∃ k, i - c1.length = k + 1 := ⟨i - c1.length - 1, by omega⟩
      rw [hk, List.getElem?_cons_succ] at hy
      exact (hd i z u (by rw [List.getElem?_append_right (by omega), hk, List.getElem?_cons_succ]; exact hy) hu).ext hx
/-- A cell of a struct argument is given for good. -/
theorem calls_giveA {P : Program} {g : Nat} {l1 l2 c1 c2 : List SV} {h : HS} {K : Out → HS → Prop} {id ver ty sz n f} (hg : getV h.vecs id = .live ver ty sz n f)
    (hc : CallsS P g (l1 ++ .agg (c1 ++ .row n sz f :: c2) :: l2) { h with vecs := setV h.vecs id .dead } K) : CallsS P g (l1 ++ .agg (c1 ++ .vec id ver :: c2) :: l2) h K :=
  calls_giveX (give_agg hg) hc
end Go.Eng
end

/- press: numbers and examples. -/
section
namespace Go.Eng
open Go Go.RowKit Go.Proofs
set_option maxRecDepth 100000
set_option maxHeartbeats 4000000
attribute [local irreducible] OwnT DefS
theorem na_a_en : (ckR ⟨2, nsA (fun i j => nth [.row 2 2 fun i j => nth [.int .i64 10, .int .i64 4, .int .i64 18, .int .i64 6] (i * 2 + j), .int .i64 50, .int .i64 2, .int .i64 3, .int .i64 0, .row 1 2 fun i j => nth [.int .i64 15, .int .i64 5] j, .int .i64 20, .int .i64 1, .int .i64 12, .int .i64 1] (i * 5 + j)), nsM 0 (fun i j => nth [.row 2 2 fun i j => nth [.int .i64 10, .int .i64 4, .int .i64 18, .int .i64 6] (i * 2 + j), .int .i64 50, .int .i64 2, .int .i64 3, .int .i64 0, .row 1 2 fun i j => nth [.int .i64 15, .int .i64 5] j, .int .i64 20, .int .i64 1, .int .i64 12, .int .i64 1] (i * 5 + j)), nsV 0 (fun i j => nth [.row 2 2 fun i j => nth [.int .i64 10, .int .i64 4, .int .i64 18, .int .i64 6] (i * 2 + j), .int .i64 50, .int .i64 2, .int .i64 3, .int .i64 0, .row 1 2 fun i j => nth [.int .i64 15, .int .i64 5] j, .int .i64 20, .int .i64 1, .int .i64 12, .int .i64 1] (i * 5 + j)), 4, ivf (fun i j => nth [.int .i64 4, .int .i64 6, .int .i64 3, .int .i64 5] (i * 1 + j)), ivf (fun i j => nth [.int .i64 10, .int .i64 20, .int .i64 20, .int .i64 10] (i * 1 + j)), 3, 6, 5, 12⟩ true 4 (nsM 0 (fun i j => nth [.row 2 1 fun i j => nth [.int .i64 0, .int .i64 1] (i * 1 + j), .row 2 1 fun i j => nth [.int .i64 0, .int .i64 1] (i * 1 + j), .row 2 1 fun i j => nth [.int .i64 0, .int .i64 0] (i * 1 + j), .row 2 1 fun i j => nth [.int .i64 0, .int .i64 1] (i * 1 + j)] (i * 1 + j))) (nsV 0 (fun i j => nth [.row 2 1 fun i j => nth [.int .i64 0, .int .i64 1] (i * 1 + j), .row 2 1 fun i j => nth [.int .i64 0, .int .i64 1] (i * 1 + j), .row 2 1 fun i j => nth [.int .i64 0, .int .i64 0] (i * 1 + j), .row 2 1 fun i j => nth [.int .i64 0, .int .i64 1] (i * 1 + j)] (i * 1 + j)))).en = 600 := by decide +kernel
theorem na_a_st : (ckR ⟨2, nsA (fun i j => nth [.row 2 2 fun i j => nth [.int .i64 10, .int .i64 4, .int .i64 18, .int .i64 6] (i * 2 + j), .int .i64 50, .int .i64 2, .int .i64 3, .int .i64 0, .row 1 2 fun i j => nth [.int .i64 15, .int .i64 5] j, .int .i64 20, .int .i64 1, .int .i64 12, .int .i64 1] (i * 5 + j)), nsM 0 (fun i j => nth [.row 2 2 fun i j => nth [.int .i64 10, .int .i64 4, .int .i64 18, .int .i64 6] (i * 2 + j), .int .i64 50, .int .i64 2, .int .i64 3, .int .i64 0, .row 1 2 fun i j => nth [.int .i64 15, .int .i64 5] j, .int .i64 20, .int .i64 1, .int .i64 12, .int .i64 1] (i * 5 + j)), nsV 0 (fun i j => nth [.row 2 2 fun i j => nth [.int .i64 10, .int .i64 4, .int .i64 18, .int .i64 6] (i * 2 + j), .int .i64 50, .int .i64 2, .int .i64 3, .int .i64 0, .row 1 2 fun i j => nth [.int .i64 15, .int .i64 5] j, .int .i64 20, .int .i64 1, .int .i64 12, .int .i64 1] (i * 5 + j)), 4, ivf (fun i j => nth [.int .i64 4, .int .i64 6, .int .i64 3, .int .i64 5] (i * 1 + j)), ivf (fun i j => nth [.int .i64 10, .int .i64 20, .int .i64 20, .int .i64 10] (i * 1 + j)), 3, 6, 5, 12⟩ true 4 (nsM 0 (fun i j => nth [.row 2 1 fun i j => nth [.int .i64 0, .int .i64 1] (i * 1 + j), .row 2 1 fun i j => nth [.int .i64 0, .int .i64 1] (i * 1 + j), .row 2 1 fun i j => nth [.int .i64 0, .int .i64 0] (i * 1 + j), .row 2 1 fun i j => nth [.int .i64 0, .int .i64 1] (i * 1 + j)] (i * 1 + j))) (nsV 0 (fun i j => nth [.row 2 1 fun i j => nth [.int .i64 0, .int .i64 1] (i * 1 + j), .row 2 1 fun i j => nth [.int .i64 0, .int .i64 1] (i * 1 + j), .row 2 1 fun i j => nth [.int .i64 0, .int .i64 0] (i * 1 + j), .row 2 1 fun i j => nth [.int .i64 0, .int .i64 1] (i * 1 + j)] (i * 1 + j)))).st = 20 := by decide +kernel
theorem na_a_spk : (ckR ⟨2, nsA (fun i j => nth [.row 2 2 fun i j => nth [.int .i64 10, .int .i64 4, .int .i64 18, .int .i64 6] (i * 2 + j), .int .i64 50, .int .i64 2, .int .i64 3, .int .i64 0, .row 1 2 fun i j => nth [.int .i64 15, .int .i64 5] j, .int .i64 20, .int .i64 1, .int .i64 12, .int .i64 1] (i * 5 + j)), nsM 0 (fun i j => nth [.row 2 2 fun i j => nth [.int .i64 10, .int .i64 4, .int .i64 18, .int .i64 6] (i * 2 + j), .int .i64 50, .int .i64 2, .int .i64 3, .int .i64 0, .row 1 2 fun i j => nth [.int .i64 15, .int .i64 5] j, .int .i64 20, .int .i64 1, .int .i64 12, .int .i64 1] (i * 5 + j)), nsV 0 (fun i j => nth [.row 2 2 fun i j => nth [.int .i64 10, .int .i64 4, .int .i64 18, .int .i64 6] (i * 2 + j), .int .i64 50, .int .i64 2, .int .i64 3, .int .i64 0, .row 1 2 fun i j => nth [.int .i64 15, .int .i64 5] j, .int .i64 20, .int .i64 1, .int .i64 12, .int .i64 1] (i * 5 + j)), 4, ivf (fun i j => nth [.int .i64 4, .int .i64 6, .int .i64 3, .int .i64 5] (i * 1 + j)), ivf (fun i j => nth [.int .i64 10, .int .i64 20, .int .i64 20, .int .i64 10] (i * 1 + j)), 3, 6, 5, 12⟩ true 4 (nsM 0 (fun i j => nth [.row 2 1 fun i j => nth [.int .i64 0, .int .i64 1] (i * 1 + j), .row 2 1 fun i j => nth [.int .i64 0, .int .i64 1] (i * 1 + j), .row 2 1 fun i j => nth [.int .i64 0, .int .i64 0] (i * 1 + j), .row 2 1 fun i j => nth [.int .i64 0, .int .i64 1] (i * 1 + j)] (i * 1 + j))) (nsV 0 (fun i j => nth [.row 2 1 fun i j => nth [.int .i64 0, .int .i64 1] (i * 1 + j), .row 2 1 fun i j => nth [.int .i64 0, .int .i64 1] (i * 1 + j), .row 2 1 fun i j => nth [.int .i64 0, .int .i64 0] (i * 1 + j), .row 2 1 fun i j => nth [.int .i64 0, .int .i64 1] (i * 1 + j)] (i * 1 + j)))).s.pk = 3 := by decide +kernel
theorem na_a_hr : (ckR ⟨2, nsA (fun i j => nth [.row 2 2 fun i j => nth [.int .i64 10, .int .i64 4, .int .i64 18, .int .i64 6] (i * 2 + j), .int .i64 50, .int .i64 2, .int .i64 3, .int .i64 0, .row 1 2 fun i j => nth [.int .i64 15, .int .i64 5] j, .int .i64 20, .int .i64 1, .int .i64 12, .int .i64 1] (i * 5 + j)), nsM 0 (fun i j => nth [.row 2 2 fun i j => nth [.int .i64 10, .int .i64 4, .int .i64 18, .int .i64 6] (i * 2 + j), .int .i64 50, .int .i64 2, .int .i64 3, .int .i64 0, .row 1 2 fun i j => nth [.int .i64 15, .int .i64 5] j, .int .i64 20, .int .i64 1, .int .i64 12, .int .i64 1] (i * 5 + j)), nsV 0 (fun i j => nth [.row 2 2 fun i j => nth [.int .i64 10, .int .i64 4, .int .i64 18, .int .i64 6] (i * 2 + j), .int .i64 50, .int .i64 2, .int .i64 3, .int .i64 0, .row 1 2 fun i j => nth [.int .i64 15, .int .i64 5] j, .int .i64 20, .int .i64 1, .int .i64 12, .int .i64 1] (i * 5 + j)), 4, ivf (fun i j => nth [.int .i64 4, .int .i64 6, .int .i64 3, .int .i64 5] (i * 1 + j)), ivf (fun i j => nth [.int .i64 10, .int .i64 20, .int .i64 20, .int .i64 10] (i * 1 + j)), 3, 6, 5, 12⟩ true 4 (nsM 0 (fun i j => nth [.row 2 1 fun i j => nth [.int .i64 0, .int .i64 1] (i * 1 + j), .row 2 1 fun i j => nth [.int .i64 0, .int .i64 1] (i * 1 + j), .row 2 1 fun i j => nth [.int .i64 0, .int .i64 0] (i * 1 + j), .row 2 1 fun i j => nth [.int .i64 0, .int .i64 1] (i * 1 + j)] (i * 1 + j))) (nsV 0 (fun i j => nth [.row 2 1 fun i j => nth [.int .i64 0, .int .i64 1] (i * 1 + j), .row 2 1 fun i j => nth [.int .i64 0, .int .i64 1] (i * 1 + j), .row 2 1 fun i j => nth [.int .i64 0, .int .i64 0] (i * 1 + j), .row 2 1 fun i j => nth [.int .i64 0, .int .i64 1] (i * 1 + j)] (i * 1 + j)))).hr = 4 := by decide +kernel
theorem na_a_e : (ckR ⟨2, nsA (fun i j => nth [.row 2 2 fun i j => nth [.int .i64 10, .int .i64 4, .int .i64 18, .int .i64 6] (i * 2 + j), .int .i64 50, .int .i64 2, .int .i64 3, .int .i64 0, .row 1 2 fun i j => nth [.int .i64 15, .int .i64 5] j, .int .i64 20, .int .i64 1, .int .i64 12, .int .i64 1] (i * 5 + j)), nsM 0 (fun i j => nth [.row 2 2 fun i j => nth [.int .i64 10, .int .i64 4, .int .i64 18, .int .i64 6] (i * 2 + j), .int .i64 50, .int .i64 2, .int .i64 3, .int .i64 0, .row 1 2 fun i j => nth [.int .i64 15, .int .i64 5] j, .int .i64 20, .int .i64 1, .int .i64 12, .int .i64 1] (i * 5 + j)), nsV 0 (fun i j => nth [.row 2 2 fun i j => nth [.int .i64 10, .int .i64 4, .int .i64 18, .int .i64 6] (i * 2 + j), .int .i64 50, .int .i64 2, .int .i64 3, .int .i64 0, .row 1 2 fun i j => nth [.int .i64 15, .int .i64 5] j, .int .i64 20, .int .i64 1, .int .i64 12, .int .i64 1] (i * 5 + j)), 4, ivf (fun i j => nth [.int .i64 4, .int .i64 6, .int .i64 3, .int .i64 5] (i * 1 + j)), ivf (fun i j => nth [.int .i64 10, .int .i64 20, .int .i64 20, .int .i64 10] (i * 1 + j)), 3, 6, 5, 12⟩ true 4 (nsM 0 (fun i j => nth [.row 2 1 fun i j => nth [.int .i64 0, .int .i64 1] (i * 1 + j), .row 2 1 fun i j => nth [.int .i64 0, .int .i64 1] (i * 1 + j), .row 2 1 fun i j => nth [.int .i64 0, .int .i64 0] (i * 1 + j), .row 2 1 fun i j => nth [.int .i64 0, .int .i64 1] (i * 1 + j)] (i * 1 + j))) (nsV 0 (fun i j => nth [.row 2 1 fun i j => nth [.int .i64 0, .int .i64 1] (i * 1 + j), .row 2 1 fun i j => nth [.int .i64 0, .int .i64 1] (i * 1 + j), .row 2 1 fun i j => nth [.int .i64 0, .int .i64 0] (i * 1 + j), .row 2 1 fun i j => nth [.int .i64 0, .int .i64 1] (i * 1 + j)] (i * 1 + j)))).e = 0 := by decide +kernel
def naR (l : List (Int × Int)) : Nat → Nat → SV := fun i _ => match l[i]? with
  | some x => .row 2 1 (cellAt [.int .i64 x.1, .int .i64 x.2] 1)
  | none => .row 2 1 (cellAt [.int .i64 0, .int .i64 0] 1)
theorem cell_bd {a b : Int} {L K : Nat} (i j : Nat) : Bd L K (cellAt [.int .i64 a, .int .i64 b] 1 i j) := Bd_nth (by simp [BdL, Bd]) _
theorem cell_bd4 {a b c d : Int} {L K : Nat} (i j : Nat) : Bd L K (cellAt [.int .i64 a, .int .i64 b, .int .i64 c, .int .i64 d] 2 i j) := Bd_nth (by simp [BdL, Bd]) _
theorem cell_bd2 {a b : Int} {L K : Nat} (i j : Nat) : Bd L K (oneF [.int .i64 a, .int .i64 b] i j) := Bd_nth (by simp [BdL, Bd]) _
theorem nth_bd2 {a b : Int} {L K : Nat} (i : Nat) : Bd L K (nth [.int .i64 a, .int .i64 b] i) := Bd_nth (by simp [BdL, Bd]) _
theorem naR_bd {l : List (Int × Int)} {L K : Nat} (i j : Nat) : Bd L K (naR l i j) := by
  unfold naR
  split <;> exact fun i j _ _ => cell_bd i j
theorem naR_frz (k : Nat) (h : HS) (l : List (Int × Int)) (i j : Nat) : frzF (k + 1) h (naR l i j) = naR l i j := by
  unfold naR
  split <;> rfl
theorem na_b_en : (ckR ⟨2, nsA (fun i j => nth [.row 2 2 fun i j => nth [.int .i64 10, .int .i64 4, .int .i64 18, .int .i64 6] (i * 2 + j), .int .i64 50, .int .i64 2, .int .i64 3, .int .i64 0, .row 1 2 fun i j => nth [.int .i64 15, .int .i64 5] j, .int .i64 20, .int .i64 1, .int .i64 12, .int .i64 1] (i * 5 + j)), nsM 0 (fun i j => nth [.row 2 2 fun i j => nth [.int .i64 10, .int .i64 4, .int .i64 18, .int .i64 6] (i * 2 + j), .int .i64 50, .int .i64 2, .int .i64 3, .int .i64 0, .row 1 2 fun i j => nth [.int .i64 15, .int .i64 5] j, .int .i64 20, .int .i64 1, .int .i64 12, .int .i64 1] (i * 5 + j)), nsV 0 (fun i j => nth [.row 2 2 fun i j => nth [.int .i64 10, .int .i64 4, .int .i64 18, .int .i64 6] (i * 2 + j), .int .i64 50, .int .i64 2, .int .i64 3, .int .i64 0, .row 1 2 fun i j => nth [.int .i64 15, .int .i64 5] j, .int .i64 20, .int .i64 1, .int .i64 12, .int .i64 1] (i * 5 + j)), 4, ivf (fun i j => nth [.int .i64 4, .int .i64 6, .int .i64 3, .int .i64 5] (i * 1 + j)), ivf (fun i j => nth [.int .i64 10, .int .i64 20, .int .i64 20, .int .i64 10] (i * 1 + j)), 3, 6, 5, 12⟩ true 4 (nsM 0 (naR [(0, 0)])) (nsV 0 (naR [(0, 0)]))).en = 0 := by decide +kernel
theorem na_b_st : (ckR ⟨2, nsA (fun i j => nth [.row 2 2 fun i j => nth [.int .i64 10, .int .i64 4, .int .i64 18, .int .i64 6] (i * 2 + j), .int .i64 50, .int .i64 2, .int .i64 3, .int .i64 0, .row 1 2 fun i j => nth [.int .i64 15, .int .i64 5] j, .int .i64 20, .int .i64 1, .int .i64 12, .int .i64 1] (i * 5 + j)), nsM 0 (fun i j => nth [.row 2 2 fun i j => nth [.int .i64 10, .int .i64 4, .int .i64 18, .int .i64 6] (i * 2 + j), .int .i64 50, .int .i64 2, .int .i64 3, .int .i64 0, .row 1 2 fun i j => nth [.int .i64 15, .int .i64 5] j, .int .i64 20, .int .i64 1, .int .i64 12, .int .i64 1] (i * 5 + j)), nsV 0 (fun i j => nth [.row 2 2 fun i j => nth [.int .i64 10, .int .i64 4, .int .i64 18, .int .i64 6] (i * 2 + j), .int .i64 50, .int .i64 2, .int .i64 3, .int .i64 0, .row 1 2 fun i j => nth [.int .i64 15, .int .i64 5] j, .int .i64 20, .int .i64 1, .int .i64 12, .int .i64 1] (i * 5 + j)), 4, ivf (fun i j => nth [.int .i64 4, .int .i64 6, .int .i64 3, .int .i64 5] (i * 1 + j)), ivf (fun i j => nth [.int .i64 10, .int .i64 20, .int .i64 20, .int .i64 10] (i * 1 + j)), 3, 6, 5, 12⟩ true 4 (nsM 0 (naR [(0, 0)])) (nsV 0 (naR [(0, 0)]))).st = 0 := by decide +kernel
theorem na_b_spk : (ckR ⟨2, nsA (fun i j => nth [.row 2 2 fun i j => nth [.int .i64 10, .int .i64 4, .int .i64 18, .int .i64 6] (i * 2 + j), .int .i64 50, .int .i64 2, .int .i64 3, .int .i64 0, .row 1 2 fun i j => nth [.int .i64 15, .int .i64 5] j, .int .i64 20, .int .i64 1, .int .i64 12, .int .i64 1] (i * 5 + j)), nsM 0 (fun i j => nth [.row 2 2 fun i j => nth [.int .i64 10, .int .i64 4, .int .i64 18, .int .i64 6] (i * 2 + j), .int .i64 50, .int .i64 2, .int .i64 3, .int .i64 0, .row 1 2 fun i j => nth [.int .i64 15, .int .i64 5] j, .int .i64 20, .int .i64 1, .int .i64 12, .int .i64 1] (i * 5 + j)), nsV 0 (fun i j => nth [.row 2 2 fun i j => nth [.int .i64 10, .int .i64 4, .int .i64 18, .int .i64 6] (i * 2 + j), .int .i64 50, .int .i64 2, .int .i64 3, .int .i64 0, .row 1 2 fun i j => nth [.int .i64 15, .int .i64 5] j, .int .i64 20, .int .i64 1, .int .i64 12, .int .i64 1] (i * 5 + j)), 4, ivf (fun i j => nth [.int .i64 4, .int .i64 6, .int .i64 3, .int .i64 5] (i * 1 + j)), ivf (fun i j => nth [.int .i64 10, .int .i64 20, .int .i64 20, .int .i64 10] (i * 1 + j)), 3, 6, 5, 12⟩ true 4 (nsM 0 (naR [(0, 0)])) (nsV 0 (naR [(0, 0)]))).s.pk = 0 := by decide +kernel
theorem na_b_hr : (ckR ⟨2, nsA (fun i j => nth [.row 2 2 fun i j => nth [.int .i64 10, .int .i64 4, .int .i64 18, .int .i64 6] (i * 2 + j), .int .i64 50, .int .i64 2, .int .i64 3, .int .i64 0, .row 1 2 fun i j => nth [.int .i64 15, .int .i64 5] j, .int .i64 20, .int .i64 1, .int .i64 12, .int .i64 1] (i * 5 + j)), nsM 0 (fun i j => nth [.row 2 2 fun i j => nth [.int .i64 10, .int .i64 4, .int .i64 18, .int .i64 6] (i * 2 + j), .int .i64 50, .int .i64 2, .int .i64 3, .int .i64 0, .row 1 2 fun i j => nth [.int .i64 15, .int .i64 5] j, .int .i64 20, .int .i64 1, .int .i64 12, .int .i64 1] (i * 5 + j)), nsV 0 (fun i j => nth [.row 2 2 fun i j => nth [.int .i64 10, .int .i64 4, .int .i64 18, .int .i64 6] (i * 2 + j), .int .i64 50, .int .i64 2, .int .i64 3, .int .i64 0, .row 1 2 fun i j => nth [.int .i64 15, .int .i64 5] j, .int .i64 20, .int .i64 1, .int .i64 12, .int .i64 1] (i * 5 + j)), 4, ivf (fun i j => nth [.int .i64 4, .int .i64 6, .int .i64 3, .int .i64 5] (i * 1 + j)), ivf (fun i j => nth [.int .i64 10, .int .i64 20, .int .i64 20, .int .i64 10] (i * 1 + j)), 3, 6, 5, 12⟩ true 4 (nsM 0 (naR [(0, 0)])) (nsV 0 (naR [(0, 0)]))).hr = 0 := by decide +kernel
theorem na_b_e : (ckR ⟨2, nsA (fun i j => nth [.row 2 2 fun i j => nth [.int .i64 10, .int .i64 4, .int .i64 18, .int .i64 6] (i * 2 + j), .int .i64 50, .int .i64 2, .int .i64 3, .int .i64 0, .row 1 2 fun i j => nth [.int .i64 15, .int .i64 5] j, .int .i64 20, .int .i64 1, .int .i64 12, .int .i64 1] (i * 5 + j)), nsM 0 (fun i j => nth [.row 2 2 fun i j => nth [.int .i64 10, .int .i64 4, .int .i64 18, .int .i64 6] (i * 2 + j), .int .i64 50, .int .i64 2, .int .i64 3, .int .i64 0, .row 1 2 fun i j => nth [.int .i64 15, .int .i64 5] j, .int .i64 20, .int .i64 1, .int .i64 12, .int .i64 1] (i * 5 + j)), nsV 0 (fun i j => nth [.row 2 2 fun i j => nth [.int .i64 10, .int .i64 4, .int .i64 18, .int .i64 6] (i * 2 + j), .int .i64 50, .int .i64 2, .int .i64 3, .int .i64 0, .row 1 2 fun i j => nth [.int .i64 15, .int .i64 5] j, .int .i64 20, .int .i64 1, .int .i64 12, .int .i64 1] (i * 5 + j)), 4, ivf (fun i j => nth [.int .i64 4, .int .i64 6, .int .i64 3, .int .i64 5] (i * 1 + j)), ivf (fun i j => nth [.int .i64 10, .int .i64 20, .int .i64 20, .int .i64 10] (i * 1 + j)), 3, 6, 5, 12⟩ true 4 (nsM 0 (naR [(0, 0)])) (nsV 0 (naR [(0, 0)]))).e = 10 := by decide +kernel
theorem na_b_ne : NestR 4 1 0 1 (naR [(0, 0)]) = True := eq_true (nestRb_ok (by kernel_rfl))
theorem na_b_K : ∀ i, i < 4 → nsM 0 (naR [(0, 0)]) i ≤ 1000000 := fun i hi => by rcases (by omega : i = 0 ∨ i = 1 ∨ i = 2 ∨ i = 3) with rfl | rfl | rfl | rfl <;> decide +kernel
theorem na_c_en : (ckR ⟨2, nsA (fun i j => nth [.row 2 2 fun i j => nth [.int .i64 10, .int .i64 4, .int .i64 18, .int .i64 6] (i * 2 + j), .int .i64 50, .int .i64 2, .int .i64 3, .int .i64 0, .row 1 2 fun i j => nth [.int .i64 15, .int .i64 5] j, .int .i64 20, .int .i64 1, .int .i64 12, .int .i64 1] (i * 5 + j)), nsM 0 (fun i j => nth [.row 2 2 fun i j => nth [.int .i64 10, .int .i64 4, .int .i64 18, .int .i64 6] (i * 2 + j), .int .i64 50, .int .i64 2, .int .i64 3, .int .i64 0, .row 1 2 fun i j => nth [.int .i64 15, .int .i64 5] j, .int .i64 20, .int .i64 1, .int .i64 12, .int .i64 1] (i * 5 + j)), nsV 0 (fun i j => nth [.row 2 2 fun i j => nth [.int .i64 10, .int .i64 4, .int .i64 18, .int .i64 6] (i * 2 + j), .int .i64 50, .int .i64 2, .int .i64 3, .int .i64 0, .row 1 2 fun i j => nth [.int .i64 15, .int .i64 5] j, .int .i64 20, .int .i64 1, .int .i64 12, .int .i64 1] (i * 5 + j)), 4, ivf (fun i j => nth [.int .i64 4, .int .i64 6, .int .i64 3, .int .i64 5] (i * 1 + j)), ivf (fun i j => nth [.int .i64 10, .int .i64 20, .int .i64 20, .int .i64 10] (i * 1 + j)), 3, 6, 5, 12⟩ true 4 (nsM 0 (naR [(0, 1), (1, 1)])) (nsV 0 (naR [(0, 1), (1, 1)]))).en = 0 := by decide +kernel
theorem na_c_st : (ckR ⟨2, nsA (fun i j => nth [.row 2 2 fun i j => nth [.int .i64 10, .int .i64 4, .int .i64 18, .int .i64 6] (i * 2 + j), .int .i64 50, .int .i64 2, .int .i64 3, .int .i64 0, .row 1 2 fun i j => nth [.int .i64 15, .int .i64 5] j, .int .i64 20, .int .i64 1, .int .i64 12, .int .i64 1] (i * 5 + j)), nsM 0 (fun i j => nth [.row 2 2 fun i j => nth [.int .i64 10, .int .i64 4, .int .i64 18, .int .i64 6] (i * 2 + j), .int .i64 50, .int .i64 2, .int .i64 3, .int .i64 0, .row 1 2 fun i j => nth [.int .i64 15, .int .i64 5] j, .int .i64 20, .int .i64 1, .int .i64 12, .int .i64 1] (i * 5 + j)), nsV 0 (fun i j => nth [.row 2 2 fun i j => nth [.int .i64 10, .int .i64 4, .int .i64 18, .int .i64 6] (i * 2 + j), .int .i64 50, .int .i64 2, .int .i64 3, .int .i64 0, .row 1 2 fun i j => nth [.int .i64 15, .int .i64 5] j, .int .i64 20, .int .i64 1, .int .i64 12, .int .i64 1] (i * 5 + j)), 4, ivf (fun i j => nth [.int .i64 4, .int .i64 6, .int .i64 3, .int .i64 5] (i * 1 + j)), ivf (fun i j => nth [.int .i64 10, .int .i64 20, .int .i64 20, .int .i64 10] (i * 1 + j)), 3, 6, 5, 12⟩ true 4 (nsM 0 (naR [(0, 1), (1, 1)])) (nsV 0 (naR [(0, 1), (1, 1)]))).st = 0 := by decide +kernel
theorem na_c_spk : (ckR ⟨2, nsA (fun i j => nth [.row 2 2 fun i j => nth [.int .i64 10, .int .i64 4, .int .i64 18, .int .i64 6] (i * 2 + j), .int .i64 50, .int .i64 2, .int .i64 3, .int .i64 0, .row 1 2 fun i j => nth [.int .i64 15, .int .i64 5] j, .int .i64 20, .int .i64 1, .int .i64 12, .int .i64 1] (i * 5 + j)), nsM 0 (fun i j => nth [.row 2 2 fun i j => nth [.int .i64 10, .int .i64 4, .int .i64 18, .int .i64 6] (i * 2 + j), .int .i64 50, .int .i64 2, .int .i64 3, .int .i64 0, .row 1 2 fun i j => nth [.int .i64 15, .int .i64 5] j, .int .i64 20, .int .i64 1, .int .i64 12, .int .i64 1] (i * 5 + j)), nsV 0 (fun i j => nth [.row 2 2 fun i j => nth [.int .i64 10, .int .i64 4, .int .i64 18, .int .i64 6] (i * 2 + j), .int .i64 50, .int .i64 2, .int .i64 3, .int .i64 0, .row 1 2 fun i j => nth [.int .i64 15, .int .i64 5] j, .int .i64 20, .int .i64 1, .int .i64 12, .int .i64 1] (i * 5 + j)), 4, ivf (fun i j => nth [.int .i64 4, .int .i64 6, .int .i64 3, .int .i64 5] (i * 1 + j)), ivf (fun i j => nth [.int .i64 10, .int .i64 20, .int .i64 20, .int .i64 10] (i * 1 + j)), 3, 6, 5, 12⟩ true 4 (nsM 0 (naR [(0, 1), (1, 1)])) (nsV 0 (naR [(0, 1), (1, 1)]))).s.pk = 0 := by decide +kernel
theorem na_c_hr : (ckR ⟨2, nsA (fun i j => nth [.row 2 2 fun i j => nth [.int .i64 10, .int .i64 4, .int .i64 18, .int .i64 6] (i * 2 + j), .int .i64 50, .int .i64 2, .int .i64 3, .int .i64 0, .row 1 2 fun i j => nth [.int .i64 15, .int .i64 5] j, .int .i64 20, .int .i64 1, .int .i64 12, .int .i64 1] (i * 5 + j)), nsM 0 (fun i j => nth [.row 2 2 fun i j => nth [.int .i64 10, .int .i64 4, .int .i64 18, .int .i64 6] (i * 2 + j), .int .i64 50, .int .i64 2, .int .i64 3, .int .i64 0, .row 1 2 fun i j => nth [.int .i64 15, .int .i64 5] j, .int .i64 20, .int .i64 1, .int .i64 12, .int .i64 1] (i * 5 + j)), nsV 0 (fun i j => nth [.row 2 2 fun i j => nth [.int .i64 10, .int .i64 4, .int .i64 18, .int .i64 6] (i * 2 + j), .int .i64 50, .int .i64 2, .int .i64 3, .int .i64 0, .row 1 2 fun i j => nth [.int .i64 15, .int .i64 5] j, .int .i64 20, .int .i64 1, .int .i64 12, .int .i64 1] (i * 5 + j)), 4, ivf (fun i j => nth [.int .i64 4, .int .i64 6, .int .i64 3, .int .i64 5] (i * 1 + j)), ivf (fun i j => nth [.int .i64 10, .int .i64 20, .int .i64 20, .int .i64 10] (i * 1 + j)), 3, 6, 5, 12⟩ true 4 (nsM 0 (naR [(0, 1), (1, 1)])) (nsV 0 (naR [(0, 1), (1, 1)]))).hr = 1 := by decide +kernel
theorem na_c_e : (ckR ⟨2, nsA (fun i j => nth [.row 2 2 fun i j => nth [.int .i64 10, .int .i64 4, .int .i64 18, .int .i64 6] (i * 2 + j), .int .i64 50, .int .i64 2, .int .i64 3, .int .i64 0, .row 1 2 fun i j => nth [.int .i64 15, .int .i64 5] j, .int .i64 20, .int .i64 1, .int .i64 12, .int .i64 1] (i * 5 + j)), nsM 0 (fun i j => nth [.row 2 2 fun i j => nth [.int .i64 10, .int .i64 4, .int .i64 18, .int .i64 6] (i * 2 + j), .int .i64 50, .int .i64 2, .int .i64 3, .int .i64 0, .row 1 2 fun i j => nth [.int .i64 15, .int .i64 5] j, .int .i64 20, .int .i64 1, .int .i64 12, .int .i64 1] (i * 5 + j)), nsV 0 (fun i j => nth [.row 2 2 fun i j => nth [.int .i64 10, .int .i64 4, .int .i64 18, .int .i64 6] (i * 2 + j), .int .i64 50, .int .i64 2, .int .i64 3, .int .i64 0, .row 1 2 fun i j => nth [.int .i64 15, .int .i64 5] j, .int .i64 20, .int .i64 1, .int .i64 12, .int .i64 1] (i * 5 + j)), 4, ivf (fun i j => nth [.int .i64 4, .int .i64 6, .int .i64 3, .int .i64 5] (i * 1 + j)), ivf (fun i j => nth [.int .i64 10, .int .i64 20, .int .i64 20, .int .i64 10] (i * 1 + j)), 3, 6, 5, 12⟩ true 4 (nsM 0 (naR [(0, 1), (1, 1)])) (nsV 0 (naR [(0, 1), (1, 1)]))).e = 9 := by decide +kernel
theorem na_c_ne : NestR 4 1 0 1 (naR [(0, 1), (1, 1)]) = True := eq_true (nestRb_ok (by kernel_rfl))
theorem na_c_K : ∀ i, i < 4 → nsM 0 (naR [(0, 1), (1, 1)]) i ≤ 1000000 := fun i hi => by rcases (by omega : i = 0 ∨ i = 1 ∨ i = 2 ∨ i = 3) with rfl | rfl | rfl | rfl <;> decide +kernel
theorem na_d_en : (ckR ⟨2, nsA (fun i j => nth [.row 2 2 fun i j => nth [.int .i64 10, .int .i64 4, .int .i64 18, .int .i64 6] (i * 2 + j), .int .i64 50, .int .i64 2, .int .i64 3, .int .i64 0, .row 1 2 fun i j => nth [.int .i64 15, .int .i64 5] j, .int .i64 20, .int .i64 1, .int .i64 12, .int .i64 1] (i * 5 + j)), nsM 0 (fun i j => nth [.row 2 2 fun i j => nth [.int .i64 10, .int .i64 4, .int .i64 18, .int .i64 6] (i * 2 + j), .int .i64 50, .int .i64 2, .int .i64 3, .int .i64 0, .row 1 2 fun i j => nth [.int .i64 15, .int .i64 5] j, .int .i64 20, .int .i64 1, .int .i64 12, .int .i64 1] (i * 5 + j)), nsV 0 (fun i j => nth [.row 2 2 fun i j => nth [.int .i64 10, .int .i64 4, .int .i64 18, .int .i64 6] (i * 2 + j), .int .i64 50, .int .i64 2, .int .i64 3, .int .i64 0, .row 1 2 fun i j => nth [.int .i64 15, .int .i64 5] j, .int .i64 20, .int .i64 1, .int .i64 12, .int .i64 1] (i * 5 + j)), 4, ivf (fun i j => nth [.int .i64 4, .int .i64 6, .int .i64 3, .int .i64 5] (i * 1 + j)), ivf (fun i j => nth [.int .i64 10, .int .i64 20, .int .i64 20, .int .i64 10] (i * 1 + j)), 3, 6, 5, 12⟩ true 4 (nsM 0 (naR [(1, 0), (0, 1)])) (nsV 0 (naR [(1, 0), (0, 1)]))).en = 0 := by decide +kernel
theorem na_d_st : (ckR ⟨2, nsA (fun i j => nth [.row 2 2 fun i j => nth [.int .i64 10, .int .i64 4, .int .i64 18, .int .i64 6] (i * 2 + j), .int .i64 50, .int .i64 2, .int .i64 3, .int .i64 0, .row 1 2 fun i j => nth [.int .i64 15, .int .i64 5] j, .int .i64 20, .int .i64 1, .int .i64 12, .int .i64 1] (i * 5 + j)), nsM 0 (fun i j => nth [.row 2 2 fun i j => nth [.int .i64 10, .int .i64 4, .int .i64 18, .int .i64 6] (i * 2 + j), .int .i64 50, .int .i64 2, .int .i64 3, .int .i64 0, .row 1 2 fun i j => nth [.int .i64 15, .int .i64 5] j, .int .i64 20, .int .i64 1, .int .i64 12, .int .i64 1] (i * 5 + j)), nsV 0 (fun i j => nth [.row 2 2 fun i j => nth [.int .i64 10, .int .i64 4, .int .i64 18, .int .i64 6] (i * 2 + j), .int .i64 50, .int .i64 2, .int .i64 3, .int .i64 0, .row 1 2 fun i j => nth [.int .i64 15, .int .i64 5] j, .int .i64 20, .int .i64 1, .int .i64 12, .int .i64 1] (i * 5 + j)), 4, ivf (fun i j => nth [.int .i64 4, .int .i64 6, .int .i64 3, .int .i64 5] (i * 1 + j)), ivf (fun i j => nth [.int .i64 10, .int .i64 20, .int .i64 20, .int .i64 10] (i * 1 + j)), 3, 6, 5, 12⟩ true 4 (nsM 0 (naR [(1, 0), (0, 1)])) (nsV 0 (naR [(1, 0), (0, 1)]))).st = 0 := by decide +kernel
theorem na_d_spk : (ckR ⟨2, nsA (fun i j => nth [.row 2 2 fun i j => nth [.int .i64 10, .int .i64 4, .int .i64 18, .int .i64 6] (i * 2 + j), .int .i64 50, .int .i64 2, .int .i64 3, .int .i64 0, .row 1 2 fun i j => nth [.int .i64 15, .int .i64 5] j, .int .i64 20, .int .i64 1, .int .i64 12, .int .i64 1] (i * 5 + j)), nsM 0 (fun i j => nth [.row 2 2 fun i j => nth [.int .i64 10, .int .i64 4, .int .i64 18, .int .i64 6] (i * 2 + j), .int .i64 50, .int .i64 2, .int .i64 3, .int .i64 0, .row 1 2 fun i j => nth [.int .i64 15, .int .i64 5] j, .int .i64 20, .int .i64 1, .int .i64 12, .int .i64 1] (i * 5 + j)), nsV 0 (fun i j => nth [.row 2 2 fun i j => nth [.int .i64 10, .int .i64 4, .int .i64 18, .int .i64 6] (i * 2 + j), .int .i64 50, .int .i64 2, .int .i64 3, .int .i64 0, .row 1 2 fun i j => nth [.int .i64 15, .int .i64 5] j, .int .i64 20, .int .i64 1, .int .i64 12, .int .i64 1] (i * 5 + j)), 4, ivf (fun i j => nth [.int .i64 4, .int .i64 6, .int .i64 3, .int .i64 5] (i * 1 + j)), ivf (fun i j => nth [.int .i64 10, .int .i64 20, .int .i64 20, .int .i64 10] (i * 1 + j)), 3, 6, 5, 12⟩ true 4 (nsM 0 (naR [(1, 0), (0, 1)])) (nsV 0 (naR [(1, 0), (0, 1)]))).s.pk = 0 := by decide +kernel
theorem na_d_hr : (ckR ⟨2, nsA (fun i j => nth [.row 2 2 fun i j => nth [.int .i64 10, .int .i64 4, .int .i64 18, .int .i64 6] (i * 2 + j), .int .i64 50, .int .i64 2, .int .i64 3, .int .i64 0, .row 1 2 fun i j => nth [.int .i64 15, .int .i64 5] j, .int .i64 20, .int .i64 1, .int .i64 12, .int .i64 1] (i * 5 + j)), nsM 0 (fun i j => nth [.row 2 2 fun i j => nth [.int .i64 10, .int .i64 4, .int .i64 18, .int .i64 6] (i * 2 + j), .int .i64 50, .int .i64 2, .int .i64 3, .int .i64 0, .row 1 2 fun i j => nth [.int .i64 15, .int .i64 5] j, .int .i64 20, .int .i64 1, .int .i64 12, .int .i64 1] (i * 5 + j)), nsV 0 (fun i j => nth [.row 2 2 fun i j => nth [.int .i64 10, .int .i64 4, .int .i64 18, .int .i64 6] (i * 2 + j), .int .i64 50, .int .i64 2, .int .i64 3, .int .i64 0, .row 1 2 fun i j => nth [.int .i64 15, .int .i64 5] j, .int .i64 20, .int .i64 1, .int .i64 12, .int .i64 1] (i * 5 + j)), 4, ivf (fun i j => nth [.int .i64 4, .int .i64 6, .int .i64 3, .int .i64 5] (i * 1 + j)), ivf (fun i j => nth [.int .i64 10, .int .i64 20, .int .i64 20, .int .i64 10] (i * 1 + j)), 3, 6, 5, 12⟩ true 4 (nsM 0 (naR [(1, 0), (0, 1)])) (nsV 0 (naR [(1, 0), (0, 1)]))).hr = 1 := by decide +kernel
theorem na_d_e : (ckR ⟨2, nsA (fun i j => nth [.row 2 2 fun i j => nth [.int .i64 10, .int .i64 4, .int .i64 18, .int .i64 6] (i * 2 + j), .int .i64 50, .int .i64 2, .int .i64 3, .int .i64 0, .row 1 2 fun i j => nth [.int .i64 15, .int .i64 5] j, .int .i64 20, .int .i64 1, .int .i64 12, .int .i64 1] (i * 5 + j)), nsM 0 (fun i j => nth [.row 2 2 fun i j => nth [.int .i64 10, .int .i64 4, .int .i64 18, .int .i64 6] (i * 2 + j), .int .i64 50, .int .i64 2, .int .i64 3, .int .i64 0, .row 1 2 fun i j => nth [.int .i64 15, .int .i64 5] j, .int .i64 20, .int .i64 1, .int .i64 12, .int .i64 1] (i * 5 + j)), nsV 0 (fun i j => nth [.row 2 2 fun i j => nth [.int .i64 10, .int .i64 4, .int .i64 18, .int .i64 6] (i * 2 + j), .int .i64 50, .int .i64 2, .int .i64 3, .int .i64 0, .row 1 2 fun i j => nth [.int .i64 15, .int .i64 5] j, .int .i64 20, .int .i64 1, .int .i64 12, .int .i64 1] (i * 5 + j)), 4, ivf (fun i j => nth [.int .i64 4, .int .i64 6, .int .i64 3, .int .i64 5] (i * 1 + j)), ivf (fun i j => nth [.int .i64 10, .int .i64 20, .int .i64 20, .int .i64 10] (i * 1 + j)), 3, 6, 5, 12⟩ true 4 (nsM 0 (naR [(1, 0), (0, 1)])) (nsV 0 (naR [(1, 0), (0, 1)]))).e = 11 := by decide +kernel
theorem na_d_ne : NestR 4 1 0 1 (naR [(1, 0), (0, 1)]) = True := eq_true (nestRb_ok (by kernel_rfl))
theorem na_d_K : ∀ i, i < 4 → nsM 0 (naR [(1, 0), (0, 1)]) i ≤ 1000000 := fun i hi => by rcases (by omega : i = 0 ∨ i = 1 ∨ i = 2 ∨ i = 3) with rfl | rfl | rfl | rfl <;> decide +kernel
theorem calls_preM {P : Program} {g : Nat} {args args' : List SV} {h h' : HS} {K : Out → HS → Prop} (hs : SubM args h (args', h')) (hB : lenB h'.blks = lenB h.blks) (hV : lenV h'.vecs = lenV h.vecs) (hc : CallsS P g args' h' K) : CallsS P g args h K := fun E w vals hr hd => by
  obtain ⟨E', e1, hx, g1, g2⟩ := hs.go hd hr E.nb E.nv (hB.trans hr.nb.symm) (hV.trans hr.nv.symm) (Nat.le_refl _) (Nat.le_refl _)
  have hx' : Ext E w { E' with nb := E.nb, nv := E.nv } w := ⟨hx.os, hx.tape, hx.output, hx.size, Nat.le_refl _, Nat.le_refl _, hx.rho, hx.val, hx.keep, hx.oth⟩
  refine (hc _ w vals g2 g1).mono ?_
  rintro e w' ⟨o, h'', E'', k1, k2, k3, k4⟩
  exact ⟨o, h'', E'', k1, k2, hx'.trans k3, k4⟩
theorem subS_self {t : List SV} {h : HS} (h1 : subL t t) (h2 : subB h.blks h.blks) (h3 : subV h.vecs h.vecs) (h4 : BdL (lenB h.blks) (lenV h.vecs) t) (h5 : bdB (lenB h.blks) (lenV h.vecs) h.blks) (h6 : bdV (lenB h.blks) (lenV h.vecs) h.vecs) : SubM t h (t, h) := .sub ⟨h1, h2, h3, h4, h5, h6⟩
theorem naR_out {l : List (Int × Int)} {k : Nat} (h : l.length ≤ k) (j : Nat) : naR l k j = .row 2 1 (cellAt [.int .i64 0, .int .i64 0] 1) := by
  simp only [naR, List.getElem?_eq_none h]
theorem na_ps : psB 2 (nsA (fun i j => nth [.row 2 2 fun i j => nth [.int .i64 10, .int .i64 4, .int .i64 18, .int .i64 6] (i * 2 + j), .int .i64 50, .int .i64 2, .int .i64 3, .int .i64 0, .row 1 2 fun i j => nth [.int .i64 15, .int .i64 5] j, .int .i64 20, .int .i64 1, .int .i64 12, .int .i64 1] (i * 5 + j))) (nsM 0 (fun i j => nth [.row 2 2 fun i j => nth [.int .i64 10, .int .i64 4, .int .i64 18, .int .i64 6] (i * 2 + j), .int .i64 50, .int .i64 2, .int .i64 3, .int .i64 0, .row 1 2 fun i j => nth [.int .i64 15, .int .i64 5] j, .int .i64 20, .int .i64 1, .int .i64 12, .int .i64 1] (i * 5 + j))) (nsV 0 (fun i j => nth [.row 2 2 fun i j => nth [.int .i64 10, .int .i64 4, .int .i64 18, .int .i64 6] (i * 2 + j), .int .i64 50, .int .i64 2, .int .i64 3, .int .i64 0, .row 1 2 fun i j => nth [.int .i64 15, .int .i64 5] j, .int .i64 20, .int .i64 1, .int .i64 12, .int .i64 1] (i * 5 + j))) 4 (ivf (fun i j => nth [.int .i64 4, .int .i64 6, .int .i64 3, .int .i64 5] (i * 1 + j))) 4 (ivf (fun i j => nth [.int .i64 10, .int .i64 20, .int .i64 20, .int .i64 10] (i * 1 + j))) 3 6 5 12 = true := by decide +kernel
theorem na_M : ∀ i, i < 2 → nsM 0 (fun i j => nth [.row 2 2 fun i j => nth [.int .i64 10, .int .i64 4, .int .i64 18, .int .i64 6] (i * 2 + j), .int .i64 50, .int .i64 2, .int .i64 3, .int .i64 0, .row 1 2 fun i j => nth [.int .i64 15, .int .i64 5] j, .int .i64 20, .int .i64 1, .int .i64 12, .int .i64 1] (i * 5 + j)) i ≤ 1000000 := fun i hi => by rcases (by omega : i = 0 ∨ i = 1) with rfl | rfl <;> decide +kernel
theorem na_N1 : (NestR 2 5 0 2 (fun i j => nth [.row 2 2 fun i j => nth [.int .i64 10, .int .i64 4, .int .i64 18, .int .i64 6] (i * 2 + j), .int .i64 50, .int .i64 2, .int .i64 3, .int .i64 0, .row 1 2 fun i j => nth [.int .i64 15, .int .i64 5] j, .int .i64 20, .int .i64 1, .int .i64 12, .int .i64 1] (i * 5 + j))) = True := eq_true (nestRb_ok (by kernel_rfl))
theorem na_I1 : (IntR 4 1 (fun i j => nth [.int .i64 4, .int .i64 6, .int .i64 3, .int .i64 5] (i * 1 + j))) = True := eq_true (by
  intro i j hi hj
  obtain rfl : j = 0 := by omega
  rcases (by omega : i = 0 ∨ i = 1 ∨ i = 2 ∨ i = 3) with rfl | rfl | rfl | rfl <;> rfl)
theorem na_I2 : (IntR 4 1 (fun i j => nth [.int .i64 10, .int .i64 20, .int .i64 20, .int .i64 10] (i * 1 + j))) = True := eq_true (by
  intro i j hi hj
  obtain rfl : j = 0 := by omega
  rcases (by omega : i = 0 ∨ i = 1 ∨ i = 2 ∨ i = 3) with rfl | rfl | rfl | rfl <;> rfl)
theorem na_a_ne : NestR 4 1 0 1 (fun i j => nth [.row 2 1 fun i j => nth [.int .i64 0, .int .i64 1] (i * 1 + j), .row 2 1 fun i j => nth [.int .i64 0, .int .i64 1] (i * 1 + j), .row 2 1 fun i j => nth [.int .i64 0, .int .i64 0] (i * 1 + j), .row 2 1 fun i j => nth [.int .i64 0, .int .i64 1] (i * 1 + j)] (i * 1 + j)) = True := eq_true (nestRb_ok (by kernel_rfl))
theorem na_a_K : ∀ i, i < 4 → nsM 0 (fun i j => nth [.row 2 1 fun i j => nth [.int .i64 0, .int .i64 1] (i * 1 + j), .row 2 1 fun i j => nth [.int .i64 0, .int .i64 1] (i * 1 + j), .row 2 1 fun i j => nth [.int .i64 0, .int .i64 0] (i * 1 + j), .row 2 1 fun i j => nth [.int .i64 0, .int .i64 1] (i * 1 + j)] (i * 1 + j)) i ≤ 1000000 := fun i hi => by rcases (by omega : i = 0 ∨ i = 1 ∨ i = 2 ∨ i = 3) with rfl | rfl | rfl | rfl <;> decide +kernel
def pressNamesBase : BaseF := fun args => match args with
  | [] => some (True, .bool true)
  | _ => none
theorem pressNames_eq  : pressNamesBase [] = some (True, .bool true) := rfl
theorem pressNames_base : Base Try.prog 7 pressNamesBase := by
  intro args p v hq hp
  unfold pressNamesBase at hq
  split at hq
  rotate_left
  · cases hq
  cases hq
  refine base_of (C := cx [24] [] [(13, aliveBase), (19, checkBase), (26, sameBase)] [] none) (cx_ok trivial ⟨alive_base, check_base, same_base, trivial⟩) rfl (g := 7) (fn := Try.f7)
    (args' := []) (fn_7) rfl 1000 (by simp only [BdL, Bd, and_self, and_true, true_and]) trivial ?_
  simp only [alive_eq, check_eq, same_eq, Try.f27, Try.f28, naR_frz, frzF_nth, cellAt, na_ps, na_N1, na_I1, na_I2, na_a_ne, na_a_en, na_a_st, na_a_spk, na_a_hr, na_a_e, na_b_en, na_b_st, na_b_spk, na_b_hr, na_b_e, na_b_ne, na_c_en, na_c_st, na_c_spk, na_c_hr, na_c_e, na_c_ne, na_d_en, na_d_st, na_d_spk, na_d_hr, na_d_e, na_d_ne, prC, nestF_eq, nestR_lit, nsM_lit, nsV_lit, Try.f7, go_sem, ↓reduceIte, Nat.reduceAdd, Nat.reduceSub, Nat.reduceMul, Nat.reduceEqDiff, Nat.reduceLT, Nat.reduceLeDiff, Int.reduceToNat, Int.reduceLE, Int.reduceLT, Int.reduceEq, Int.reduceNeg, reduceCtorEq]
  have hM := na_M
  refine ⟨⟨hM, na_a_K⟩, ?_⟩
  refine loop_ofH { k : Nat // 1 ≤ k ∧ k ≤ 4 } (fun k => [(3, .ptr 1 0), (2, .vec 17 (k.1 - 1)), (1, .int .i64 10), (0, .int .i64 0)])
    (fun h k => ⟨h.blks, setV (setV (h.vecs) 16 .dead) 17 (.live (k.1 - 1) 23 1 k.1 (naR [(0, 0)]))⟩) (fun k => 4 - k.1) (fun _ => ⟨rfl, by simp only [lenV_set]⟩) ⟨1, by omega, by omega⟩ ?_ ?_
  · refine sub_fz 16 17 (naR [(0, 0)]) rfl rfl (by decide) ?_ ?_
    · intro i j hi hj
      obtain rfl : j = 0 := by omega
      obtain rfl : i = 0 := by omega
      exact .inr ⟨rfl, rfl⟩
    apply sub_of <;> simp only [go_sem, ↓reduceIte, Nat.reduceAdd, Nat.reduceSub, Nat.reduceMul, Nat.reduceEqDiff, Nat.reduceLT, Nat.reduceLeDiff, Int.reduceToNat, Int.reduceLE, Int.reduceLT, Int.reduceEq, Int.reduceNeg, reduceCtorEq] <;> (try simp)
    all_goals first | exact nestF_bd _ _ _ _ _ _ _ _ _ | skip
    all_goals repeat' apply And.intro
    all_goals first | exact nestF_bd _ _ _ _ _ _ _ _ _ | exact fun i _ => nth_bd2 i | exact naR_bd _ _ | exact fun i _ => naR_bd i 0 | exact fun i _ => Bd_nth (by simp [BdL, Bd]) i | exact fun i j _ _ => Bd_nth (by simp [BdL, Bd]) _ | omega
  rintro ⟨k, hk1, hk4⟩
  rcases Nat.lt_or_ge k 4 with hk | hk
  · have hd : decide ((k : Int) < 4) = true := decide_eq_true (by omega)
    simp only [hd, alive_eq, check_eq, same_eq, Try.f27, Try.f28, naR_frz, frzF_nth, cellAt, na_ps, na_N1, na_I1, na_I2, na_a_ne, na_a_en, na_a_st, na_a_spk, na_a_hr, na_a_e, na_b_en, na_b_st, na_b_spk, na_b_hr, na_b_e, na_b_ne, na_c_en, na_c_st, na_c_spk, na_c_hr, na_c_e, na_c_ne, na_d_en, na_d_st, na_d_spk, na_d_hr, na_d_e, na_d_ne, prC, nestF_eq, nestR_lit, nsM_lit, nsV_lit, Try.f7, go_sem, ↓reduceIte, Nat.reduceAdd, Nat.reduceSub, Nat.reduceMul, Nat.reduceEqDiff, Nat.reduceLT, Nat.reduceLeDiff, Int.reduceToNat, Int.reduceLE, Int.reduceLT, Int.reduceEq, Int.reduceNeg, reduceCtorEq]
    refine ⟨⟨by omega, by omega⟩, ⟨k + 1, by omega, by omega⟩, by simp only []; omega, ?_⟩
    refine sub_fz 18 17 (naR [(0, 0)]) rfl rfl (by decide) ?_ ?_
    · intro i j hi hj
      obtain rfl : j = 0 := by omega
      rcases Nat.lt_or_ge i k with h | h
      · left; simp only [catF, if_pos h]
      · obtain rfl : i = k := by omega
        right
        exact ⟨by simp only [catF, if_neg (Nat.lt_irrefl _), Nat.sub_self]; rfl, naR_out (by simp only [List.length]; omega) 0⟩
    · apply sub_of <;> simp only [go_sem, ↓reduceIte, Nat.reduceAdd, Nat.reduceSub, Nat.reduceMul, Nat.reduceEqDiff, Nat.reduceLT, Nat.reduceLeDiff, Int.reduceToNat, Int.reduceLE, Int.reduceLT, Int.reduceEq, Int.reduceNeg, reduceCtorEq] <;> (try simp)
      all_goals repeat' apply And.intro
      all_goals first | exact nestF_bd _ _ _ _ _ _ _ _ _ | exact fun i _ => nth_bd2 i | exact naR_bd _ _ | exact fun i _ => naR_bd i 0 | exact fun i _ => Bd_nth (by simp [BdL, Bd]) i | exact fun i j _ _ => Bd_nth (by simp [BdL, Bd]) _ | omega
  obtain rfl : k = 4 := by omega
  have hd : decide (((4 : Nat) : Int) < 4) = false := by decide
  have hd2 : decide (((0 : Nat) : Int) = 0) = true := by decide
  have hd3 : decide (((1 : Nat) : Int) = 1) = true := by decide
  simp only [hd, hd2, hd3, Int.zero_mul, decide_true, alive_eq, check_eq, same_eq, Try.f27, Try.f28, naR_frz, frzF_nth, cellAt, na_ps, na_N1, na_I1, na_I2, na_a_ne, na_a_en, na_a_st, na_a_spk, na_a_hr, na_a_e, na_b_en, na_b_st, na_b_spk, na_b_hr, na_b_e, na_b_ne, na_c_en, na_c_st, na_c_spk, na_c_hr, na_c_e, na_c_ne, na_d_en, na_d_st, na_d_spk, na_d_hr, na_d_e, na_d_ne, prC, nestF_eq, nestR_lit, nsM_lit, nsV_lit, Try.f7, go_sem, ↓reduceIte, Nat.reduceAdd, Nat.reduceSub, Nat.reduceMul, Nat.reduceEqDiff, Nat.reduceLT, Nat.reduceLeDiff, Int.reduceToNat, Int.reduceLE, Int.reduceLT, Int.reduceEq, Int.reduceNeg, reduceCtorEq]
  refine ⟨⟨hM, na_b_K⟩, ?_⟩
  clear hd hd2 hd3 hk hk1 hk4
  refine loop_ofH { k : Nat // 2 ≤ k ∧ k ≤ 4 } (fun k => [(3, .ptr 1 0), (2, .vec 20 (k.1 - 2)), (1, .int .i64 9), (0, .int .i64 1)])
    (fun h k => ⟨h.blks, setV (setV (setV (h.vecs) 18 .dead) 19 .dead) 20 (.live (k.1 - 2) 23 1 k.1 (naR [(0, 1), (1, 1)]))⟩) (fun k => 4 - k.1) (fun _ => ⟨rfl, by simp only [lenV_set]⟩) ⟨2, by omega, by omega⟩ ?_ ?_
  · refine sub_fz 18 20 (fun i j => if i = 0 then naR [(0, 1), (1, 1)] 0 0 else .vec 19 0) rfl rfl (by decide) ?_ ?_
    · intro i j hi hj
      obtain rfl : j = 0 := by omega
      rcases (by omega : i = 0 ∨ i = 1) with rfl | rfl
      · exact .inr ⟨rfl, rfl⟩
      · exact .inl rfl
    refine sub_fz 19 20 (naR [(0, 1), (1, 1)]) rfl rfl (by decide) ?_ ?_
    · intro i j hi hj
      obtain rfl : j = 0 := by omega
      rcases (by omega : i = 0 ∨ i = 1) with rfl | rfl
      · exact .inl rfl
      · exact .inr ⟨rfl, rfl⟩
    apply sub_of <;> simp only [go_sem, ↓reduceIte, Nat.reduceAdd, Nat.reduceSub, Nat.reduceMul, Nat.reduceEqDiff, Nat.reduceLT, Nat.reduceLeDiff, Int.reduceToNat, Int.reduceLE, Int.reduceLT, Int.reduceEq, Int.reduceNeg, reduceCtorEq] <;> (try simp)
    all_goals first | exact nestF_bd _ _ _ _ _ _ _ _ _ | skip
    all_goals repeat' apply And.intro
    all_goals first | exact nestF_bd _ _ _ _ _ _ _ _ _ | exact fun i _ => nth_bd2 i | exact naR_bd _ _ | exact fun i _ => naR_bd i 0 | exact fun i _ => Bd_nth (by simp [BdL, Bd]) i | exact fun i j _ _ => Bd_nth (by simp [BdL, Bd]) _ | omega
  rintro ⟨k, hk1, hk4⟩
  rcases Nat.lt_or_ge k 4 with hk | hk
  · have hd : decide ((k : Int) < 4) = true := decide_eq_true (by omega)
    simp only [hd, alive_eq, check_eq, same_eq, Try.f27, Try.f28, naR_frz, frzF_nth, cellAt, na_ps, na_N1, na_I1, na_I2, na_a_ne, na_a_en, na_a_st, na_a_spk, na_a_hr, na_a_e, na_b_en, na_b_st, na_b_spk, na_b_hr, na_b_e, na_b_ne, na_c_en, na_c_st, na_c_spk, na_c_hr, na_c_e, na_c_ne, na_d_en, na_d_st, na_d_spk, na_d_hr, na_d_e, na_d_ne, prC, nestF_eq, nestR_lit, nsM_lit, nsV_lit, Try.f7, go_sem, ↓reduceIte, Nat.reduceAdd, Nat.reduceSub, Nat.reduceMul, Nat.reduceEqDiff, Nat.reduceLT, Nat.reduceLeDiff, Int.reduceToNat, Int.reduceLE, Int.reduceLT, Int.reduceEq, Int.reduceNeg, reduceCtorEq]
    refine ⟨⟨by omega, by omega⟩, ⟨k + 1, by omega, by omega⟩, by simp only []; omega, ?_⟩
    refine sub_fz 21 20 (naR [(0, 1), (1, 1)]) rfl rfl (by decide) ?_ ?_
    · intro i j hi hj
      obtain rfl : j = 0 := by omega
      rcases Nat.lt_or_ge i k with h | h
      · left; simp only [catF, if_pos h]
      · obtain rfl : i = k := by omega
        right
        exact ⟨by simp only [catF, if_neg (Nat.lt_irrefl _), Nat.sub_self]; rfl, naR_out (by simp only [List.length]; omega) 0⟩
    · apply sub_of <;> simp only [go_sem, ↓reduceIte, Nat.reduceAdd, Nat.reduceSub, Nat.reduceMul, Nat.reduceEqDiff, Nat.reduceLT, Nat.reduceLeDiff, Int.reduceToNat, Int.reduceLE, Int.reduceLT, Int.reduceEq, Int.reduceNeg, reduceCtorEq] <;> (try simp)
      all_goals repeat' apply And.intro
      all_goals first | exact nestF_bd _ _ _ _ _ _ _ _ _ | exact fun i _ => nth_bd2 i | exact naR_bd _ _ | exact fun i _ => naR_bd i 0 | exact fun i _ => Bd_nth (by simp [BdL, Bd]) i | exact fun i j _ _ => Bd_nth (by simp [BdL, Bd]) _ | omega
  obtain rfl : k = 4 := by omega
  have hd : decide (((4 : Nat) : Int) < 4) = false := by decide
  have hd2 : decide (((0 : Nat) : Int) = 0) = true := by decide
  have hd3 : decide (((1 : Nat) : Int) = 1) = true := by decide
  simp only [hd, hd2, hd3, Int.zero_mul, decide_true, alive_eq, check_eq, same_eq, Try.f27, Try.f28, naR_frz, frzF_nth, cellAt, na_ps, na_N1, na_I1, na_I2, na_a_ne, na_a_en, na_a_st, na_a_spk, na_a_hr, na_a_e, na_b_en, na_b_st, na_b_spk, na_b_hr, na_b_e, na_b_ne, na_c_en, na_c_st, na_c_spk, na_c_hr, na_c_e, na_c_ne, na_d_en, na_d_st, na_d_spk, na_d_hr, na_d_e, na_d_ne, prC, nestF_eq, nestR_lit, nsM_lit, nsV_lit, Try.f7, go_sem, ↓reduceIte, Nat.reduceAdd, Nat.reduceSub, Nat.reduceMul, Nat.reduceEqDiff, Nat.reduceLT, Nat.reduceLeDiff, Int.reduceToNat, Int.reduceLE, Int.reduceLT, Int.reduceEq, Int.reduceNeg, reduceCtorEq]
  refine ⟨⟨hM, na_c_K⟩, ?_⟩
  clear hd hd2 hd3 hk hk1 hk4
  refine loop_ofH { k : Nat // 2 ≤ k ∧ k ≤ 4 } (fun k => [(3, .ptr 1 0), (2, .vec 23 (k.1 - 2)), (1, .int .i64 11), (0, .int .i64 1)])
    (fun h k => ⟨h.blks, setV (setV (setV (h.vecs) 21 .dead) 22 .dead) 23 (.live (k.1 - 2) 23 1 k.1 (naR [(1, 0), (0, 1)]))⟩) (fun k => 4 - k.1) (fun _ => ⟨rfl, by simp only [lenV_set]⟩) ⟨2, by omega, by omega⟩ ?_ ?_
  · refine sub_fz 21 23 (fun i j => if i = 0 then naR [(1, 0), (0, 1)] 0 0 else .vec 22 0) rfl rfl (by decide) ?_ ?_
    · intro i j hi hj
      obtain rfl : j = 0 := by omega
      rcases (by omega : i = 0 ∨ i = 1) with rfl | rfl
      · exact .inr ⟨rfl, rfl⟩
      · exact .inl rfl
    refine sub_fz 22 23 (naR [(1, 0), (0, 1)]) rfl rfl (by decide) ?_ ?_
    · intro i j hi hj
      obtain rfl : j = 0 := by omega
      rcases (by omega : i = 0 ∨ i = 1) with rfl | rfl
      · exact .inl rfl
      · exact .inr ⟨rfl, rfl⟩
    apply sub_of <;> simp only [go_sem, ↓reduceIte, Nat.reduceAdd, Nat.reduceSub, Nat.reduceMul, Nat.reduceEqDiff, Nat.reduceLT, Nat.reduceLeDiff, Int.reduceToNat, Int.reduceLE, Int.reduceLT, Int.reduceEq, Int.reduceNeg, reduceCtorEq] <;> (try simp)
    all_goals first | exact nestF_bd _ _ _ _ _ _ _ _ _ | skip
    all_goals repeat' apply And.intro
    all_goals first | exact nestF_bd _ _ _ _ _ _ _ _ _ | exact fun i _ => nth_bd2 i | exact naR_bd _ _ | exact fun i _ => naR_bd i 0 | exact fun i _ => Bd_nth (by simp [BdL, Bd]) i | exact fun i j _ _ => Bd_nth (by simp [BdL, Bd]) _ | omega
  rintro ⟨k, hk1, hk4⟩
  rcases Nat.lt_or_ge k 4 with hk | hk
  · have hd : decide ((k : Int) < 4) = true := decide_eq_true (by omega)
    simp only [hd, alive_eq, check_eq, same_eq, Try.f27, Try.f28, naR_frz, frzF_nth, cellAt, na_ps, na_N1, na_I1, na_I2, na_a_ne, na_a_en, na_a_st, na_a_spk, na_a_hr, na_a_e, na_b_en, na_b_st, na_b_spk, na_b_hr, na_b_e, na_b_ne, na_c_en, na_c_st, na_c_spk, na_c_hr, na_c_e, na_c_ne, na_d_en, na_d_st, na_d_spk, na_d_hr, na_d_e, na_d_ne, prC, nestF_eq, nestR_lit, nsM_lit, nsV_lit, Try.f7, go_sem, ↓reduceIte, Nat.reduceAdd, Nat.reduceSub, Nat.reduceMul, Nat.reduceEqDiff, Nat.reduceLT, Nat.reduceLeDiff, Int.reduceToNat, Int.reduceLE, Int.reduceLT, Int.reduceEq, Int.reduceNeg, reduceCtorEq]
    refine ⟨⟨by omega, by omega⟩, ⟨k + 1, by omega, by omega⟩, by simp only []; omega, ?_⟩
    refine sub_fz 24 23 (naR [(1, 0), (0, 1)]) rfl rfl (by decide) ?_ ?_
    · intro i j hi hj
      obtain rfl : j = 0 := by omega
      rcases Nat.lt_or_ge i k with h | h
      · left; simp only [catF, if_pos h]
      · obtain rfl : i = k := by omega
        right
        exact ⟨by simp only [catF, if_neg (Nat.lt_irrefl _), Nat.sub_self]; rfl, naR_out (by simp only [List.length]; omega) 0⟩
    · apply sub_of <;> simp only [go_sem, ↓reduceIte, Nat.reduceAdd, Nat.reduceSub, Nat.reduceMul, Nat.reduceEqDiff, Nat.reduceLT, Nat.reduceLeDiff, Int.reduceToNat, Int.reduceLE, Int.reduceLT, Int.reduceEq, Int.reduceNeg, reduceCtorEq] <;> (try simp)
      all_goals repeat' apply And.intro
      all_goals first | exact nestF_bd _ _ _ _ _ _ _ _ _ | exact fun i _ => nth_bd2 i | exact naR_bd _ _ | exact fun i _ => naR_bd i 0 | exact fun i _ => Bd_nth (by simp [BdL, Bd]) i | exact fun i j _ _ => Bd_nth (by simp [BdL, Bd]) _ | omega
  obtain rfl : k = 4 := by omega
  have hd : decide (((4 : Nat) : Int) < 4) = false := by decide
  have hd2 : decide (((0 : Nat) : Int) = 0) = true := by decide
  have hd3 : decide (((1 : Nat) : Int) = 1) = true := by decide
  simp only [hd, hd2, hd3, Int.zero_mul, decide_true, alive_eq, check_eq, same_eq, Try.f27, Try.f28, naR_frz, frzF_nth, cellAt, na_ps, na_N1, na_I1, na_I2, na_a_ne, na_a_en, na_a_st, na_a_spk, na_a_hr, na_a_e, na_b_en, na_b_st, na_b_spk, na_b_hr, na_b_e, na_b_ne, na_c_en, na_c_st, na_c_spk, na_c_hr, na_c_e, na_c_ne, na_d_en, na_d_st, na_d_spk, na_d_hr, na_d_e, na_d_ne, prC, nestF_eq, nestR_lit, nsM_lit, nsV_lit, Try.f7, go_sem, ↓reduceIte, Nat.reduceAdd, Nat.reduceSub, Nat.reduceMul, Nat.reduceEqDiff, Nat.reduceLT, Nat.reduceLeDiff, Int.reduceToNat, Int.reduceLE, Int.reduceLT, Int.reduceEq, Int.reduceNeg, reduceCtorEq]
  refine ⟨⟨hM, na_d_K⟩, ?_⟩
  clear hd hd2 hd3 hk hk1 hk4
  unfold callS
  refine calls_preM (SubM.fzV 24 26 [] (fo' := fun i j => if i = 0 then naR [(0, 1), (0, 1)] 0 0 else .vec 25 0) rfl rfl (by decide) (fun _ h => by cases h) ?_ (SubM.fzV 25 26 [] (fo' := naR [(0, 1), (0, 1)]) rfl rfl (by decide) (fun _ h => by cases h) ?_ (SubM.fzV 3 5 [] (fo' := cellAt [.row 2 2 (cellAt [.int .i64 10, .int .i64 4, .int .i64 18, .int .i64 6] 2), .int .i64 50, .int .i64 2, .int .i64 3, .int .i64 0, .vec 4 0, .int .i64 20, .int .i64 1, .int .i64 12, .int .i64 1] 5) rfl rfl (by decide) (fun _ h => by cases h) ?_ (SubM.fzV 4 5 [] (fo' := cellAt [.row 2 2 (cellAt [.int .i64 10, .int .i64 4, .int .i64 18, .int .i64 6] 2), .int .i64 50, .int .i64 2, .int .i64 3, .int .i64 0, .row 1 2 (oneF [.int .i64 15, .int .i64 5]), .int .i64 20, .int .i64 1, .int .i64 12, .int .i64 1] 5) rfl rfl (by decide) (fun _ h => by cases h) ?_ (SubM.fz 26 [1] rfl ?_ (subS_self ?_ ?_ ?_ ?_ ?_ ?_)))))) rfl rfl ?_
  · intro i j hi hj
    obtain rfl : j = 0 := by omega
    rcases (by omega : i = 0 ∨ i = 1) with rfl | rfl
    · exact .inr ⟨rfl, rfl⟩
    · exact .inl rfl
  · intro i j hi hj
    obtain rfl : j = 0 := by omega
    rcases (by omega : i = 0 ∨ i = 1) with rfl | rfl
    · exact .inl rfl
    · exact .inr ⟨rfl, rfl⟩
  · intro i j hi hj
    rcases (by omega : i = 0 ∨ i = 1) with rfl | rfl <;> rcases (by omega : j = 0 ∨ j = 1 ∨ j = 2 ∨ j = 3 ∨ j = 4) with rfl | rfl | rfl | rfl | rfl <;> first | exact .inl rfl | exact .inr ⟨rfl, rfl⟩
  · intro i j hi hj
    rcases (by omega : i = 0 ∨ i = 1) with rfl | rfl <;> rcases (by omega : j = 0 ∨ j = 1 ∨ j = 2 ∨ j = 3 ∨ j = 4) with rfl | rfl | rfl | rfl | rfl <;> first | exact .inl rfl | exact .inr ⟨rfl, rfl⟩
  · intro j hj
    simp at hj
    subst hj
    rfl
  · simp only [updA, upd, go_sem, ↓reduceIte, Nat.reduceAdd, Nat.reduceSub, Nat.reduceMul, Nat.reduceEqDiff, Nat.reduceLT, Nat.reduceLeDiff, Int.reduceToNat, Int.reduceLE, Int.reduceLT, Int.reduceEq, Int.reduceNeg, reduceCtorEq] <;> (try simp)
    all_goals repeat' apply And.intro
    all_goals first | exact nestF_bd _ _ _ _ _ _ _ _ _ | exact fun i _ => nth_bd2 i | exact naR_bd _ _ | exact fun i _ => naR_bd i 0 | exact fun i _ => Bd_nth (by simp [BdL, Bd]) i | exact fun _ _ _ _ => trivial | exact fun i j _ _ => naR_bd i j | exact fun i j _ _ => Bd_nth (by simp [BdL, Bd]; try exact ⟨fun i j _ _ => cell_bd4 i j, fun i j _ _ => cell_bd2 i j⟩) _ | omega | skip
  · simp only [updA, upd, go_sem, ↓reduceIte, Nat.reduceAdd, Nat.reduceSub, Nat.reduceMul, Nat.reduceEqDiff, Nat.reduceLT, Nat.reduceLeDiff, Int.reduceToNat, Int.reduceLE, Int.reduceLT, Int.reduceEq, Int.reduceNeg, reduceCtorEq] <;> (try simp)
    all_goals repeat' apply And.intro
    all_goals first | exact nestF_bd _ _ _ _ _ _ _ _ _ | exact fun i _ => nth_bd2 i | exact naR_bd _ _ | exact fun i _ => naR_bd i 0 | exact fun i _ => Bd_nth (by simp [BdL, Bd]) i | exact fun _ _ _ _ => trivial | exact fun i j _ _ => naR_bd i j | exact fun i j _ _ => Bd_nth (by simp [BdL, Bd]; try exact ⟨fun i j _ _ => cell_bd4 i j, fun i j _ _ => cell_bd2 i j⟩) _ | omega | skip
  · simp only [updA, upd, go_sem, ↓reduceIte, Nat.reduceAdd, Nat.reduceSub, Nat.reduceMul, Nat.reduceEqDiff, Nat.reduceLT, Nat.reduceLeDiff, Int.reduceToNat, Int.reduceLE, Int.reduceLT, Int.reduceEq, Int.reduceNeg, reduceCtorEq] <;> (try simp)
    all_goals repeat' apply And.intro
    all_goals first | exact nestF_bd _ _ _ _ _ _ _ _ _ | exact fun i _ => nth_bd2 i | exact naR_bd _ _ | exact fun i _ => naR_bd i 0 | exact fun i _ => Bd_nth (by simp [BdL, Bd]) i | exact fun _ _ _ _ => trivial | exact fun i j _ _ => naR_bd i j | exact fun i j _ _ => Bd_nth (by simp [BdL, Bd]; try exact ⟨fun i j _ _ => cell_bd4 i j, fun i j _ _ => cell_bd2 i j⟩) _ | omega | skip
  · simp only [updA, upd, go_sem, ↓reduceIte, Nat.reduceAdd, Nat.reduceSub, Nat.reduceMul, Nat.reduceEqDiff, Nat.reduceLT, Nat.reduceLeDiff, Int.reduceToNat, Int.reduceLE, Int.reduceLT, Int.reduceEq, Int.reduceNeg, reduceCtorEq] <;> (try simp)
    all_goals repeat' apply And.intro
    all_goals first | exact nestF_bd _ _ _ _ _ _ _ _ _ | exact fun i _ => nth_bd2 i | exact naR_bd _ _ | exact fun i _ => naR_bd i 0 | exact fun i _ => Bd_nth (by simp [BdL, Bd]) i | exact fun _ _ _ _ => trivial | exact fun i j _ _ => naR_bd i j | exact fun i j _ _ => Bd_nth (by simp [BdL, Bd]; try exact ⟨fun i j _ _ => cell_bd4 i j, fun i j _ _ => cell_bd2 i j⟩) _ | omega | skip
  · simp only [updA, upd, go_sem, ↓reduceIte, Nat.reduceAdd, Nat.reduceSub, Nat.reduceMul, Nat.reduceEqDiff, Nat.reduceLT, Nat.reduceLeDiff, Int.reduceToNat, Int.reduceLE, Int.reduceLT, Int.reduceEq, Int.reduceNeg, reduceCtorEq] <;> (try simp)
    all_goals repeat' apply And.intro
    all_goals first | exact nestF_bd _ _ _ _ _ _ _ _ _ | exact fun i _ => nth_bd2 i | exact naR_bd _ _ | exact fun i _ => naR_bd i 0 | exact fun i _ => Bd_nth (by simp [BdL, Bd]) i | exact fun _ _ _ _ => trivial | exact fun i j _ _ => naR_bd i j | exact fun i j _ _ => Bd_nth (by simp [BdL, Bd]; try exact ⟨fun i j _ _ => cell_bd4 i j, fun i j _ _ => cell_bd2 i j⟩) _ | omega | skip
  · simp only [updA, upd, go_sem, ↓reduceIte, Nat.reduceAdd, Nat.reduceSub, Nat.reduceMul, Nat.reduceEqDiff, Nat.reduceLT, Nat.reduceLeDiff, Int.reduceToNat, Int.reduceLE, Int.reduceLT, Int.reduceEq, Int.reduceNeg, reduceCtorEq] <;> (try simp)
    all_goals repeat' apply And.intro
    all_goals first | exact nestF_bd _ _ _ _ _ _ _ _ _ | exact fun i _ => nth_bd2 i | exact naR_bd _ _ | exact fun i _ => naR_bd i 0 | exact fun i _ => Bd_nth (by simp [BdL, Bd]) i | exact fun _ _ _ _ => trivial | exact fun i j _ _ => naR_bd i j | exact fun i j _ _ => Bd_nth (by simp [BdL, Bd]; try exact ⟨fun i j _ _ => cell_bd4 i j, fun i j _ _ => cell_bd2 i j⟩) _ | omega | skip
  refine calls_giveA (l1 := []) (l2 := [.row 2 1 (naR [(0, 1), (0, 1)])]) (c1 := []) (c2 := [.vec 6 0, .vec 7 0, .int .i64 3, .int .i64 6, .int .i64 5, .int .i64 12]) (id := 5) rfl ?_
  refine calls_giveA (l1 := []) (l2 := [.row 2 1 (naR [(0, 1), (0, 1)])]) (c1 := [.row 2 5 (cellAt [.row 2 2 (cellAt [.int .i64 10, .int .i64 4, .int .i64 18, .int .i64 6] 2), .int .i64 50, .int .i64 2, .int .i64 3, .int .i64 0, .row 1 2 (oneF [.int .i64 15, .int .i64 5]), .int .i64 20, .int .i64 1, .int .i64 12, .int .i64 1] 5)]) (c2 := [.vec 7 0, .int .i64 3, .int .i64 6, .int .i64 5, .int .i64 12]) (id := 6) rfl ?_
  refine calls_giveA (l1 := []) (l2 := [.row 2 1 (naR [(0, 1), (0, 1)])]) (c1 := [.row 2 5 (cellAt [.row 2 2 (cellAt [.int .i64 10, .int .i64 4, .int .i64 18, .int .i64 6] 2), .int .i64 50, .int .i64 2, .int .i64 3, .int .i64 0, .row 1 2 (oneF [.int .i64 15, .int .i64 5]), .int .i64 20, .int .i64 1, .int .i64 12, .int .i64 1] 5), .row 4 1 (cellAt [.int .i64 4, .int .i64 6, .int .i64 3, .int .i64 5] 1)]) (c2 := [.int .i64 3, .int .i64 6, .int .i64 5, .int .i64 12]) (id := 7) rfl ?_
  refine calls_mono ?_ (bareS_ok behind_base _ _ _ _ _ rfl ?_)
  · rintro o h' ⟨rfl, rfl⟩
    simp only [alive_eq, check_eq, same_eq, Try.f27, Try.f28, naR_frz, frzF_nth, cellAt, na_ps, na_N1, na_I1, na_I2, na_a_ne, na_a_en, na_a_st, na_a_spk, na_a_hr, na_a_e, na_b_en, na_b_st, na_b_spk, na_b_hr, na_b_e, na_b_ne, na_c_en, na_c_st, na_c_spk, na_c_hr, na_c_e, na_c_ne, na_d_en, na_d_st, na_d_spk, na_d_hr, na_d_e, na_d_ne, prC, nestF_eq, nestR_lit, nsM_lit, nsV_lit, Try.f7, go_sem, ↓reduceIte, Nat.reduceAdd, Nat.reduceSub, Nat.reduceMul, Nat.reduceEqDiff, Nat.reduceLT, Nat.reduceLeDiff, Int.reduceToNat, Int.reduceLE, Int.reduceLT, Int.reduceEq, Int.reduceNeg, reduceCtorEq]
    refine ⟨by decide, spl_t (by kernel_rfl) (spl_t (by kernel_rfl) ?_)⟩
    refine ⟨⟨nestRb_ok (by kernel_rfl), ?_, ?_, ?_⟩, ?_⟩
    · intro i j hi hj
      obtain rfl : j = 0 := by omega
      rcases (by omega : i = 0 ∨ i = 1) with rfl | rfl <;> rfl
    · intro i j hi hj
      obtain rfl : j = 0 := by omega
      rcases (by omega : i = 0 ∨ i = 1) with rfl | rfl <;> rfl
    · refine ⟨Nat.le_trans (bhX_bd _ _ _ _ _).1 (by decide), Nat.le_trans (bhX_bd _ _ _ _ _).2.1 (by decide), Nat.le_trans (bhX_bd _ _ _ _ _).2.1 (by decide), fun i hi => Nat.le_trans ((bhX_bd _ _ _ _ _).2.2 i) ?_⟩
      have hi2 : i < 2 := Nat.lt_of_lt_of_le hi (bhX_bd _ _ _ _ _).1
      exact na_M i hi2
    · exact spl_t (by kernel_rfl) (congrArg SV.bool (by decide +kernel))
  · have hI : ∀ (a b c d : Int), IntR 4 1 (cellAt [.int .i64 a, .int .i64 b, .int .i64 c, .int .i64 d] 1) := fun a b c d => by
      intro i j hi hj
      obtain rfl : j = 0 := by omega
      rcases (by omega : i = 0 ∨ i = 1 ∨ i = 2 ∨ i = 3) with rfl | rfl | rfl | rfl <;> rfl
    refine ⟨⟨rfl, nestRb_ok (by kernel_rfl)⟩, ⟨rfl, hI _ _ _ _⟩, ⟨rfl, hI _ _ _ _⟩, ⟨rfl, nestRb_ok (by kernel_rfl)⟩, ⟨⟨by omega, na_M⟩, by omega, by omega⟩, by omega, fun i hi => ?_⟩
    rcases (by omega : i = 0 ∨ i = 1) with rfl | rfl <;> decide +kernel
end Go.Eng
end

/-
  PressNames: for every input the law returns true, and each argument reads afterwards as it read before. No condition.
-/
section
namespace Go.Proofs.Ytdecicbgjkeefaa.pressNames
open Go.ChangeShapes Go.WideShapes Go.ChangeAt Go.RowKit Go.Eng
set_option linter.unusedVariables false
theorem own : ownKnob Try.prog.godebug = none := by kernel_rfl
theorem laid : laidOutB Try.prog = true := by kernel_rfl
set_option maxRecDepth 100000 in
theorem lifted (os : Os) (started : os.Started) (H : Type) (enc : TypeId × Value → H) :
    ReturnsInHanded {} Try.checked os 7 .any (Rows.pressNamesSpec.pre6 enc Try.prog Try.f7 Rows.pressNamesRow.domain false) (Rows.pressNamesSpec.post enc Try.prog Try.f7 false true false false) := by
  refine returnsInHanded_of_change (C := Try.checked) own started (by kernel_rfl) Try.func7
    (ChangeSpec.witness6 (enc := enc) (C := Try.checked) false ⟨#[], #[], []⟩ 8 (by kernel_rfl) (by kernel_rfl) (by kernel_rfl) (by kernel_rfl)) ?_
  intro W base args ds gs before hval0 hW hcnd _
  have hval : ∀ (j : Nat) t v, Try.f7.params[j]? = some t → args[j]? = some v → Value.okWide Try.prog W .any base t v := hval0
  have hW' := hW
  obtain ⟨p, q, hA0, hV, rfl, hfz, hnd⟩ := hW
  have hA : DataW.TrodAll enc Try.prog W 0 (fun _ => true) true Try.f7.params.toList args.toList ds p := hA0
  rw [Try.params7] at hA hval
  obtain ⟨rfl, rfl, rfl⟩ := trodAll_none hA
  obtain ⟨rfl, rfl⟩ := trodVars_none hV
  have hd : DenL Env.emp W [] [] := trivial
  refine (law_calls pressNames_base (args := []) rfl trivial (denA_of hd)).mono fun e W' ⟨he, hb⟩ => ?_
  subst he
  exact ⟨_, rfl, law_end laid rfl Try.underlying4 (by kernel_rfl) rfl hW' rfl hb⟩
theorem over : Rows.pressNamesRow.holds Try.pinned (OpenSpec.ofChange Rows.pressNamesSpec) :=
  OpenClaim.holds_of_wide 7 Try.f7 rfl rfl rfl rfl rfl rfl rfl ⟨rfl, rfl, rfl, rfl, rfl⟩ rfl rfl rfl rfl rfl (by kernel_rfl) Try.func7 (by kernel_rfl)
    (of_decide_eq_true (by kernel_rfl)) (by unfold Func.isWrapper; first | (rw [if_pos (by decide +kernel)]; kernel_rfl) | (rw [if_neg (by decide +kernel)]; exact ⟨rfl, rfl⟩))
    (fun os started H enc _ => lifted os started H enc)
end Go.Proofs.Ytdecicbgjkeefaa.pressNames
namespace Go.Proofs.Ytdecicbgjkeefaa
/-- The given statement. -/
theorem pressNames_holds : Rows.PressNamesSaid := pressNames.over
#print axioms pressNames_holds
end Go.Proofs.Ytdecicbgjkeefaa
end
