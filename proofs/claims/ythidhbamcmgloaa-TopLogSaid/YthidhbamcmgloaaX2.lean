/-
  A part of the symbolic machine, of its soundness, and of what functions compute. No condition.
-/
import Derived.Laws.CopyRow
import Derived.MapKept
import Derived.WideKeyRuns
import Derived.Maps.RangeRun
import Derived.Laws.BytesString
import Derived.Laws.Cells
import Derived.Orders
import Derived.RangeFuncLeaves
import Derived.RangeFuncRecord
import Derived.Test.YthidhbamcmgloaaX1
set_option linter.unusedSimpArgs false
set_option linter.unusedVariables false
/- A part of an array, and copying. -/
section
namespace Go.Eng
open Go.RowKit
set_option linter.unusedVariables false

/-- The first elements of an own array, as a slice. -/
def rSlA (n : Nat) (te : TI) (x : SV) (lo hi mx : Option SV) (h : HS) : Res :=
  match x, lo, mx with
  | .ptr nm off, none, none => match intO (n : Int) hi with
    | some u => .val (te.size = 1 ∧ 0 ≤ u ∧ u ≤ (n : Int)) (.bsl nm off u.toNat) h
    | none => .bad
  | _, _, _ => .bad
theorem rSlA_ok {P : Program} {E : Env} {h : HS} {w : World} (hr : RelH E h w) {t e : TypeId} {n : Nat} {te : TI} (hd : P.underlying t = some (.array n e)) (hE : TIOk P e te) {x : SV} {v : Value} (hx : Den E w x v) {lo hi mx : Option SV} {vlo vhi vmx : Option Value}
    (hlo : DenO E w lo vlo) (hhi : DenO E w hi vhi) (hmx : DenO E w mx vmx) :
    ResOk P E h w ((Instr.sliceAt t v vlo vhi vmx >>= fun v => pure (Next.value v)).run P w) (rSlA n te x lo hi mx h) := by
  obtain ⟨i0, z0, hi0, hs0, _⟩ := hE.info
  have hS : (sizeOf e).run P w = .ok te.size w := by simp [sizeOf, typeInfo, hi0, hs0]
  unfold rSlA
  split
  · rename_i nm off
    split
    · rename_i u hu
      rintro ⟨h1, h2, h3⟩
      have e1 : vlo = none := by cases vlo with | none => rfl | some _ => exact hlo.elim
      have e2 : vmx = none := by cases vmx with | none => rfl | some _ => exact hmx.elim
      subst e1 e2
      have h4 := intO_den hhi hu
      cases hx
      rename_i hnm
      have hA : ((⟨E.rho nm, off, none⟩ : Addr).add (0 * te.size)) = ⟨E.rho nm, off, none⟩ := by rw [Addr.add_lit]; simp
      refine ⟨.slice (some ⟨E.rho nm, off, none⟩) u.toNat n, w, E, ?_, .bsl hnm (by omega), hr, Ext.refl E w⟩
      rcases h4 with ⟨rfl, rfl⟩ | ⟨k, rfl⟩
      · simp [Instr.sliceAt, Instr.sureAddr, run_underlying hd, Instr.sliceBounds, hS, Addr.add_lit]
      · simp [Instr.sliceAt, Instr.sureAddr, run_underlying hd, Instr.sliceBounds, Instr.sliceBound, asIntOf, h2, h3, hS, Addr.add_lit]
    · trivial
  · trivial

/-- The first k elements of g, over cells from off on. -/
def cpB (g : Nat → Nat → SV) (off : Nat) : Nat → List SV → List SV
  | 0, cells => cells
  | k + 1, cells => upd (cpB g off k cells) (off + k) (g k 0)
def cpF (f g : Nat → Nat → SV) (k : Nat) : Nat → Nat → SV := fun i j => if i < k then g i j else f i j
def cpyB (nm off n : Nat) (h : HS) (b : Blk) (s : Option (Prop × Nat × Nat × (Nat → Nat → SV))) : Res :=
  match b, s with
  | .live ty cells, some (p, m, sz, g) => .val (p ∧ sz = 1 ∧ off + min m n ≤ lenS cells) (.int .i64 ((min m n : Nat) : Int)) { h with blks := setB h.blks nm (.live ty (cpB g off (min m n) cells)) }
  | _, _ => .bad
def cpyV (te : TI) (id ver : Nat) (h : HS) (v : Vc) (s : Option (Prop × Nat × Nat × (Nat → Nat → SV))) : Res :=
  match v, s with
  | .live ver' ty sz' n f, some (p, m, sz, g) => .val (p ∧ ver = ver' ∧ sz = sz' ∧ te.size = sz') (.int .i64 ((min m n : Nat) : Int)) { h with vecs := setV h.vecs id (.live ver' ty sz' n (cpF f g (min m n))) }
  | _, _ => .bad
def rCopy (te : TI) (d s : SV) (h : HS) : Res :=
  match d with
  | .bsl nm off n => if te.size = 1 then cpyB nm off n h (getB h.blks nm) (srcOf h s) else .bad
  | .vec id ver => cpyV te id ver h (getV h.vecs id) (srcOf h s)
  | _ => .bad

theorem cpB_get (g : Nat → Nat → SV) (off : Nat) (cells : List SV) : ∀ (k i : Nat), (cpB g off k cells)[i]? = if off ≤ i ∧ i < off + k ∧ i < cells.length then some (g (i - off) 0) else cells[i]?
  | 0, i => by rw [if_neg (by omega)]; rfl
  | k + 1, i => by
    have hl : ∀ k, (cpB g off k cells).length = cells.length := fun k => by
      induction k with
      | zero => rfl
      | succ k ih => simp [cpB, upd_eq, ih]
    simp only [cpB, upd_eq, List.getElem?_set, hl, cpB_get g off cells k i]
    by_cases h1 : off + k = i
    · subst h1
      simp only [if_true]
      by_cases h2 : off + k < cells.length
      · rw [if_pos h2, if_pos ⟨by omega, by omega, h2⟩]; congr 2; omega
      · rw [if_neg h2, if_neg (by omega)]
        exact (List.getElem?_eq_none (by omega)).symm
    · rw [if_neg h1]
      by_cases h2 : off ≤ i ∧ i < off + k ∧ i < cells.length
      · rw [if_pos h2, if_pos (by omega)]
      · rw [if_neg h2, if_neg (by omega)]
theorem cpB_len (g : Nat → Nat → SV) (off : Nat) (cells : List SV) : ∀ k, (cpB g off k cells).length = cells.length
  | 0 => rfl
  | k + 1 => by simp [cpB, upd_eq, cpB_len g off cells k]

/-- The first k elements of a source. -/
theorem src_first {P : Program} {E : Env} {w : World} {vs : Value} {m sz : Nat} {G : Nat → Nat → SV} (hsz : 0 < sz) (hs : (∃ A c, vs = .slice (some A) m c ∧ SrcAt E w A m sz G) ∨ (m = 0 ∧ ∃ a' c, vs = .slice a' 0 c)) (k : Nat) (hk : k ≤ m) :
    (Builtin.lenOf vs).run P w = .ok m w ∧ ∃ cs : List Value, cs.length = k * sz ∧ (Builtin.firstCells sz k vs).run P w = .ok cs.toArray w ∧ (∀ u ∈ cs, u.oneCell' = true) ∧ ∀ i j u, i < k → j < sz → cs[i * sz + j]? = some u → Den E w (G i j) u := by
  rcases hs with ⟨A, c, rfl, news, hl, hnews, hone, hden⟩ | ⟨rfl, a', c, rfl⟩
  · refine ⟨by simp [Builtin.lenOf], news.take (k * sz), ?_, ?_, ?_, ?_⟩
    · rw [List.length_take, hl]
      exact Nat.min_eq_left (Nat.mul_le_mul_right _ hk)
    · have h := run_loadCells_list (P := P) w A (news.take (k * sz)) (fun j v hj => by
        rw [List.getElem?_take] at hj
        split at hj
        · exact hnews j v hj
        · cases hj)
      rw [List.length_take, hl, Nat.min_eq_left (Nat.mul_le_mul_right _ hk)] at h
      simpa [Builtin.firstCells] using h
    · intro u hu
      exact hone u (List.mem_of_mem_take hu)
    · intro i j u hi hj hu
      rw [List.getElem?_take, if_pos (idx_lt hi hj)] at hu
      exact hden i j u (by omega) hj hu
  · obtain rfl : k = 0 := by omega
    refine ⟨by simp [Builtin.lenOf], [], by simp, ?_, by simp, fun i j u hi => absurd hi (by omega)⟩
    cases a' <;> simp [Builtin.firstCells, loadCells, loadCellsFrom]

theorem seg_get (cur : List Value) (o : Nat) (cs : List Value) (h : o + cs.length ≤ cur.length) (k : Nat) :
    (cur.take o ++ cs ++ cur.drop (o + cs.length))[k]? = if o ≤ k ∧ k < o + cs.length then cs[k - o]? else cur[k]? := by
  by_cases h1 : k < o
  · rw [List.append_assoc, List.getElem?_append_left (by simp; omega), List.getElem?_take, if_pos h1, if_neg (by omega)]
  · by_cases h2 : k < o + cs.length
    · rw [List.append_assoc, List.getElem?_append_right (by simp; omega), List.getElem?_append_left (by simp; omega), if_pos (by omega)]
      simp only [List.length_take]
      rw [Nat.min_eq_left (by omega)]
    · rw [List.getElem?_append_right (by simp; omega), if_neg (by omega), List.getElem?_drop]
      simp only [List.length_append, List.length_take]
      rw [Nat.min_eq_left (by omega)]
      congr 1
      omega

theorem rCopy_ok {P : Program} {E : Env} {h : HS} {w : World} (hr : RelH E h w) {t t' e : TypeId} {te : TI} (ht : P.underlying t = some (.slice e)) (hE : TIOk P e te) (tr : TypeId) {d s : SV} {vd vs : Value} (hd : Den E w d vd) (hs : Den E w s vs) :
    ResOk P E h w ((Builtin.copy_ #[t, t'] tr #[vd, vs] >>= fun v => pure (Next.value v)).run P w) (rCopy te d s h) := by
  obtain ⟨i0, z0, hi0, hs0, _⟩ := hE.info
  have hS : (sizeOf e).run P w = .ok te.size w := by simp [sizeOf, typeInfo, hi0, hs0]
  unfold rCopy
  split
  · rename_i nm off n
    split
    · rename_i h1
      unfold cpyB
      split
      · rename_i ty cells p m sz G hb hsrc
        rintro ⟨hp, rfl, hfit⟩
        have hsr := srcOf_ok hr hs hsrc hp (by omega)
        obtain ⟨cs, a1, a2, a3, a4⟩ := hr.blk nm ty cells hb
        obtain ⟨l1, xs, g1, g2, g3, g4⟩ := src_first (P := P) (by omega) hsr (min m n) (Nat.min_le_left _ _)
        simp only [Nat.mul_one] at g1 g4
        rw [lenS_eq] at hfit
        cases hd
        rename_i cap hnm hcap
        have hfit' : off + 0 + xs.length ≤ cs.size := by rw [g1, a2.1]; omega
        have hst := run_storeCells_at P (E.rho nm) off ty xs 0 cs w a1 hfit' g3
        simp only [Nat.add_zero] at hst hfit'
        have hrun : (Builtin.copy_ #[t, t'] tr #[.slice (some ⟨E.rho nm, off, none⟩) n cap, vs]).run P w = .ok (.int .i64 ((min m n : Nat) : Int)) (w.setRow (E.rho nm) (cs.toList.take off ++ xs ++ cs.toList.drop (off + xs.length)).toArray) := by
          rw [h1] at hS
          simp [Builtin.copy_, run_underlying ht, l1, hS, show m.min n = min m n from rfl, g2, hst, goInt]
        have hget : ∀ k, (cs.toList.take off ++ xs ++ cs.toList.drop (off + xs.length)).toArray[k]? = if off ≤ k ∧ k < off + xs.length then xs[k - off]? else cs[k]? := fun k => by
          simpa using seg_get cs.toList off xs (by simpa using hfit') k
        have hx0 : Ext E w E (w.setRow (E.rho nm) (cs.toList.take off ++ xs ++ cs.toList.drop (off + xs.length)).toArray) := ext_setRow a4 (by intro e; cases e) _
        refine ⟨_, _, E, by simp [hrun], .int _ _, hr.write hb (cpB G off (min m n) cells) _ ⟨?_, ?_⟩ ?_, hx0⟩
        · simp only [List.size_toArray, List.length_append, List.length_take, List.length_drop, Array.length_toList, cpB_len]
          have := a2.1
          omega
        · intro i x u hx hu
          rw [cpB_get] at hx
          rw [hget] at hu
          split at hx
          · rename_i hc
            cases hx
            rw [if_pos (by omega)] at hu
            exact g4 (i - off) 0 u (by omega) (by omega) hu
          · rename_i hc
            rw [if_neg ?_] at hu
            · exact a2.2 i x u hx hu
            · intro hc2
              have := (List.getElem?_eq_some_iff.1 hx).1
              omega
        · intro k u hu
          rw [hget] at hu
          split at hu
          · exact g3 u (List.mem_of_getElem? hu)
          · exact a3 k u hu
      · trivial
    · trivial
  · rename_i id ver
    unfold cpyV
    split
    · rename_i ver' ty sz' n f p m sz G hv hsrc
      rintro ⟨hp, rfl, rfl, hte⟩
      obtain ⟨hz', ⟨a, cap, k1, k2⟩, k3⟩ := hr.vec _ _ _ _ _ _ hv
      have hsr := srcOf_ok hr hs hsrc hp hz'
      obtain ⟨l1, xs, g1, g2, g3, g4⟩ := src_first (P := P) hz' hsr (min m n) (Nat.min_le_left _ _)
      cases hd
      rename_i a' n' cap' hid hval
      have hval' := hval
      rw [k1] at hval
      simp only [Option.some.injEq, Prod.mk.injEq] at hval
      obtain ⟨rfl, rfl, rfl⟩ := hval
      rw [hte] at hS
      rcases k2 with ⟨hA0, rfl, rfl⟩ | ⟨g, o, cur, rfl, h2, h3, h4, h5, h6, h7, h8⟩
      · have hrun : (Builtin.copy_ #[t, t'] tr #[.slice a 0 0, vs]).run P w = .ok (.int .i64 ((min m 0 : Nat) : Int)) w := by
          have e0 : min m 0 = 0 := by omega
          rw [e0] at g2
          have g0 : xs = [] := List.length_eq_zero_iff.1 (by rw [g1]; simp)
          subst g0
          cases a <;> simp [Builtin.copy_, run_underlying ht, l1, hS, show m.min 0 = 0 from Nat.min_zero m, g2, goInt, storeCells]
        refine ⟨_, w, E, by simp [hrun], .int _ _, ?_, Ext.refl E w⟩
        exact hr.moved hv (Ext.refl E w) rfl rfl rfl (fun _ _ _ => rfl) (fun _ _ _ _ => ⟨rfl, rfl⟩) hr.own k1 (.inl ⟨hA0, rfl, rfl⟩) k3
      · have hle : xs.length ≤ n * sz := by rw [g1]; exact Nat.mul_le_mul_right _ (Nat.min_le_right _ _)
        have hle2 : o + n * sz ≤ cur.size := Nat.le_trans (Nat.add_le_add_left (Nat.mul_le_mul_right _ h2) _) h5
        have hst := run_storeCells_at P g o ty xs 0 cur w h4 (by omega) g3
        simp only [Nat.add_zero, Nat.zero_add] at hst
        have hrun : (Builtin.copy_ #[t, t'] tr #[.slice (some ⟨g, o, none⟩) n cap, vs]).run P w = .ok (.int .i64 ((min m n : Nat) : Int)) (w.setRow g (cur.toList.take o ++ xs ++ cur.toList.drop (o + xs.length)).toArray) := by
          simp [Builtin.copy_, run_underlying ht, l1, hS, show m.min n = min m n from rfl, g2, hst, goInt]
        have hget : ∀ k, (cur.toList.take o ++ xs ++ cur.toList.drop (o + xs.length)).toArray[k]? = if o ≤ k ∧ k < o + xs.length then xs[k - o]? else cur[k]? := fun k => by
          have := seg_get cur.toList o xs (by simp; omega) k
          simpa using this
        obtain ⟨r1, r2⟩ := hr.vwrite hv hval' h4 h6 (cur.toList.take o ++ xs ++ cur.toList.drop (o + xs.length)).toArray (cpF f G (min m n)) (by simp; omega)
          (fun k u hk hu => by
            rw [hget] at hu
            split at hu
            · exact g3 u (List.mem_of_getElem? hu)
            · exact h7 k u hk hu)
          (fun i j u hi hj hu => by
            rw [hget] at hu
            simp only [cpF]
            by_cases hc : i < min m n
            · have := idx_lt hc hj
              rw [if_pos hc]
              rw [if_pos (by omega), Nat.add_sub_cancel_left] at hu
              exact g4 i j u hc hj hu
            · rw [if_neg hc]
              rw [if_neg ?_] at hu
              · exact h8 i j u hi hj hu
              · rw [g1]
                have := Nat.mul_le_mul_right sz (Nat.le_of_not_lt hc)
                omega)
        exact ⟨_, _, E, by simp [hrun], .int _ _, r1, r2⟩
    · trivial
  · trivial
/-- An element of an array that is a value. -/
def rIdx (n : Nat) (te : TI) (x idx : SV) (h : HS) : Res :=
  match x, idx with
  | .agg l, .int _ i => if te.agg then .bad else .val (0 ≤ i ∧ i < (n : Int) ∧ i.toNat < lenS l ∧ te.size = 1) (nth l i.toNat) h
  | _, _ => .bad
theorem rIdx_ok {P : Program} {E : Env} {h : HS} {w : World} (hr : RelH E h w) {t e : TypeId} {n : Nat} {te : TI} (hd : P.underlying t = some (.array n e)) (hE : TIOk P e te) {x y : SV} {v u : Value} (hx : Den E w x v) (hy : Den E w y u) :
    ResOk P E h w ((Instr.index t v u >>= fun v => pure (Next.value v)).run P w) (rIdx n te x y h) := by
  obtain ⟨i0, z0, hi0, hs0, _⟩ := hE.info
  obtain ⟨d, hd', _, hag, _⟩ := hE.desc
  have hS : (sizeOf e).run P w = .ok te.size w := by simp [sizeOf, typeInfo, hi0, hs0]
  unfold rIdx
  split
  · rename_i l k i
    split
    · trivial
    · rename_i hb
      rintro ⟨p1, p2, p3, p4⟩
      rw [lenS_eq] at p3
      obtain ⟨vs, rfl, hs, hden⟩ := hx.agg_inv
      cases hy
      have hA : (isAgg e).run P w = .ok false w := by
        have hb' : te.agg = false := by simpa using hb
        rw [hb'] at hag
        unfold isAgg
        cases d <;> simp at hag <;> simp [run_underlying hd']
      have hlt : i.toNat < vs.size := by rw [hs]; exact p3
      refine ⟨vs[i.toNat], w, E, ?_, ?_, hr, Ext.refl E w⟩
      · simp [Instr.index, asIntOf, run_underlying hd, p1, p2, hS, p4, part, hA, hlt]
      · have := hden i.toNat l[i.toNat] vs[i.toNat] (List.getElem?_eq_getElem p3) (Array.getElem?_eq_getElem hlt)
        rw [nth_eq]
        simpa [List.getD, List.getElem?_eq_getElem p3] using this
  · trivial
end Go.Eng
end

/- Maps from numbers to numbers: made, read, written; a field of a struct's value. -/
section
namespace Go.Eng
open Go.RowKit
set_option linter.unusedVariables false

/-- The i-th number of a list. -/
def gt : List Int → Nat → Int
  | [], _ => 0
  | x :: _, 0 => x
  | _ :: l, n + 1 => gt l n
theorem gt_eq : ∀ (l : List Int) (i : Nat), gt l i = l.getD i 0
  | [], i => by simp [gt]
  | x :: l, 0 => by simp [gt]
  | x :: l, i + 1 => by simp [gt, gt_eq l i]
def svN : LK → Int → SV
  | .i, x => .int .i64 x
  | .b, x => .bool (decide (x ≠ 0))
def svsN : List LK → List Int → Nat → List SV
  | [], _, _ => []
  | k :: ks, l, i => svN k (gt l i) :: svsN ks l (i + 1)
/-- A value out of numbers. -/
def valS (agg : Bool) (ks : List LK) (l : List Int) : SV := if agg then .agg (svsN ks l 0) else nth (svsN ks l 0) 0
def b2i (b : Bool) : Int := if b then 1 else 0
/-- The numbers of a value. -/
def numK : List LK → List SV → Option (List Int)
  | [], [] => some []
  | .i :: ks, .int .i64 x :: l => match numK ks l with
    | some r => some (x :: r)
    | none => none
  | .b :: ks, .bool b :: l => match numK ks l with
    | some r => some (b2i b :: r)
    | none => none
  | _, _ => none
def numV (agg : Bool) (ks : List LK) (x : SV) : Option (List Int) :=
  match agg with
  | true => match x with
    | .agg l => numK ks l
    | _ => none
  | false => match ks with
    | [k] => numK [k] [x]
    | _ => none
def findM : List (List Int × List Int) → List Int → Option (List Int)
  | [], _ => none
  | (k', v) :: es, k => if k' = k then some v else findM es k
def hasM (es : List (List Int × List Int)) (k : List Int) : Bool := (findM es k).isSome
def lookM (es : List (List Int × List Int)) (k : List Int) : List Int := (findM es k).getD []
def putM : List (List Int × List Int) → List Int → List Int → List (List Int × List Int)
  | [], k, v => [(k, v)]
  | (k', v') :: es, k, v => if k' = k then (k, v) :: es else (k', v') :: putM es k v

theorem cellsN_len : ∀ (ks : List LK) (l : List Int), (cellsN ks l).length = ks.length
  | [], _ => rfl
  | k :: ks, [] => by simp [cellsN, cellsN_len ks []]
  | k :: ks, x :: l => by simp [cellsN, cellsN_len ks l]
theorem cellsN_get : ∀ (ks : List LK) (l : List Int) (i : Nat), (cellsN ks l)[i]? = (ks[i]?).map fun k => cellN k (l.getD i 0)
  | [], l, i => by simp [cellsN]
  | k :: ks, [], 0 => by simp [cellsN]
  | k :: ks, [], i + 1 => by simp [cellsN, cellsN_get ks [] i]
  | k :: ks, x :: l, 0 => by simp [cellsN]
  | k :: ks, x :: l, i + 1 => by simp [cellsN, cellsN_get ks l i]
theorem svsN_len : ∀ (ks : List LK) (l : List Int) (n : Nat), (svsN ks l n).length = ks.length
  | [], _, _ => rfl
  | k :: ks, l, n => by simp [svsN, svsN_len ks l (n + 1)]
theorem svsN_get : ∀ (ks : List LK) (l : List Int) (n i : Nat), (svsN ks l n)[i]? = (ks[i]?).map fun k => svN k (gt l (n + i))
  | [], _, _, i => by simp [svsN]
  | k :: ks, l, n, 0 => by simp [svsN]
  | k :: ks, l, n, i + 1 => by simp [svsN, svsN_get ks l (n + 1) i, Nat.add_comm 1 i, Nat.add_assoc]
theorem svN_den (E : Env) (w : World) (k : LK) (x : Int) : Den E w (svN k x) (cellN k x) := by
  cases k
  · exact .int _ _
  · exact .bool _
theorem svsN_den (E : Env) (w : World) (ks : List LK) (l : List Int) : DenA E w (svsN ks l 0) (cellsN ks l).toArray := by
  refine ⟨by simp [svsN_len, cellsN_len], fun i x u hx hu => ?_⟩
  rw [svsN_get] at hx
  rw [List.getElem?_toArray, cellsN_get] at hu
  cases hk : ks[i]? with
  | none => simp [hk] at hx
  | some k =>
    simp [hk] at hx hu
    subst hx hu
    rw [gt_eq]
    simpa using svN_den E w k (l.getD i 0)
theorem cellN_one (k : LK) (x : Int) : (cellN k x).oneCell' = true := by cases k <;> rfl
theorem cellsN_one {ks : List LK} {l : List Int} {i : Nat} {u : Value} (h : (cellsN ks l)[i]? = some u) : u.oneCell' = true := by
  rw [cellsN_get] at h
  cases hk : ks[i]? with
  | none => simp [hk] at h
  | some k => simp [hk] at h; subst h; exact cellN_one _ _
theorem valS_den (E : Env) (w : World) (agg : Bool) (ks : List LK) (l : List Int) : Den E w (valS agg ks l) (valN agg ks l) := by
  unfold valS valN
  cases agg
  · cases ks with
    | nil => exact .any _
    | cons k ks =>
      simp only [svsN, nth]
      rw [if_neg (by simp), if_neg (by simp)]
      cases l with
      | nil => exact svN_den E w k 0
      | cons x l => exact svN_den E w k x
  · obtain ⟨h1, h2⟩ := svsN_den E w ks l
    exact .agg _ h1 (fun i u hu => cellsN_one (by simpa using hu)) h2
theorem numK_den {E : Env} {w : World} : ∀ {ks : List LK} {l : List SV} {r : List Int}, numK ks l = some r → r.length = ks.length ∧ l.length = ks.length ∧ ∀ (us : List Value), us.length = l.length → (∀ (i : Nat) (x : SV) (u : Value), l[i]? = some x → us[i]? = some u → Den E w x u) → us = cellsN ks r := by
  intro ks l
  fun_induction numK ks l with
  | case1 => intro r h; cases h; exact ⟨rfl, rfl, fun us h _ => by cases us <;> simp at h ⊢; rfl⟩
  | case2 ks x l r0 h0 ih =>
    intro r h
    cases h
    obtain ⟨h1, h2, h3⟩ := ih h0
    refine ⟨by simp [h1], by simp [h2], fun us hl hd => ?_⟩
    cases us with
    | nil => simp at hl
    | cons u us =>
      have a1 := hd 0 _ _ rfl rfl
      cases a1
      rw [cellsN, h3 us (by simpa using hl) (fun i x u hx hu => hd (i + 1) x u (by simpa using hx) (by simpa using hu))]
      rfl
  | case3 => intro r h; cases h
  | case4 ks b l r0 h0 ih =>
    intro r h
    cases h
    obtain ⟨h1, h2, h3⟩ := ih h0
    refine ⟨by simp [h1], by simp [h2], fun us hl hd => ?_⟩
    cases us with
    | nil => simp at hl
    | cons u us =>
      have a1 := hd 0 _ _ rfl rfl
      cases a1
      rw [cellsN, h3 us (by simpa using hl) (fun i x u hx hu => hd (i + 1) x u (by simpa using hx) (by simpa using hu))]
      cases b <;> rfl
  | case5 => intro r h; cases h
  | case6 => intro r h; cases h
theorem numV_den {E : Env} {w : World} {agg : Bool} {ks : List LK} {x : SV} {r : List Int} (h : numV agg ks x = some r) {v : Value} (hd : Den E w x v) : r.length = ks.length ∧ v = valN agg ks r := by
  unfold numV at h
  split at h
  · split at h
    · rename_i l
      obtain ⟨h1, h2, h3⟩ := numK_den (E := E) (w := w) h
      match v, hd with
      | _, .agg vs hs h1' hd =>
        refine ⟨h1, ?_⟩
        have := h3 vs.toList (by simpa using hs) (fun i x u hx hu => hd i x u hx (by simpa using hu))
        simp [valN, ← this]
    · cases h
  · split at h
    · rename_i k
      obtain ⟨h1, h2, h3⟩ := numK_den (E := E) (w := w) h
      refine ⟨h1, ?_⟩
      have := h3 [v] rfl (fun i y u hy hu => by
        cases i with
        | zero => simp at hy hu; subst hy hu; exact hd
        | succ i => simp at hy)
      simp [valN, ← this]
    · cases h

/- ### keys -/
def isI : List LK → Bool
  | [] => true
  | .i :: l => isI l
  | .b :: _ => false
theorem eqV_cells : ∀ (ks : List LK) (a b : List Int), isI ks = true → a.length = ks.length → b.length = ks.length → eqV ks (cellsN ks a) (cellsN ks b) = some (decide (a = b))
  | [], [], [], _, _, _ => by simp [cellsN, eqV]
  | .i :: ks, x :: a, y :: b, h, ha, hb => by
    have := eqV_cells ks a b h (by simpa using ha) (by simpa using hb)
    simp only [cellsN, cellN, eqV, if_true, this]
    simp
  | .b :: _, _, _, h, _, _ => by simp [isI] at h
  | .i :: _, [], _, _, h, _ => by simp at h
  | .i :: _, _ :: _, [], _, _, h => by simp at h
  | [], _ :: _, _, _, h, _ => by simp at h
  | [], [], _ :: _, _, _, h => by simp at h

/-- A part of a flat type is there, and can be a key. -/
def ChkAt (P : Program) (w : World) (em : Bool) (D t off : Nat) (xs : Array Value) : Prop :=
  ∃ a, (part t xs off).run P w = .ok a w ∧ (Instr.checkKey em D t a).run P w = .ok () w
theorem goF_ext {P : Program} {rec : Nat → Option (List LK)} : ∀ (fs : List Field) (acc ks : List LK), goF P rec fs acc = some ks → ∃ js, ks = acc ++ js
  | [], acc, ks, h => by simp only [goF, Option.some.injEq] at h; exact ⟨[], by simp [h]⟩
  | f :: fs, acc, ks, h => by
    simp only [goF] at h
    split at h
    · split at h
      · split at h
        · rename_i k1 hk1
          obtain ⟨js, e⟩ := goF_ext fs _ _ h
          exact ⟨k1 ++ js, by rw [e, List.append_assoc]⟩
        · cases h
      · cases h
    · cases h
theorem goF_each {P : Program} {rec : Nat → Option (List LK)} {cs : List Value} {q : Bool} : ∀ (fs : List Field) (acc ks : List LK), goF P rec fs acc = some ks → eqV ks cs cs = some q →
    ∀ f ∈ fs, f.name ≠ "_" ∧ ∃ k1 q1, rec f.type = some k1 ∧ eqV k1 ((cs.drop f.offset).take k1.length) ((cs.drop f.offset).take k1.length) = some q1
  | [], acc, ks, h, hq => by simp
  | f :: fs, acc, ks, h, hq => by
    intro g hg
    have h0 := h
    simp only [goF] at h
    split at h
    · rename_i hn
      split at h
      · rename_i ho
        split at h
        · rename_i k1 hk1
          rcases List.mem_cons.1 hg with rfl | hg
          · obtain ⟨js, e⟩ := goF_ext fs _ _ h
            rw [e, List.append_assoc] at hq
            obtain ⟨a, b, ha, hb, _⟩ := eqV_app hq
            obtain ⟨c, d, hc, hd, _⟩ := eqV_app hb
            exact ⟨hn, k1, c, hk1, by rw [ho]; exact hc⟩
          · exact goF_each fs _ _ h hq g hg
        · cases h
      · cases h
    · cases h
theorem repK_each {ks : List LK} {cs : List Value} : ∀ (n : Nat) (q : Bool) (off : Nat), eqV (repK ks n) (cs.drop off) (cs.drop off) = some q → ∀ i, i < n → ∃ q1, eqV ks ((cs.drop (off + i * ks.length)).take ks.length) ((cs.drop (off + i * ks.length)).take ks.length) = some q1
  | 0, q, off, hq, i, hi => by omega
  | n + 1, q, off, hq, i, hi => by
    simp only [repK] at hq
    obtain ⟨a, b, ha, hb, _⟩ := eqV_app hq
    cases i with
    | zero => exact ⟨a, by simpa using ha⟩
    | succ i =>
      rw [List.drop_drop] at hb
      obtain ⟨q1, h1⟩ := repK_each n b (off + ks.length) hb i (by omega)
      refine ⟨q1, ?_⟩
      rw [show off + (i + 1) * ks.length = off + ks.length + i * ks.length by rw [Nat.add_mul]; omega]
      exact h1
theorem chk_flat {P : Program} {w : World} {em : Bool} : ∀ (d : Nat) (t : Nat) (ks : List LK), flatK P d t = some ks → ∀ D, d ≤ D → ∀ (xs : Array Value) (off : Nat) (q : Bool),
    eqV ks ((xs.toList.drop off).take ks.length) ((xs.toList.drop off).take ks.length) = some q → ChkAt P w em D t off xs
  | 0, t, ks, h => by simp [flatK] at h
  | d + 1, t, ks, h => by
    intro D hD xs off q hq
    obtain ⟨D, rfl⟩ : ∃ D', D = D' + 1 := ⟨D - 1, by omega⟩
    have one : ∀ (u : Value), (xs.toList.drop off).take 1 = [u] → xs[off]? = some u := by
      intro u h
      have : ((xs.toList.drop off).take 1)[0]? = some u := by rw [h]; rfl
      simpa [List.getElem?_take, List.getElem?_drop] using this
    have e2 : ∀ n, (xs.extract off (off + n)).toList = (xs.toList.drop off).take n := by
      intro n
      rw [Array.toList_extract]
      simp [List.extract]
    unfold flatK at h
    split at h
    · rename_i k hu
      cases h
      simp only [List.length_cons, List.length_nil, Nat.zero_add] at hq
      generalize ha : (xs.toList.drop off).take 1 = la at hq
      cases la with
      | nil => simp [eqV] at hq
      | cons u la =>
        have la0 : la = [] := by have := congrArg List.length ha; simp at this; exact List.length_eq_zero_iff.1 (by omega)
        subst la0
        cases u <;> simp only [eqV, reduceCtorEq] at hq
        rename_i k1 x
        exact ⟨.int k1 x, by simp [part, isAgg, run_underlying hu, one _ ha], by simp [Instr.checkKey, run_underlying hu]⟩
    · rename_i hu
      cases h
      simp only [List.length_cons, List.length_nil, Nat.zero_add] at hq
      generalize ha : (xs.toList.drop off).take 1 = la at hq
      cases la with
      | nil => simp [eqV] at hq
      | cons u la =>
        have la0 : la = [] := by have := congrArg List.length ha; simp at this; exact List.length_eq_zero_iff.1 (by omega)
        subst la0
        cases u <;> simp only [eqV, reduceCtorEq] at hq
        rename_i x
        exact ⟨.bool x, by simp [part, isAgg, run_underlying hu, one _ ha], by simp [Instr.checkKey, run_underlying hu]⟩
    · rename_i fs hu
      split at h
      · split at h
        · rename_i ks' hg
          split at h
          · rename_i i hi
            split at h
            · rename_i hsz
              cases h
              have hA : (isAgg t).run P w = .ok true w := by simp [isAgg, run_underlying hu]
              have hS : (sizeOf t).run P w = .ok ks.length w := by simp [sizeOf, typeInfo, hi, hsz]
              refine ⟨.agg (xs.extract off (off + ks.length)), by simp [part, hA, hS], ?_⟩
              have each := goF_each fs.toList [] ks hg (cs := (xs.extract off (off + ks.length)).toList) (q := q) (by rw [e2]; exact hq)
              rw [Instr.checkKey]
              simp only [Sem.run_bind, run_underlying hu, Result.andThen_ok]
              rw [← Array.forIn_toList]
              generalize fs.toList = L at each
              induction L with
              | nil => simp
              | cons f L ih =>
                obtain ⟨hn, k1, q1, hk1, h1⟩ := each f (by simp)
                obtain ⟨a, p1, p2⟩ := chk_flat (w := w) (em := em) d _ k1 hk1 D (by omega) (xs.extract off (off + ks.length)) f.offset q1 h1
                simp only [List.forIn_cons, Sem.run_bind, hn, ne_eq, not_false_eq_true, if_true, Result.andThen_ok, p1, p2, Sem.run_pure]
                exact ih (fun y hy => each y (by simp [hy]))
            · cases h
          · cases h
        · cases h
      · cases h
    · rename_i n e hu
      split at h
      · rename_i ke hke
        split at h
        · rename_i i hi
          split at h
          · rename_i ie hie
            split at h
            · rename_i hh
              cases h
              obtain ⟨hs1, hs2, hs3⟩ := hh
              have hA : (isAgg t).run P w = .ok true w := by simp [isAgg, run_underlying hu]
              have hS : (sizeOf t).run P w = .ok (repK ke n).length w := by simp [sizeOf, typeInfo, hi, hs2, repK_len]
              have hE : (sizeOf e).run P w = .ok ke.length w := by simp [sizeOf, typeInfo, hie, hs1]
              refine ⟨.agg (xs.extract off (off + (repK ke n).length)), by simp [part, hA, hS], ?_⟩
              have each := repK_each n q 0 (cs := (xs.extract off (off + (repK ke n).length)).toList) (ks := ke) (by rw [e2]; simpa using hq)
              rw [Instr.checkKey]
              simp only [Sem.run_bind, run_underlying hu, Result.andThen_ok]
              simp only [Std.Legacy.Range.forIn_eq_forIn_range', Std.Legacy.Range.size, Nat.sub_zero, Nat.add_one_sub_one, Nat.div_one]
              have each : ∀ i, i ∈ List.range' 0 n → ∃ q1, eqV ke (((xs.extract off (off + (repK ke n).length)).toList.drop (i * ke.length)).take ke.length) (((xs.extract off (off + (repK ke n).length)).toList.drop (i * ke.length)).take ke.length) = some q1 := fun i hi => by
                simp only [List.mem_range'_1] at hi
                simpa using each i (by omega)
              generalize List.range' 0 n = is at each
              induction is with
              | nil => simp
              | cons j is ih =>
                obtain ⟨q1, h1⟩ := each j (by simp)
                obtain ⟨a, p1, p2⟩ := chk_flat (w := w) (em := em) d _ ke hke D (by omega) (xs.extract off (off + (repK ke n).length)) (j * ke.length) q1 h1
                simp only [List.forIn_cons, Sem.run_bind, hE, Result.andThen_ok, p1, p2, Sem.run_pure]
                exact ih (fun y hy => each y (by simp [hy]))
            · cases h
          · cases h
        · cases h
      · cases h
    · cases h

theorem part_all {P : Program} {w : World} {t : Nat} {ks : List LK} {d : Nat} (h : flatK P d t = some ks) {dd : TypeDesc} (hag : true = (match dd with | .struct _ | .array _ _ => true | _ => false)) (hd : P.underlying t = some dd) {xs : Array Value} (hx : xs.size = ks.length) :
    (part t xs 0).run P w = .ok (.agg xs) w := by
  obtain ⟨i, hi, hs⟩ := flatK_size h hag hd
  have hA : (isAgg t).run P w = .ok true w := by
    cases dd <;> simp at hag <;> simp [isAgg, run_underlying hd]
  have hS : (sizeOf t).run P w = .ok ks.length w := by simp [sizeOf, typeInfo, hi, hs]
  have : xs.extract 0 ks.length = xs := by rw [← hx]; simp
  simp [part, hA, hS, this]

/-- What a key is made of. -/
def keyKs (tk : TI) : Option (Bool × List LK) :=
  match tk.agg, tk.eq with
  | true, some ks => if isI ks then some (true, ks) else none
  | false, _ => match tk.kind with
    | .int .i64 => some (false, [.i])
    | _ => none
  | _, _ => none
structure KeyOk (P : Program) (kt : Nat) (ka : Bool) (ks : List LK) : Prop where
  check : ∀ (w : World) (em : Bool) (k : List Int), k.length = ks.length → (Instr.checkKey em 10000 kt (valN ka ks k)).run P w = .ok () w
  find : ∀ (w : World) (va : Bool) (vs : List LK) (k : List Int) (es : List MapEntry) (ms : List (List Int × List Int)), k.length = ks.length → es.length = ms.length →
    (∀ (j : Nat) (e : MapEntry) (k' v : List Int), es[j]? = some e → ms[j]? = some (k', v) → e.key = valN ka ks k' ∧ e.val = valN va vs v ∧ k'.length = ks.length) →
    (Instr.findKey kt (valN ka ks k) es).run P w = .ok none w ∧ findM ms k = none ∨ ∃ j v, (Instr.findKey kt (valN ka ks k) es).run P w = .ok (some (j, valN va vs v)) w ∧ ms[j]? = some (k, v) ∧ findM ms k = some v ∧ ∀ i, i < j → ∀ q, ms[i]? = some q → q.1 ≠ k
  same : ∀ k, k.length = ks.length → Instr.sameBits 10000 (valN ka ks k) (valN ka ks k) = true
theorem findAsk {P : Program} {w : World} {kt : Nat} {ka : Bool} {ks : List LK} (heq : ∀ a b : List Int, a.length = ks.length → b.length = ks.length → (Op.equal kt (valN ka ks a) (valN ka ks b)).run P w = .ok (decide (a = b)) w)
    (va : Bool) (vs : List LK) (k : List Int) (hk : k.length = ks.length) : ∀ (es : List MapEntry) (ms : List (List Int × List Int)) (i : Nat), es.length = ms.length →
    (∀ (j : Nat) (e : MapEntry) (k' v : List Int), es[j]? = some e → ms[j]? = some (k', v) → e.key = valN ka ks k' ∧ e.val = valN va vs v ∧ k'.length = ks.length) →
    (Instr.findAsking kt (valN ka ks k) es i).run P w = .ok none w ∧ findM ms k = none ∨ ∃ j v, (Instr.findAsking kt (valN ka ks k) es i).run P w = .ok (some (i + j, valN va vs v)) w ∧ ms[j]? = some (k, v) ∧ findM ms k = some v ∧ ∀ i, i < j → ∀ q, ms[i]? = some q → q.1 ≠ k
  | [], [], i, _, _ => .inl ⟨by simp [Instr.findAsking], rfl⟩
  | [], _ :: _, _, h, _ => by simp at h
  | _ :: _, [], _, h, _ => by simp at h
  | e :: es, (k', v) :: ms, i, hl, ha => by
    obtain ⟨h1, h2, h3⟩ := ha 0 e k' v rfl rfl
    have hq := heq k k' hk h3
    by_cases hkk : k' = k
    · subst hkk
      right
      refine ⟨0, v, ?_, rfl, by simp [findM], fun i hi => by omega⟩
      simp only [decide_true] at hq
      simp [Instr.findAsking, h1, h2, hq]
    · have : (decide (k = k')) = false := by simp; exact fun e => hkk e.symm
      rw [this] at hq
      rcases findAsk heq va vs k hk es ms (i + 1) (by simpa using hl) (fun j e k' v h1 h2 => ha (j + 1) e k' v (by simpa using h1) (by simpa using h2)) with ⟨p1, p2⟩ | ⟨j, v', p1, p2, p3, p4⟩
      · left
        exact ⟨by simp [Instr.findAsking, h1, hq, p1], by simp [findM, hkk, p2]⟩
      · right
        refine ⟨j + 1, v', by simp [Instr.findAsking, h1, hq, p1, Nat.add_assoc, Nat.add_comm 1 j], by simpa using p2, by simp [findM, hkk, p3], fun i hi q hq' => ?_⟩
        cases i with
        | zero => simp at hq'; subst hq'; exact hkk
        | succ i => exact p4 i (by omega) q (by simpa using hq')
theorem findNw {P : Program} {w : World} (va : Bool) (vs : List LK) (x : Int) : ∀ (es : List MapEntry) (ms : List (List Int × List Int)) (i : Nat), es.length = ms.length →
    (∀ (j : Nat) (e : MapEntry) (k' v : List Int), es[j]? = some e → ms[j]? = some (k', v) → e.key = valN false [.i] k' ∧ e.val = valN va vs v ∧ k'.length = 1) →
    Instr.findNow (.int .i64) (.int .i64 x) es i = some none ∧ findM ms [x] = none ∨ ∃ j v, Instr.findNow (.int .i64) (.int .i64 x) es i = some (some (i + j, valN va vs v)) ∧ ms[j]? = some ([x], v) ∧ findM ms [x] = some v ∧ ∀ i, i < j → ∀ q, ms[i]? = some q → q.1 ≠ [x]
  | [], [], i, _, _ => .inl ⟨by simp [Instr.findNow], rfl⟩
  | [], _ :: _, _, h, _ => by simp at h
  | _ :: _, [], _, h, _ => by simp at h
  | e :: es, (k', v) :: ms, i, hl, ha => by
    obtain ⟨h1, h2, h3⟩ := ha 0 e k' v rfl rfl
    obtain ⟨y, rfl⟩ : ∃ y, k' = [y] := by
      cases k' with
      | nil => simp at h3
      | cons y l => cases l with
        | nil => exact ⟨y, rfl⟩
        | cons _ _ => simp at h3
    have hy : e.key = .int .i64 y := by rw [h1]; rfl
    by_cases hkk : y = x
    · subst hkk
      right
      exact ⟨0, v, by simp [Instr.findNow, hy, Instr.sameNow, h2], rfl, by simp [findM], fun i hi => by omega⟩
    · have hxy : (x == y) = false := by simp; exact fun e => hkk e.symm
      rcases findNw (P := P) (w := w) va vs x es ms (i + 1) (by simpa using hl) (fun j e k' v h1 h2 => ha (j + 1) e k' v (by simpa using h1) (by simpa using h2)) with ⟨p1, p2⟩ | ⟨j, v', p1, p2, p3, p4⟩
      · left
        exact ⟨by simp [Instr.findNow, hy, Instr.sameNow, hxy, p1], by simp [findM, hkk, p2]⟩
      · right
        refine ⟨j + 1, v', by simp [Instr.findNow, hy, Instr.sameNow, hxy, p1, Nat.add_assoc, Nat.add_comm 1 j], by simpa using p2, by simp [findM, hkk, p3], fun i hi q hq' => ?_⟩
        cases i with
        | zero => simp at hq'; subst hq'; simpa using hkk
        | succ i => exact p4 i (by omega) q (by simpa using hq')
theorem sameBits_cells (n : Nat) : ∀ (ks : List LK) (l : List Int), (((cellsN ks l).zip (cellsN ks l)).all fun (x, y) => Instr.sameBits n x y) = true
  | [], _ => rfl
  | k :: ks, [] => by
    have := sameBits_cells n ks []
    simp only [cellsN, List.zip_cons_cons, List.all_cons, this, Bool.and_true]
    cases k <;> cases n <;> simp [cellN, Instr.sameBits]
  | k :: ks, x :: l => by
    have := sameBits_cells n ks l
    simp only [cellsN, List.zip_cons_cons, List.all_cons, this, Bool.and_true]
    cases k <;> cases n <;> simp [cellN, Instr.sameBits]
theorem keyKs_ok {P : Program} {kt : Nat} {tk : TI} (hT : TIOk P kt tk) {ka : Bool} {ks : List LK} (h : keyKs tk = some (ka, ks)) : KeyOk P kt ka ks := by
  obtain ⟨d, hd, _, hag, hk⟩ := hT.desc
  unfold keyKs at h
  split at h
  · rename_i ks' ha he
    split at h
    · rename_i hi
      cases h
      obtain ⟨hf, _⟩ := hT.eqv _ he
      rw [ha] at hag
      have hcells : ∀ k : List Int, ((cellsN ks k).toArray).size = ks.length := fun k => by simp [cellsN_len]
      have hv : ∀ k, valN true ks k = .agg (cellsN ks k).toArray := fun k => by simp [valN]
      have heq : ∀ (w : World) (a b : List Int), a.length = ks.length → b.length = ks.length → (Op.equal kt (valN true ks a) (valN true ks b)).run P w = .ok (decide (a = b)) w := fun w a b h1 h2 => by
        have h0 := eqV_cells ks a b hi h1 h2
        obtain ⟨x, y, p1, p2, p3⟩ := flatK_ok (w := w) 8 kt ks hf Op.maxDepth (by decide) (cellsN ks a).toArray (cellsN ks b).toArray 0 _ (by
          have e1 : ∀ k : List Int, (((cellsN ks k).toArray).toList.drop 0).take ks.length = cellsN ks k := fun k => by simp [← cellsN_len ks k]
          rw [e1, e1]; exact h0)
        rw [part_all hf hag hd (hcells a)] at p1
        rw [part_all hf hag hd (hcells b)] at p2
        cases p1; cases p2
        rw [hv, hv]
        exact p3
      refine ⟨fun w em k hl => ?_, fun w va vs k es ms hl hlen hall => ?_, fun k hl => ?_⟩
      · have h0 := eqV_cells ks k k hi hl hl
        obtain ⟨x, p1, p2⟩ := chk_flat (w := w) (em := em) 8 kt ks hf 10000 (by decide) (cellsN ks k).toArray 0 _ (by
          have e1 : (((cellsN ks k).toArray).toList.drop 0).take ks.length = cellsN ks k := by simp [← cellsN_len ks k]
          rw [e1]; exact h0)
        rw [part_all hf hag hd (hcells k)] at p1
        cases p1
        rw [hv]
        exact p2
      · have hwide : (match P.underlying kt with | some (.array _ _) | some (.struct _) => true | _ => false) = true := by
          rw [hd]; cases d <;> simp at hag <;> rfl
        rw [Go.run_findKey_eq w hwide]
        simpa using findAsk (heq w) va vs k hl es ms 0 hlen hall
      · rw [hv]
        have := sameBits_cells 9999 ks k
        rw [show (10000 : Nat) = 9999 + 1 from rfl, Instr.sameBits]
        simpa using this
    · cases h
  · rename_i ha
    split at h
    · rename_i hkd
      cases h
      rw [hkd] at hk
      subst hk
      refine ⟨fun w em k hl => ?_, fun w va vs k es ms hl hlen hall => ?_, fun k hl => ?_⟩
      · rw [show (10000 : Nat) = 9999 + 1 from rfl, Instr.checkKey]
        simp [run_underlying hd]
      · obtain ⟨x, rfl⟩ : ∃ y, k = [y] := by
          cases k with
          | nil => simp at hl
          | cons y l => cases l with
            | nil => exact ⟨y, rfl⟩
            | cons _ _ => simp at hl
        have hx : valN false [LK.i] [x] = .int .i64 x := rfl
        rw [hx]
        rcases findNw (P := P) (w := w) va vs x es ms 0 hlen hall with ⟨p1, p2⟩ | ⟨j, v', p1, p2, p3, p4⟩
        · exact .inl ⟨MapKept.run_findKey hd p1, p2⟩
        · exact .inr ⟨j, v', by simpa using MapKept.run_findKey (w := w) hd p1, p2, p3, p4⟩
      · cases k <;> simp [valN, cellsN, cellN, Instr.sameBits]
    · cases h
  · cases h

/- ### the operations -/
def valKs : List ZC → Option (List LK)
  | [] => some []
  | .c (.int .i64 0) :: l => match valKs l with
    | some r => some (.i :: r)
    | none => none
  | .c (.bool false) :: l => match valKs l with
    | some r => some (.b :: r)
    | none => none
  | _ => none
theorem valKs_ok : ∀ {zs : List ZC} {vs : List LK} {us : List Value}, valKs zs = some vs → zs.length = us.length → (∀ (k : Nat) (u : Value), us[k]? = some u → u.oneCell' = true ∧ match zs[k]? with | some (.c x) => x = svS u | some (.sl _ sz) => u = .slice none 0 0 ∧ 0 < sz | none => False) → us = cellsN vs [] := by
  intro zs
  fun_induction valKs zs with
  | case1 => intro vs us h hl _; cases h; cases us <;> simp at hl; rfl
  | case2 l r h0 ih =>
    intro vs us h hl hz
    cases h
    cases us with
    | nil => simp at hl
    | cons u us =>
      have a := (hz 0 u rfl).2
      simp only [List.getElem?_cons_zero] at a
      have : u = .int .i64 0 := by
        unfold svS at a
        split at a <;> simp_all
      rw [cellsN, ← ih h0 (by simpa using hl) (fun k u hu => by simpa using hz (k + 1) u (by simpa using hu)), this]
      rfl
  | case3 => intro vs us h; cases h
  | case4 l r h0 ih =>
    intro vs us h hl hz
    cases h
    cases us with
    | nil => simp at hl
    | cons u us =>
      have a := (hz 0 u rfl).2
      simp only [List.getElem?_cons_zero] at a
      have : u = .bool false := by
        unfold svS at a
        split at a <;> simp_all
      rw [cellsN, ← ih h0 (by simpa using hl) (fun k u hu => by simpa using hz (k + 1) u (by simpa using hu)), this]
      rfl
  | case5 => intro vs us h; cases h
  | case6 => intro vs us h; cases h
theorem zero_val {P : Program} {w : World} {e : Nat} {te : TI} (hE : TIOk P e te) {vs : List LK} (hv : valKs te.zero = some vs) : (zeroValue e).run P w = .ok (valN te.agg vs []) w := by
  obtain ⟨i, z, hi, h1, h2, hz, h3, h4, h5⟩ := hE.info
  obtain ⟨d, hd, _, hag, _⟩ := hE.desc
  have hc : z.cells.toList = cellsN vs [] := valKs_ok hv (by simp [h3, h4]) (fun k u hu => h5 k u (by simpa using hu))
  have hzv : (zeroValue e).run P w = .ok z w := by simp [zeroValue, typeInfo, hi, hz]
  rw [hzv]
  have ha := hE.zag i z hi hz
  have hv : valN te.agg vs [] = z := by
    rw [← ha]
    cases z <;> simp only [Value.cells] at hc <;> simp only [aggV, valN]
    case agg cs => simp [← hc]
    all_goals (rw [← hc]; simp)
  rw [hv]

def gLook (m : MapS) (ok : Bool) (k : List Int) (h : HS) : Res :=
  match ok with
  | true => .val True (.tup [valS m.va m.vs (lookM m.es k), .bool (hasM m.es k)]) h
  | false => .val True (valS m.va m.vs (lookM m.es k)) h
def rLookB (ok : Bool) (kx : Option (Bool × List LK)) (vx : Option (List LK)) (va : Bool) (y : SV) (h : HS) : Blk → Res
  | .mp m => match kx, vx, m.it with
    | some (ka, ks), some vs, none => if m.ka = ka ∧ m.ks = ks ∧ m.va = va ∧ m.vs = vs then match numV ka ks y with
      | some k => gLook m ok k h
      | none => .bad
      else .bad
    | _, _, _ => .bad
  | _ => .bad
def rLookup (tk tv : TI) (ok : Bool) (x y : SV) (h : HS) : Res :=
  match x with
  | .mapp nm => rLookB ok (keyKs tk) (valKs tv.zero) tv.agg y h (getB h.blks nm)
  | _ => .bad
def rUpdB (nm : Nat) (kx : Option (Bool × List LK)) (y z : SV) (h : HS) : Blk → Res
  | .mp m => match kx, m.it with
    | some (ka, ks), none => if m.ka = ka ∧ m.ks = ks then match numV ka ks y, numV m.va m.vs z with
      | some k, some v => .skip True { h with blks := setB h.blks nm (.mp { m with es := putM m.es k v }) }
      | _, _ => .bad
      else .bad
    | _, _ => .bad
  | _ => .bad
def rUpdate (tk : TI) (x y z : SV) (h : HS) : Res :=
  match x with
  | .mapp nm => rUpdB nm (keyKs tk) y z h (getB h.blks nm)
  | _ => .bad
def mkMp (k v : Nat) (va : Bool) (h : HS) : Option (Bool × List LK) → Option (List LK) → Res
  | some (ka, ks), some vs => .val True (.mapp (lenB h.blks)) { h with blks := snocB h.blks (.mp ⟨k, v, ka, ks, va, vs, [], none⟩) }
  | _, _ => .bad
def rMakeMap (k v : Nat) (tk tv : TI) (h : HS) : Res := mkMp k v tv.agg h (keyKs tk) (valKs tv.zero)

theorem RelH.newMp {E : Env} {h : HS} {w : World} (hr : RelH E h w) (m : MapS) (ob : Obj) (hnew : MpAt (E.newB w.heap.size) (w.alloc ob) E.nb m) :
    RelH (E.newB w.heap.size) { h with blks := snocB h.blks (.mp m) } (w.alloc ob) := by
  have hx : Ext E w (E.newB w.heap.size) (w.alloc ob) := ext_alloc hr.own _ _ rfl
  have hold : ∀ b, b < w.heap.size → (w.alloc ob).heap[b]? = w.heap[b]? := fun b hb => Below.heap_alloc w _ b hb
  refine ⟨by simp [Env.newB, lenB_snoc, hr.nb], hr.nv, ?_, ?_, ?_, ?_, ?_⟩
  · intro nm ty' cells' hb
    simp only [getB_snoc] at hb
    split at hb
    · cases hb
    · rename_i e
      have e' : nm ≠ E.nb := fun e' => e (e'.trans hr.nb)
      obtain ⟨cs', k1, k2, k3, k4⟩ := hr.blk nm ty' cells' hb
      have hlt := hr.own _ _ k4
      refine ⟨cs', ?_, k2.ext hx, k3, ?_⟩
      · simp only [Env.newB, e', if_false]; exact (hold _ hlt).trans k1
      · simp only [Env.newB, e', if_false]; rw [if_neg (by omega)]; exact k4
  · intro id ver ty' sz n f hv
    obtain ⟨h0, ⟨a, cap, k1, k2⟩, k3⟩ := hr.vec id ver ty' sz n f hv
    refine ⟨h0, ⟨a, cap, k1, k2.ext hx (fun g hg => ?_)⟩, k3⟩
    have hlt := hr.own _ _ hg
    exact ⟨hold g hlt, by simp only [Env.newB]; rw [if_neg (by omega)]⟩
  · intro b t hb
    simp only [Env.newB] at hb
    split at hb
    · rename_i e; subst e; simp
    · have := hr.own b t hb; simp; omega
  · intro nm st' pend' fid' t' params' assign' body' hb
    simp only [getB_snoc] at hb
    split at hb
    · cases hb
    · rename_i e
      have e' : nm ≠ E.nb := fun e' => e (e'.trans hr.nb)
      refine (hr.lp _ _ _ _ _ _ _ _ hb).ext hx (fun ho => ?_)
      have hlt := hr.own _ _ ho
      exact ⟨by simp only [Env.newB, e', if_false], hold _ hlt, by simp only [Env.newB]; rw [if_neg (by omega)]⟩
  · intro nm m' hb
    simp only [getB_snoc] at hb
    split at hb
    · rename_i e
      have e' : nm = E.nb := e.trans hr.nb.symm
      cases hb
      rw [e']
      exact hnew
    · rename_i e
      have e' : nm ≠ E.nb := fun e' => e (e'.trans hr.nb)
      refine (hr.mp _ _ hb).ext hx (fun ho => ?_)
      have hlt := hr.own _ _ ho
      exact ⟨by simp only [Env.newB, e', if_false], hold _ hlt, by simp only [Env.newB]; rw [if_neg (by omega)]⟩

theorem RelH.newMap {E : Env} {h : HS} {w : World} (hr : RelH E h w) (m : MapS) (hm : m.es = []) (hit : m.it = none) :
    RelH (E.newB w.heap.size) { h with blks := snocB h.blks (.mp m) } (w.alloc (.map #[] 0)) := by
  refine hr.newMp m _ ⟨by simp only [Env.newB, if_true], ?_⟩
  rw [hit]
  exact ⟨#[], by simp only [Env.newB, if_true]; exact heap_alloc_new w _, by simp [hm], fun i e k v h => by simp at h, fun i e h => by simp at h⟩

/-- A map moves on. -/
theorem RelH.setMap {E : Env} {h : HS} {w w' : World} (hr : RelH E h w) {nm : Nat} {m : MapS} (hb : getB h.blks nm = .mp m) (m' : MapS)
    (hx : Ext E w E w') (hsz : w'.heap.size = w.heap.size) (hoth : ∀ b, b ≠ E.rho nm → w'.heap[b]? = w.heap[b]?) (hnew : MpAt E w' nm m') :
    RelH E { h with blks := setB h.blks nm (.mp m') } w' := by
  have b3 := (hr.mp _ _ hb).1
  have hne : ∀ b tg, E.own b = some tg → tg ≠ .blk nm → b ≠ E.rho nm := fun b tg ho ht e => by rw [e, b3] at ho; cases ho; exact ht rfl
  refine ⟨by simp [lenB_set, hr.nb], hr.nv, ?_, ?_, fun b t hb => by rw [hsz]; exact hr.own b t hb, ?_, ?_⟩
  · intro nm' ty' c' hb'
    simp only [getB_set] at hb'
    split at hb'
    · cases hb'
    · rename_i e
      have hn : nm' ≠ nm := fun e' => e ⟨e', getB_ltM hb⟩
      obtain ⟨c, k1, k2, k3, k4⟩ := hr.blk nm' ty' c' hb'
      exact ⟨c, (hoth _ (hne _ _ k4 (fun e => hn (by injection e)))).trans k1, k2.ext hx, k3, k4⟩
  · intro id ver ty' sz n f hv
    obtain ⟨h0, ⟨a, cap, k1, k2⟩, k3⟩ := hr.vec id ver ty' sz n f hv
    exact ⟨h0, ⟨a, cap, k1, k2.ext hx (fun g hg => ⟨hoth g (hne _ _ hg (by intro e; cases e)), rfl⟩)⟩, k3⟩
  · intro nm' st2 pend2 fid2 t2 params2 assign2 body2 hb'
    simp only [getB_set] at hb'
    split at hb'
    · cases hb'
    · rename_i e
      have hn : nm' ≠ nm := fun e' => e ⟨e', getB_ltM hb⟩
      exact (hr.lp _ _ _ _ _ _ _ _ hb').ext hx (fun ho => ⟨rfl, hoth _ (hne _ _ ho (fun e => hn (by injection e))), rfl⟩)
  · intro nm' m2 hb'
    simp only [getB_set] at hb'
    split at hb'
    · rename_i e
      obtain ⟨rfl, _⟩ := e
      cases hb'
      exact hnew
    · rename_i e
      have hn : nm' ≠ nm := fun e' => e ⟨e', getB_ltM hb⟩
      exact (hr.mp _ _ hb').ext hx (fun ho => ⟨rfl, hoth _ (hne _ _ ho (fun e => hn (by injection e))), rfl⟩)

theorem valS_val (E : Env) (w : World) (agg : Bool) (ks : List LK) (l : List Int) : Den E w (valS agg ks l) (valN agg ks l) := valS_den E w agg ks l

theorem rLookup_ok {P : Program} {E : Env} {h : HS} {w : World} (hr : RelH E h w) {t kt et : TypeId} (ht : P.underlying t = some (.map kt et)) {tk tv : TI} (hK : TIOk P kt tk) (hV : TIOk P et tv) (ok : Bool)
    {x y : SV} {vx vy : Value} (hx : Den E w x vx) (hy : Den E w y vy) : ResOk P E h w ((Instr.lookup t vx vy ok >>= fun v => pure (Next.value v)).run P w) (rLookup tk tv ok x y h) := by
  unfold rLookup
  split
  rotate_left
  · trivial
  rename_i nm
  unfold rLookB
  split
  rotate_left
  · trivial
  rename_i m hb
  split
  rotate_left
  · trivial
  rename_i ka ks vs hk hv hit
  split
  rotate_left
  · trivial
  rename_i hm
  obtain ⟨rfl, rfl, hva, rfl⟩ := hm
  split
  rotate_left
  · trivial
  rename_i k hnum
  have hmp := hr.mp _ _ hb
  unfold MpAt at hmp
  rw [hit] at hmp
  obtain ⟨h2, es, h1, h3, h4, h5⟩ := hmp
  obtain ⟨hkl, rfl⟩ := numV_den hnum hy
  cases hx
  have hko := keyKs_ok hK hk
  have hall : ∀ (j : Nat) (e : MapEntry) (k' v : List Int), es.toList[j]? = some e → m.es[j]? = some (k', v) → e.key = valN m.ka m.ks k' ∧ e.val = valN m.va m.vs v ∧ k'.length = m.ks.length := fun j e k' v he hm => by
    obtain ⟨a1, a2, a4, a5⟩ := h4 j e k' v (by simpa using he) hm
    exact ⟨a1, a2, a4⟩
  have hz := zero_val (w := w) hV hv
  rw [← hva] at hz
  have hfin : ∀ (q : Bool) (v : List Int), (Instr.lookup t (.map (some (E.rho nm))) (valN m.ka m.ks k) ok).run P w = .ok (if ok then .tuple #[valN m.va m.vs v, .bool q] else valN m.va m.vs v) w → lookM m.es k = v → hasM m.es k = q →
      ResOk P E h w ((Instr.lookup t (.map (some (E.rho nm))) (valN m.ka m.ks k) ok >>= fun v => pure (Next.value v)).run P w) (gLook m ok k h) := by
    intro q v hrun hl hh
    unfold gLook
    cases ok
    · exact ResOk.pure hr (val := valN m.va m.vs v) (fun _ => by simp [hrun]) (by rw [hl]; exact valS_val E w _ _ _)
    · refine ResOk.pure hr (val := .tuple #[valN m.va m.vs v, .bool q]) (fun _ => by simp [hrun]) (.tup _ (by simp) (fun i a u ha hu => ?_))
      cases i with
      | zero => simp at ha hu; subst ha hu; rw [hl]; exact valS_val E w _ _ _
      | succ i => cases i with
        | zero => simp at ha hu; subst ha hu; rw [hh]; exact .bool _
        | succ i => simp at ha
  have hget : (getObj (E.rho nm)).run P w = .ok (.map es es.size) w := by simp [getObj, Sem.run, h1]
  rcases hko.find w m.va m.vs k es.toList m.es hkl (by simpa using h3) hall with ⟨p1, p2⟩ | ⟨j, v, p1, p2, p3, p4⟩
  · refine hfin false [] ?_ (by simp [lookM, p2]) (by simp [hasM, p2])
    cases ok <;> simp [Instr.lookup, run_underlying ht, hget, hko.check w _ k hkl, p1, hz]
  · refine hfin true v ?_ (by simp [lookM, p3]) (by simp [hasM, p3])
    cases ok <;> simp [Instr.lookup, run_underlying ht, hget, hko.check w _ k hkl, p1]

theorem putM_none : ∀ {es : List (List Int × List Int)} {k v : List Int}, findM es k = none → putM es k v = es ++ [(k, v)]
  | [], k, v, _ => rfl
  | (k', v') :: es, k, v, h => by
    simp only [findM] at h
    split at h
    · cases h
    · rename_i hne; simp [putM, hne, putM_none h]
theorem putM_some : ∀ {es : List (List Int × List Int)} {k v u : List Int} {j : Nat}, es[j]? = some (k, u) → (∀ i, i < j → ∀ q, es[i]? = some q → q.1 ≠ k) → putM es k v = es.set j (k, v)
  | [], k, v, u, j, h, _ => by simp at h
  | (k', v') :: es, k, v, u, 0, h, _ => by simp at h; simp [putM, h.1]
  | (k', v') :: es, k, v, u, j + 1, h, h2 => by
    have hne : k' ≠ k := h2 0 (by omega) _ rfl
    simp [putM, hne, putM_some (es := es) (v := v) (by simpa using h) (fun i hi q hq => h2 (i + 1) (by omega) q (by simpa using hq))]

theorem rUpdate_ok {P : Program} {E : Env} {h : HS} {w : World} (hr : RelH E h w) {t kt et : TypeId} (ht : P.underlying t = some (.map kt et)) {tk : TI} (hK : TIOk P kt tk)
    {x y z : SV} {vx vy vz : Value} (hx : Den E w x vx) (hy : Den E w y vy) (hz : Den E w z vz) : ResOk P E h w ((Instr.mapUpdate t vx vy vz >>= fun _ => (pure Next.skip : Sem Next)).run P w) (rUpdate tk x y z h) := by
  unfold rUpdate
  split
  rotate_left
  · trivial
  rename_i nm
  unfold rUpdB
  split
  rotate_left
  · trivial
  rename_i m hb
  split
  rotate_left
  · trivial
  rename_i ka ks hk hit
  split
  rotate_left
  · trivial
  rename_i hm
  obtain ⟨rfl, rfl⟩ := hm
  split
  rotate_left
  · trivial
  rename_i k v hnum hnv
  have hmp := hr.mp _ _ hb
  unfold MpAt at hmp
  rw [hit] at hmp
  obtain ⟨h2, es, h1, h3, h4, h5⟩ := hmp
  obtain ⟨hkl, rfl⟩ := numV_den hnum hy
  obtain ⟨hvl, rfl⟩ := numV_den hnv hz
  cases hx
  have hko := keyKs_ok hK hk
  have hall : ∀ (j : Nat) (e : MapEntry) (k' v : List Int), es.toList[j]? = some e → m.es[j]? = some (k', v) → e.key = valN m.ka m.ks k' ∧ e.val = valN m.va m.vs v ∧ k'.length = m.ks.length := fun j e k' v he hm => by
    obtain ⟨a1, a2, a4, a5⟩ := h4 j e k' v (by simpa using he) hm
    exact ⟨a1, a2, a4⟩
  have hlt : E.rho nm < w.heap.size := (Array.getElem?_eq_some_iff.1 h1).1
  intro _
  have hget : (getObj (E.rho nm)).run P w = .ok (.map es es.size) w := by simp [getObj, Sem.run, h1]
  have hset : ∀ o, (setObj (E.rho nm) o).run P w = .ok () { w with heap := w.heap.set (E.rho nm) o hlt } := fun o => by
    simp only [setObj, Sem.run, h1]
    simp [Array.setIfInBounds, hlt]
  have hX : ∀ o, Ext E w E { w with heap := w.heap.set (E.rho nm) o hlt } := fun o =>
    ⟨rfl, rfl, rfl, by simp, Nat.le_refl _, Nat.le_refl _, fun _ _ => rfl, fun _ _ _ _ h => h, fun b hb h => ⟨h, by
      have : E.rho nm ≠ b := fun e => by rw [← e, h2] at h; cases h
      simp [Array.getElem?_set, this]⟩, fun b h => ⟨h, by
      have : E.rho nm ≠ b := fun e => by rw [← e, h2] at h; cases h
      simp [Array.getElem?_set, this]⟩⟩
  have hoth : ∀ o b, b ≠ E.rho nm → ({ w with heap := w.heap.set (E.rho nm) o hlt } : World).heap[b]? = w.heap[b]? := fun o b hb => by
    simp [Array.getElem?_set, Ne.symm hb]
  have hnew : ∀ o, ({ w with heap := w.heap.set (E.rho nm) o hlt } : World).heap[E.rho nm]? = some o := fun o => by simp
  rcases hko.find w m.va m.vs k es.toList m.es hkl (by simpa using h3) hall with ⟨p1, p2⟩ | ⟨j, u, p1, p2, p3, p4⟩
  · refine ⟨_, E, ?_, hr.setMap hb { m with es := putM m.es k v } (hX (.map (es.push { key := valN m.ka m.ks k, val := valN m.va m.vs v, born := es.size }) (es.size + 1))) (by simp) (hoth _) ⟨h2, ?_⟩, hX _⟩
    · simp [Instr.mapUpdate, run_underlying ht, hget, hko.check w _ k hkl, p1, hset]
    · rw [show ({ m with es := putM m.es k v } : MapS).it = none from hit]
      refine ⟨_, by rw [Array.size_push]; exact hnew _, ?_, ?_, ?_⟩
      · simp [putM_none p2, h3]
      · intro i e k' v' he hm
        rw [putM_none p2] at hm
        rw [Array.getElem?_push] at he
        split at he
        · rename_i hi
          cases he
          rw [List.getElem?_append_right (by omega)] at hm
          simp [show i - m.es.length = 0 by omega] at hm
          obtain ⟨rfl, rfl⟩ := hm
          exact ⟨rfl, rfl, hkl, hvl⟩
        · have hi2 : i < es.size := (Array.getElem?_eq_some_iff.1 he).1
          rw [List.getElem?_append_left (by omega)] at hm
          exact h4 i e k' v' he hm
      · intro i e he
        rw [Array.getElem?_push] at he
        split at he
        · rename_i hi
          cases he
          exact hi.symm
        · exact h5 i e he
  · have hj : j < m.es.length := (List.getElem?_eq_some_iff.1 p2).1
    have hjs : j < es.size := by omega
    have hej : es[j]? = some es[j] := Array.getElem?_eq_getElem hjs
    obtain ⟨a1, a2, a4, a5⟩ := h4 j _ k u hej p2
    have hkeep : (Instr.keyThatStays (((es[j]?).map (·.key)).getD (valN m.ka m.ks k)) (valN m.ka m.ks k)).run P w = .ok (valN m.ka m.ks k) w := by
      rw [hej]
      simp only [Option.map_some, Option.getD_some, a1, Instr.keyThatStays, hko.same k hkl, if_true]
      simp
    refine ⟨_, E, ?_, hr.setMap hb { m with es := putM m.es k v } (hX (.map (es.modify j fun e => { e with key := valN m.ka m.ks k, val := valN m.va m.vs v }) es.size)) (by simp) (hoth _) ⟨h2, ?_⟩, hX _⟩
    · simp only [Instr.mapUpdate, Sem.run_bind, run_underlying ht, Result.andThen_ok, hget, hko.check w _ k hkl, p1, hkeep, hset, Sem.run_pure]
    · rw [show ({ m with es := putM m.es k v } : MapS).it = none from hit]
      refine ⟨_, by rw [Array.size_modify]; exact hnew _, ?_, ?_, ?_⟩
      · simp [putM_some (v := v) p2 p4, h3]
      · intro i e k' v' he hm
        rw [putM_some (v := v) p2 p4] at hm
        rw [Array.getElem?_modify] at he
        by_cases hij : j = i
        · subst hij
          rw [if_pos rfl, hej] at he
          simp only [Option.map_some, Option.some.injEq] at he
          rw [List.getElem?_set_self hj] at hm
          cases hm
          subst he
          exact ⟨rfl, rfl, hkl, hvl⟩
        · rw [if_neg hij] at he
          rw [List.getElem?_set_ne hij] at hm
          exact h4 i e k' v' he hm
      · intro i e he
        rw [Array.getElem?_modify] at he
        split at he
        · rename_i hij
          subst hij
          rw [hej] at he
          simp only [Option.map_some, Option.some.injEq] at he
          rw [← he]
          show es[j].born = j
          exact h5 j es[j] hej
        · exact h5 i e he

theorem rMakeMap_ok {P : Program} {E : Env} {h : HS} {w : World} (hr : RelH E h w) (t k v : TypeId) (tk tv : TI) :
    ResOk P E h w ((Instr.makeMap t none >>= fun v => pure (Next.value v)).run P w) (rMakeMap k v tk tv h) := by
  unfold rMakeMap mkMp
  split
  · intro _
    refine ⟨.map (some w.heap.size), w.alloc (.map #[] 0), E.newB w.heap.size, ?_, ?_, hr.newMap _ rfl rfl, ext_alloc hr.own _ _ rfl⟩
    · simp [Instr.makeMap]
    · have : Den (E.newB w.heap.size) (w.alloc (.map #[] 0)) (.mapp E.nb) (.map (some ((E.newB w.heap.size).rho E.nb))) := .mapp (by simp [Env.newB])
      rw [← hr.nb]
      simpa [Env.newB] using this
  · trivial

/-- A field of a value; a part of it. -/
def gtB : List Bool → Nat → Bool
  | [], _ => false
  | x :: _, 0 => x
  | _ :: l, n + 1 => gtB l n
theorem gtB_eq : ∀ (l : List Bool) (i : Nat), gtB l i = l.getD i false
  | [], i => by simp [gtB]
  | x :: l, 0 => by simp [gtB]
  | x :: l, i + 1 => by simp [gtB, gtB_eq l i]
def rFld (ti : TI) (x : SV) (k : Nat) (h : HS) : Res :=
  match ti.kind with
  | .struct offs => match nthO offs k with
    | some (o, s) => match x with
      | .agg l => .val (o + s ≤ lenS l) (if gtB ti.fag k then .agg (takeN s (dropN o l)) else nth l o) h
      | _ => .bad
    | none => .bad
  | _ => .bad
theorem rFld_ok {P : Program} {E : Env} {h : HS} {w : World} (hr : RelH E h w) {t : TypeId} {ti : TI} (hT : TIOk P t ti) {x : SV} {v : Value} (hx : Den E w x v) (k : Nat) :
    ResOk P E h w ((Instr.field t v k >>= fun v => pure (Next.value v)).run P w) (rFld ti x k h) := by
  unfold rFld
  split
  rotate_left
  · trivial
  rename_i offs hk
  split
  rotate_left
  · trivial
  rename_i o s ho
  split
  rotate_left
  · trivial
  rename_i l
  obtain ⟨d, hd, _, _, hkd⟩ := hT.desc
  rw [hk] at hkd
  simp only at hkd
  obtain ⟨fs, rfl, hm, hnz⟩ := hkd
  rw [nthO_eq] at ho
  obtain ⟨f, hf, rfl, i, hi, rfl⟩ := places_get _ _ hm k o s ho
  have hs0 : i.size ≠ 0 := hnz _ (List.mem_of_getElem? ho)
  have hfag := hT.fag fs hd
  have hag : aggD P f.type = some (gtB ti.fag k) := by
    have := congrArg (fun l => l[k]?) hfag
    simp only [List.getElem?_map, hf, Option.map_some] at this
    cases hq : ti.fag[k]? with
    | none => rw [hq] at this; cases this
    | some b => rw [hq] at this; simp at this; rw [this, gtB_eq, List.getD, hq]; rfl
  obtain ⟨d', hd', hdb⟩ : ∃ d', P.underlying f.type = some d' ∧ gtB ti.fag k = (match d' with | .struct _ | .array _ _ => true | _ => false) := by
    unfold aggD at hag
    cases hu : P.underlying f.type with
    | none => rw [hu] at hag; cases hag
    | some d' => rw [hu] at hag; simp at hag; exact ⟨d', rfl, hag.symm⟩
  obtain ⟨us, rfl, h1, hden⟩ : ∃ us : Array Value, v = .agg us ∧ (∀ (i : Nat) (u : Value), us[i]? = some u → u.oneCell' = true) ∧ DenA E w l us := by
    cases hx with | agg vs hs h1 hd => exact ⟨vs, rfl, h1, hs, hd⟩
  rw [lenS_eq]
  have hf' : fs[k]? = some f := by simpa using hf
  refine fun hle => ?_
  have hle' : f.offset + i.size ≤ us.size := by rw [hden.1]; exact hle
  cases hb : gtB ti.fag k with
  | true =>
    rw [hb] at hdb
    have hA : (isAgg f.type).run P w = .ok true w := by
      unfold isAgg
      cases d' <;> simp at hdb <;> simp [run_underlying hd']
    have hS : (sizeOf f.type).run P w = .ok i.size w := by simp [sizeOf, typeInfo, hi]
    refine ⟨.agg (us.extract f.offset (f.offset + i.size)), w, E, ?_, ?_, hr, Ext.refl E w⟩
    · simp [Instr.field, run_underlying hd, hf', part, asAgg, hA, hS]
    · obtain ⟨q1, q2⟩ := hden.sub f.offset i.size hle
      refine .agg _ q1 (fun j u hu => ?_) q2
      rw [Array.getElem?_extract] at hu
      split at hu
      · exact h1 _ u hu
      · cases hu
  | false =>
    rw [hb] at hdb
    have hA : (isAgg f.type).run P w = .ok false w := by
      unfold isAgg
      cases d' <;> simp at hdb <;> simp [run_underlying hd']
    have hlt : f.offset < us.size := by omega
    refine ⟨us[f.offset], w, E, ?_, ?_, hr, Ext.refl E w⟩
    · simp [Instr.field, run_underlying hd, hf', part, asAgg, hA, Array.getElem?_eq_getElem hlt]
    · have := hden.nth f.offset
      simpa [hlt] using this
end Go.Eng
end

/- Ranges over maps. -/
section
namespace Go.Eng
open Go.RowKit
set_option linter.unusedVariables false

def nthM : List (List Int × List Int) → Nat → List Int × List Int
  | [], _ => ([], [])
  | x :: _, 0 => x
  | _ :: l, n + 1 => nthM l n
theorem nthM_get : ∀ {l : List (List Int × List Int)} {i : Nat}, i < l.length → l[i]? = some (nthM l i)
  | [], i, h => by simp at h
  | x :: l, 0, _ => rfl
  | x :: l, i + 1, h => by simp only [nthM, List.getElem?_cons_succ]; exact nthM_get (by simpa using h)
def entS (m : MapS) (i : Nat) : List SV := [valS m.ka m.ks (nthM m.es i).1, valS m.va m.vs (nthM m.es i).2]
def itS (x : Nat × Nat × List Nat) : MapS := ⟨0, 0, false, [], false, [], [], some x⟩
def rRangeM (nm : Nat) (h : HS) : Blk → Res
  | .mp ⟨_, _, _, _, _, _, es, none⟩ => .val True (.ptr (lenB h.blks) 0) { h with blks := snocB h.blks (.mp (itS (nm, lenM es, []))) }
  | _ => .bad
def rRange (ti : TI) (x : SV) (h : HS) : Res :=
  match ti.kind, x with
  | .map _ _, .mapp nm => rRangeM nm h (getB h.blks nm)
  | _, _ => .bad
def rNextM (nm mnm since : Nat) (seen : List Nat) (h : HS) : Blk → Res
  | .mp ⟨kty, vty, ka, ks, va, vs, es, none⟩ => .pick (since = lenM es) since (fun i => !seen.contains i) (fun i => .tup (.bool true :: entS ⟨kty, vty, ka, ks, va, vs, es, none⟩ i)) (fun i => { h with blks := setB h.blks nm (.mp (itS (mnm, since, i :: seen))) }) (.tup [.bool false]) h
  | _ => .bad
def rNextI (nm : Nat) (h : HS) : Blk → Res
  | .mp ⟨0, 0, false, [], false, [], [], some (mnm, since, seen)⟩ => rNextM nm mnm since seen h (getB h.blks mnm)
  | _ => .bad
def rNext (x : SV) (h : HS) : Res :=
  match x with
  | .ptr nm 0 => rNextI nm h (getB h.blks nm)
  | _ => .bad
def rEntM (i since : Nat) (h : HS) : Blk → Res
  | .mp ⟨kty, vty, ka, ks, va, vs, es, none⟩ => .val (since = lenM es ∧ i < since) (.tup (entS ⟨kty, vty, ka, ks, va, vs, es, none⟩ i)) h
  | _ => .bad
def rEntI (h : HS) : Blk → Res
  | .mp ⟨_, _, _, _, _, _, _, some (mnm, since, i :: _)⟩ => rEntM i since h (getB h.blks mnm)
  | _ => .bad
def rEntry (x : SV) (h : HS) : Res :=
  match x with
  | .ptr nm 0 => rEntI h (getB h.blks nm)
  | _ => .bad

theorem mp_none {E : Env} {h : HS} {w : World} (hr : RelH E h w) {nm : Nat} {m : MapS} (hb : getB h.blks nm = .mp m) (hi : m.it = none) : MpIn w (E.rho nm) m := by
  have := (hr.mp _ _ hb).2
  rw [hi] at this
  exact this
theorem mp_some {E : Env} {h : HS} {w : World} (hr : RelH E h w) {nm : Nat} {m : MapS} (hb : getB h.blks nm = .mp m) {a b : Nat} {c : List Nat} (hi : m.it = some (a, b, c)) : w.heap[E.rho nm]? = some (.mapIter (some (E.rho a)) b c.reverse.toArray b) ∧ a < E.nb := by
  have := (hr.mp _ _ hb).2
  rw [hi] at this
  exact this

theorem rRange_ok {P : Program} {E : Env} {h : HS} {w : World} (hr : RelH E h w) {t : TypeId} {ti : TI} (hT : TIOk P t ti) {x : SV} {v : Value} (hx : Den E w x v) :
    ResOk P E h w ((Instr.range t v >>= fun v => pure (Next.value v)).run P w) (rRange ti x h) := by
  unfold rRange
  split
  rotate_left
  · trivial
  rename_i kt vt nm hk
  unfold rRangeM
  split
  rotate_left
  · trivial
  rename_i kty vty ka ks va vs es hb
  obtain ⟨d, hd, _, _, hkd⟩ := hT.desc
  rw [hk] at hkd
  simp only at hkd
  subst hkd
  obtain ⟨es', h1, h3, h4, h5⟩ := mp_none hr hb rfl
  cases hx
  rename_i hnb
  intro _
  refine ⟨_, _, E.newB w.heap.size, by rw [Sem.run_bind, run_range_map w t kt vt _ es' es'.size hd h1]; rfl, ?_, hr.newMp _ _ ⟨by simp only [Env.newB, if_true], ?_⟩, ext_alloc hr.own _ _ rfl⟩
  · rw [← hr.nb]
    have : Den (E.newB w.heap.size) (w.alloc (.mapIter (some (E.rho nm)) es'.size #[] es'.size)) (.ptr E.nb 0) (.pointer (some ⟨(E.newB w.heap.size).rho E.nb, 0, none⟩)) := .ptr (by simp [Env.newB])
    simpa [Env.newB] using this
  · simp only [itS]
    refine ⟨?_, by simp only [Env.newB]; omega⟩
    have hne : nm ≠ E.nb := by omega
    simp only [Env.newB, if_true, hne, if_false]
    rw [heap_alloc_new]
    simp only [lenM_eq, h3]
    rfl

theorem ext_it {E : Env} {w w1 : World} {r : Nat} {nm : Nat} (ho : E.own r = some (.blk nm)) (hw : w1 = w ∨ w1 = w.drew) (o : Obj) : Ext E w E (Go.ChangeMaps.setBlock w1 r o) := by
  have hh : w1.heap = w.heap := by rcases hw with rfl | rfl <;> rfl
  have hne : ∀ b, E.own b ≠ E.own r → r ≠ b := fun b hb e => hb (by rw [e])
  have hget : ∀ b, r ≠ b → (Go.ChangeMaps.setBlock w1 r o).heap[b]? = w.heap[b]? := fun b hb => by
    show (w1.heap.setIfInBounds r o)[b]? = _
    rw [hh, Array.getElem?_setIfInBounds_ne hb]
  refine ⟨?_, ?_, ?_, ?_, Nat.le_refl _, Nat.le_refl _, fun _ _ => rfl, fun _ _ _ _ h => h, fun b hb h => ⟨h, hget b (hne b (by rw [h, ho]; intro e; cases e))⟩, fun b h => ⟨h, hget b (hne b (by rw [h, ho]; intro e; cases e))⟩⟩
  · rcases hw with rfl | rfl <;> rfl
  · rcases hw with rfl | rfl <;> rfl
  · rcases hw with rfl | rfl <;> rfl
  · show w.heap.size ≤ (w1.heap.setIfInBounds r o).size
    rw [Array.size_setIfInBounds, hh]
    exact Nat.le_refl _

theorem ent_den (E : Env) (w : World) {m : MapS} {es : Array MapEntry} (h3 : es.size = m.es.length) (h4 : ∀ (i : Nat) (e : MapEntry) (k v : List Int), es[i]? = some e → m.es[i]? = some (k, v) → e.key = valN m.ka m.ks k ∧ e.val = valN m.va m.vs v ∧ k.length = m.ks.length ∧ v.length = m.vs.length)
    {i : Nat} {e : MapEntry} (he : es[i]? = some e) : Den E w (valS m.ka m.ks (nthM m.es i).1) e.key ∧ Den E w (valS m.va m.vs (nthM m.es i).2) e.val := by
  have hi : i < m.es.length := by rw [← h3]; exact (Array.getElem?_eq_some_iff.1 he).1
  obtain ⟨a1, a2, _⟩ := h4 i e _ _ he (nthM_get hi)
  rw [a1, a2]
  exact ⟨valS_den E w _ _ _, valS_den E w _ _ _⟩

theorem rNext_ok {P : Program} {E : Env} {h : HS} {w : World} (hr : RelH E h w) {t : TypeId} {x : SV} {v : Value} (hx : Den E w x v) :
    ResOk P E h w ((Instr.next v false t >>= fun v => pure (Next.value v)).run P w) (rNext x h) := by
  unfold rNext
  split
  rotate_left
  · trivial
  rename_i nm
  unfold rNextI
  split
  rotate_left
  · trivial
  rename_i mnm since seen hb
  unfold rNextM
  split
  rotate_left
  · trivial
  rename_i kty vty ka ks va vs es hm
  cases hx
  obtain ⟨g1, g2⟩ := mp_some hr hb rfl
  obtain ⟨es', h1, h3, h4, h5⟩ := mp_none hr hm rfl
  have hown := (hr.mp _ _ hb).1
  intro hc
  rw [lenM_eq] at hc
  have hsz : es'.size = since := by rw [h3, hc]
  rw [hsz] at h1
  have hold : ∀ x ∈ es'.toList, x.born < since := fun x hx => by
    obtain ⟨i, hi⟩ := List.getElem?_of_mem hx
    rw [Array.getElem?_toList] at hi
    rw [h5 i x hi, ← hsz]
    exact (Array.getElem?_eq_some_iff.1 hi).1
  rcases run_next_at (P := P) w t (E.rho nm) (E.rho mnm) since since seen.reverse.toArray es' since g1 h1 hold (Nat.le_refl _) with ⟨q1, q2⟩ | ⟨e, q1, w1, q2, q3⟩
  · right
    refine ⟨fun i hi => ?_, _, w, E, by rw [Sem.run_bind, q2]; rfl, .tup _ (by simp) (fun i x u hx hu => ?_), hr, Ext.refl E w⟩
    · have hlt : i < es'.size := by omega
      have hnot : es'[i] ∉ leftOf es' seen.reverse.toArray := fun hmem => by
        have : leftOf es' seen.reverse.toArray = #[] := Array.eq_empty_of_size_eq_zero q1
        rw [this] at hmem
        simp at hmem
      unfold leftOf at hnot
      rw [Array.mem_filter] at hnot
      have hbn := h5 i _ (Array.getElem?_eq_getElem hlt)
      rw [hbn] at hnot
      simp at hnot ⊢
      exact hnot
    · cases i with
      | zero => simp at hx hu; subst hx hu; exact .bool _
      | succ i => simp at hx
  · left
    unfold leftOf at q1
    rw [← Array.mem_def, Array.mem_filter] at q1
    obtain ⟨i, hi⟩ := Array.getElem?_of_mem q1.1
    have hbn := h5 i e hi
    have hlt : i < es'.size := (Array.getElem?_eq_some_iff.1 hi).1
    have hx := ext_it hown q2 (.mapIter (some (E.rho mnm)) since (seen.reverse.toArray.push e.born) since)
    have hh : w1.heap = w.heap := by rcases q2 with rfl | rfl <;> rfl
    have hltr : E.rho nm < w.heap.size := (Array.getElem?_eq_some_iff.1 g1).1
    have hset := hr.setMap hb (itS (mnm, since, i :: seen)) hx (by show (w1.heap.setIfInBounds _ _).size = _; rw [Array.size_setIfInBounds, hh]) (fun b hb => by show (w1.heap.setIfInBounds _ _)[b]? = _; rw [hh, Array.getElem?_setIfInBounds_ne (Ne.symm hb)]) ⟨hown, by
      simp only [itS]
      refine ⟨?_, g2⟩
      show (w1.heap.setIfInBounds _ _)[_]? = _
      rw [hh, Array.getElem?_setIfInBounds_self_of_lt hltr, hbn]
      simp⟩
    refine ⟨i, _, _, E, by omega, ?_, by rw [Sem.run_bind, q3]; rfl, ?_, hset, hx⟩
    · rw [hbn] at q1
      simpa using q1.2
    · obtain ⟨d1, d2⟩ := ent_den E (Go.ChangeMaps.setBlock w1 (E.rho nm) (.mapIter (some (E.rho mnm)) since (seen.reverse.toArray.push e.born) since)) (m := ⟨kty, vty, ka, ks, va, vs, es, none⟩) h3 h4 hi
      refine .tup _ (by simp [entS]) (fun j x u hx hu => ?_)
      match j with
      | 0 => simp [entS] at hx hu; subst hx hu; exact .bool _
      | 1 => simp [entS] at hx hu; subst hx hu; exact d1
      | 2 => simp [entS] at hx hu; subst hx hu; exact d2
      | j + 3 => simp [entS] at hx

theorem rEntry_ok {P : Program} {E : Env} {h : HS} {w : World} (hr : RelH E h w) {x : SV} {v : Value} (hx : Den E w x v) :
    ResOk P E h w ((Instr.entry v >>= fun v => pure (Next.value v)).run P w) (rEntry x h) := by
  unfold rEntry
  split
  rotate_left
  · trivial
  rename_i nm
  unfold rEntI
  split
  rotate_left
  · trivial
  rename_i mnm since i seen hb
  unfold rEntM
  split
  rotate_left
  · trivial
  rename_i kty vty ka ks va vs es hm
  cases hx
  obtain ⟨g1, g2⟩ := mp_some hr hb rfl
  obtain ⟨es', h1, h3, h4, h5⟩ := mp_none hr hm rfl
  rintro ⟨hc, hi⟩
  rw [lenM_eq] at hc
  have hsz : es'.size = since := by rw [h3, hc]
  rw [hsz] at h1
  have hlt : i < es'.size := by omega
  have hei : es'[i]? = some es'[i] := Array.getElem?_eq_getElem hlt
  have hbn := h5 i _ hei
  have hnd : (es'.toList.map (·.born)).Nodup := by
    have : es'.toList.map (·.born) = List.range es'.size := by
      apply List.ext_getElem?
      intro j
      rw [List.getElem?_map, Array.getElem?_toList]
      by_cases hj : j < es'.size
      · rw [Array.getElem?_eq_getElem hj, List.getElem?_range hj]
        simp [h5 j _ (Array.getElem?_eq_getElem hj)]
      · rw [Array.getElem?_eq_none (by omega), List.getElem?_eq_none (by simp; omega)]
        rfl
    rw [this]
    exact List.nodup_range
  have hrun := run_entry_at (P := P) w (E.rho nm) (E.rho mnm) since seen.reverse.toArray es' since es'[i] (by rw [g1, hbn]; simp) h1 (by simp) hnd
  obtain ⟨d1, d2⟩ := ent_den E w (m := ⟨kty, vty, ka, ks, va, vs, es, none⟩) h3 h4 hei
  refine ⟨_, w, E, by rw [Sem.run_bind, hrun]; rfl, .tup _ (by simp [entS]) (fun j x u hx hu => ?_), hr, Ext.refl E w⟩
  match j with
  | 0 => simp [entS] at hx hu; subst hx hu; exact d1
  | 1 => simp [entS] at hx hu; subst hx hu; exact d2
  | j + 2 => simp [entS] at hx
end Go.Eng
end

/- Strings: their bytes, and out of bytes. -/
section
namespace Go.Eng
open Go.RowKit
set_option linter.unusedVariables false
def iv0 : SV → Int
  | .int _ x => x
  | _ => 0
def bytesOf (n : Nat) (f : Nat → Int) : ByteArray := ((List.range n).map f).foldl (fun r n => r.push (UInt8.ofNat n.toNat)) ByteArray.empty
def strAt (s : ByteArray) (i : Nat) : Int := match s[i]? with
  | some b => (b.toNat : Int)
  | none => 0
def rIdxS (x idx : SV) (h : HS) : Res :=
  match x with
  | .str s => match idx with
    | .int _ i => .val (0 ≤ i ∧ i < (s.size : Int)) (.int .u8 (strAt s i.toNat)) h
    | _ => .bad
  | _ => .bad
theorem rIdxS_ok {P : Program} {E : Env} {h : HS} {w : World} (hr : RelH E h w) {t : TypeId} (hd : P.underlying t = some .string) {x y : SV} {v u : Value} (hx : Den E w x v) (hy : Den E w y u) :
    ResOk P E h w ((Instr.index t v u >>= fun v => pure (Next.value v)).run P w) (rIdxS x y h) := by
  unfold rIdxS
  split
  · rename_i s
    split
    · rename_i k i
      cases hx; cases hy
      refine ResOk.pure hr (fun hp => ?_) (.int _ _)
      obtain ⟨h1, h2⟩ := hp
      have h3 : i.toNat < s.size := by omega
      have h4 : s[i.toNat]? = some s[i.toNat] := by simp [h3]
      simp [Instr.index, run_underlying hd, asIntOf, h1, h4, strAt]
    · trivial
  · trivial
/-- Foreign bytes; what they are does not lie in memory. -/
def rConvB (x : SV) (h : HS) : Res := match x with
  | .row m sz g => .val (sz = 1 ∧ ∀ i, i < m → g i 0 = .int .u8 (iv0 (g i 0))) (.str (bytesOf m (fun i => iv0 (g i 0)))) h
  | _ => .bad
theorem rConvB_ok {P : Program} {E : Env} {h : HS} {w : World} (hr : RelH E h w) {src dst e : TypeId} (hs : P.underlying src = some (.slice e)) (he : P.underlying e = some (.int .u8)) (hd : P.underlying dst = some .string) {x : SV} {v : Value} (hx : Den E w x v) :
    ResOk P E h w ((convert src dst v >>= fun v => pure (Next.value v)).run P w) (rConvB x h) := by
  unfold rConvB
  split
  · rename_i m sz g
    have key : (sz = 1 ∧ ∀ i, i < m → g i 0 = .int .u8 (iv0 (g i 0))) → (convert src dst v).run P w = .ok (.string (bytesOf m (fun i => iv0 (g i 0)))) w := by
      rintro ⟨rfl, hg⟩
      rcases srcOf_ok hr hx (p := True) (m := m) (sz := 1) (g := g) rfl trivial Nat.one_pos with ⟨A, c, rfl, news, h1, h2, h3, h4⟩ | ⟨rfl, a', c, rfl⟩
      · have hnews : news = (((List.range m).map (fun i => iv0 (g i 0))).map (Value.int .u8)) := by
          refine List.ext_getElem (by simp [h1]) fun k hk1 hk2 => ?_
          have hk : k < m := by omega
          have := h4 k 0 news[k] hk Nat.one_pos (by simp [hk1])
          rw [hg k hk] at this
          simp only [List.getElem_map, List.getElem_range]
          generalize news[k] = u at this
          cases this
          rfl
        rw [run_convert_bytes_string w src dst e _ _ _ hs he hd, run_bytesToString w A m c ((List.range m).map (fun i => iv0 (g i 0)))]
        · rfl
        · rw [← hnews, show m = news.length by omega]
          exact run_loadCells_list _ A news (fun j v hj => h2 j v hj)
      · rw [run_convert_bytes_string w src dst e _ _ _ hs he hd]
        cases a' with
        | none => simp [Conv.bytesToString, bytesOf]
        | some A =>
          rw [run_bytesToString w A 0 c []]
          · simp [bytesOf]
          · exact run_loadCells_list _ A [] (fun j v hj => by simp at hj)
    exact ResOk.pure hr (fun hp => by simp [key hp]) (.str _)
  · trivial
end Go.Eng
end

/- The result of one operation. -/
section
namespace Go.Eng
open Go.RowKit
set_option linter.unusedVariables false

def evL (t : List SV) : List Operand → List SV
  | [] => []
  | x :: l => ev t x :: evL t l
def catS : List SV → List SV → List SV
  | [], l => l
  | x :: k, l => x :: catS k l
theorem catS_eq (k l : List SV) : catS k l = k ++ l := by induction k <;> simp [catS, *]
theorem evL_eq (t : List SV) (l : List Operand) : evL t l = l.map (ev t) := by induction l <;> simp [evL, *]
theorem evL_den {E : Env} {w : World} {t : List SV} {a : Act} (h : DenA E w t a.tmps) (xs : Array Operand) : DenA E w (evL t xs.toList) (xs.map a.eval) := by
  refine ⟨by simp [evL_eq], fun i x u hx hu => ?_⟩
  rw [evL_eq, List.getElem?_map, Array.getElem?_toList] at hx
  rw [Array.getElem?_map] at hu
  cases ho : xs[i]? with
  | none => simp [ho] at hx
  | some o => simp [ho] at hx hu; subst hx hu; exact ev_den h o
theorem DenA.cat {E : Env} {w : World} {l k : List SV} {vs us : Array Value} (h1 : DenA E w l vs) (h2 : DenA E w k us) : DenA E w (catS l k) (vs ++ us) := by
  refine ⟨by simp [catS_eq, h1.1, h2.1], fun i x u hx hu => ?_⟩
  have hs := h1.1
  rw [catS_eq] at hx
  by_cases hi : i < l.length
  · rw [List.getElem?_append_left hi] at hx
    rw [Array.getElem?_append_left (by omega)] at hu
    exact h1.2 i x u hx hu
  · rw [List.getElem?_append_right (by omega)] at hx
    rw [Array.getElem?_append_right (by omega)] at hu
    exact h2.2 _ x u hx (by rw [← hs]; exact hu)

def pk : Bool → SV → SV → SV
  | true, a, _ => a
  | false, _, b => b

section
variable (T : Nat → Option TI) (F : Nat → Bool) (t : List SV) (h : HS)
def rMove (ty : TypeId) (x : Operand) : Res :=
  match x with
  | .const (.slice none 0 0) => match T ty with
    | some { kind := .slice e, .. } => match T e with
      | some te => .val (0 < te.size) (.vec (lenV h.vecs) 0) { h with vecs := snocV h.vecs (.live 0 e te.size 0 (fun _ _ => .any)) }
      | none => .bad
    | _ => .val True (ev t x) h
  | _ => .val True (ev t x) h
def rPick (c a b : SV) : Res :=
  match c with
  | .bool q => .val True (pk q a b) h
  | _ => .bad
def rNil (x : SV) : Res :=
  match x with
  | .ptr a b => .val True (.ptr a b) h
  | .rptr a b => .val True (.rptr a b) h
  | .vptr a b c d e => .val True (.vptr a b c d e) h
  | .func g caps => .val True (.func g caps) h
  | _ => .bad
def zipPut : List SV → List Nat → List SV → List SV
  | t, p :: ps, a :: l => zipPut (upd t p a) ps l
  | t, _, _ => t
def rCall (f : SV) (args : List SV) : Res :=
  match f with
  | .func g caps => if F g then .call g (catS args caps) else .bad
  | .yield nm => match getB h.blks nm with
    | .loop _ _ fid t params assign body => if lenS args = params.toList.length then .round nm fid (zipPut t params.toList args) assign body else .bad
    | _ => .bad
  | .meth g first => if F g then .call g (catS first args) else .bad
  | _ => .bad
/-- A last argument that is a nil slice of slices. -/
def nilE (x : Operand) (ty : TypeId) : Option (TypeId × Nat) :=
  match isNilSl x with
  | false => none
  | true => match T ty with
    | some { kind := .slice e, .. } => match T e with
      | some { kind := .slice _, size := sz, .. } => some (e, sz)
      | _ => none
    | _ => none
def lastN : List Operand → List TypeId → Option (TypeId × Nat)
  | [x], [ty] => nilE T x ty
  | _ :: xs, _ :: tys => lastN xs tys
  | _, _ => none
/-- A nil slice of structs, handed over. -/
def nilT (o : Option TI) : Option (TypeId × Nat) :=
  match o with
  | some ti => match ti.kind with
    | .slice e => match T e with
      | some te => if te.agg = true ∧ 2 ≤ te.size then some (e, te.size) else none
      | none => none
    | _ => none
  | none => none
def nilA (n : Option (TypeId × Nat)) (x : SV) : SV :=
  match n with
  | some (e, sz) => .nils e sz
  | none => x
def ev1 (b : Bool) (x : Operand) (ty : TypeId) : SV :=
  match b with
  | true => nilA (nilT T (T ty)) (ev t x)
  | false => ev t x
def evA : List Operand → List TypeId → List SV
  | [], _ => []
  | x :: xs, [] => ev t x :: evL t xs
  | x :: xs, ty :: tys => ev1 T t (isNilSl x) x ty :: evA xs tys
def argsN (n : Option (TypeId × Nat)) (xs : List Operand) (tys : List TypeId) : List SV :=
  match n with
  | some _ => evL t xs
  | none => evA T t xs tys
def putLast : List SV → SV → List SV
  | [], _ => []
  | [_], v => [v]
  | x :: y :: l, v => x :: putLast (y :: l) v
def rCallN (n : Option (TypeId × Nat)) (f : SV) (args : List SV) : Res :=
  match n with
  | none => rCall F h f args
  | some (e, sz) => match f with
    | .func g [] => if F g then .callN (0 < sz) g (putLast args (.vec (lenV h.vecs) 0)) { h with vecs := snocV h.vecs (.live 0 e sz 0 (fun _ _ => .any)) } else .bad
    | _ => .bad
def rFunc (fn : Fn) (first : List SV) (caps : List SV) : Res :=
  match fn, first with
  | .func g, [] => .val True (.func g caps) h
  | .func g, x :: l => match caps with
    | [] => .val True (.meth g first) h
    | _ => .bad
  | _, _ => .bad
def rBuiltin (b : Builtin) (tys : List TypeId) (args : List SV) : Res :=
  match b, tys, args with
  | .len, [ty], [x] => match T ty with
    | some ti => rLen ti h x
    | none => .bad
  | .append, [ty, ty'], [s, x] => if ty = ty' then match T ty with
      | some { kind := .slice e, .. } => match T e with
        | some te => rAppend e te s x h
        | none => .bad
      | _ => .bad
    else .bad
  | .clear, [ty], [x] => match T ty with
    | some { kind := .slice e, .. } => match T e with
      | some te => rClear te x h
      | none => .bad
    | _ => .bad
  | .copy, [ty, ty'], [d, s] => match T ty with
    | some { kind := .slice e, .. } => match T e with
      | some te => rCopy te d s h
      | none => .bad
    | _ => .bad
  | .max, _, [x, y] => rMax x y h
  | .min, _, [x, y] => rMin x y h
  | _, _, _ => .bad
def rPanic (x : SV) : Res :=
  match x with
  | .iface ty v => .pan (.iface ty v)
  | _ => .bad
def evO : Option Operand → Option SV
  | some x => some (ev t x)
  | none => none
def rowSz (x : SV) : Nat := match x with
  | .row _ sz _ => sz
  | _ => 0

/-- A third bound asks for a second one. -/
def hiOk : Option Operand → Option Operand → Bool
  | some _, _ => true
  | none, none => true
  | none, some _ => false
def rSlR (te ti : TI) (n sz : Nat) (f : Nat → Nat → SV) (lo hi mx : Option SV) (h : HS) : Res :=
  match mx with
  | none => if te.size = sz then rSlice ti (.row n sz f) lo hi h else .bad
  | some _ => .bad
def rSlG (te : TI) (g : Bool) (x : SV) (lo hi mx : Option SV) (h : HS) : Res :=
  match g with
  | true => rSliceV te.size x lo hi mx h
  | false => .bad
def rSl (te ti : TI) (g : Bool) (x : SV) (lo hi mx : Option SV) (h : HS) : Res :=
  match x with
  | .row n sz f => rSlR te ti n sz f lo hi mx h
  | .vec id ver => rSlG te g (.vec id ver) lo hi mx h
  | .vcut id ver sz l n x => rSlG te g (.vcut id ver sz l n x) lo hi mx h
  | _ => .bad
def skipAnd (p : Prop) (r : Res) : Res := match r with
  | .skip q h => .skip (p ∧ q) h
  | _ => .bad
/-- Has a type slices? -/
def hasSl : List ZC → Bool
  | [] => false
  | .c _ :: l => hasSl l
  | .sl _ _ :: _ => true
def isN : SV → Option (Nat × Nat)
  | .nils e sz => some (e, sz)
  | _ => none
/-- Nil slices become own ones. -/
def ownN : List SV → HS → List SV × HS
  | [], h => ([], h)
  | x :: l, h => match isN x with
    | some (e, sz) => (.vec (lenV h.vecs) 0 :: (ownN l { h with vecs := snocV h.vecs (.live 0 e sz 0 (fun _ _ => .any)) }).1, (ownN l { h with vecs := snocV h.vecs (.live 0 e sz 0 (fun _ _ => .any)) }).2)
    | none => (x :: (ownN l h).1, (ownN l h).2)
def ownC (y : SV) (h : HS) : SV × HS := match y with
  | .agg l => (.agg (ownN l h).1, (ownN l h).2)
  | .nils e sz => (.vec (lenV h.vecs) 0, { h with vecs := snocV h.vecs (.live 0 e sz 0 (fun _ _ => .any)) })
  | y => (y, h)
/-- A part of an own slice, the whole of which is not asked for any more, is the slice from then on. -/
def rebV (id ver sz lo n : Nat) (x : Bool) (h : HS) : Vc → SV × HS
  | .live ver' ty sz' _ f => if ver = ver' ∧ sz = sz' then (.vec id (ver + 1), { h with vecs := setV h.vecs id (.live (ver + 1) ty sz' n (fun i j => f (lo + i) j)) }) else (.vcut id ver sz lo n x, h)
  | .dead => (.vcut id ver sz lo n x, h)
def ownS (y : SV) (h : HS) : SV × HS := match y with
  | .vcut id ver sz lo n x => rebV id ver sz lo n x h (getV h.vecs id)
  | y => ownC y h
def rStoreO (ti : TI) (x y : SV) (b : Bool) : Res := match b with
  | true => rStore ti (ownS y h).2 x (ownS y h).1
  | false => rStore ti h x y
def rBoxO (o : Option TI) (e : TypeId) (y : SV) : Res := match o with
  | some ti => match hasSl ti.zero with
    | true => rBox e (ownC y h).1 (ownC y h).2
    | false => rBox e y h
  | none => rBox e y h
/-- A store; a nil slice that is stored is an own one. -/
def rStoreN (ti : TI) (x : SV) (b : Bool) (y : SV) : Res :=
  match b with
  | false => rStoreO h ti x y (hasSl ti.zero)
  | true => match ti.kind with
    | .slice e => match T e with
      | some te => skipAnd (0 < te.size) (rStore ti { h with vecs := snocV h.vecs (.live 0 e te.size 0 (fun _ _ => .any)) } x (.vec (lenV h.vecs) 0))
      | none => .bad
    | _ => rStore ti h x y

def mMk2 (k v : Nat) (h : HS) : Option TI → Option TI → Res
  | some tk, some tv => rMakeMap k v tk tv h
  | _, _ => .bad
def mMk (h : HS) : Option TI → Res
  | some { kind := .map k v, .. } => mMk2 k v h (T k) (T v)
  | _ => .bad
def mLk2 (ok : Bool) (x y : SV) (h : HS) : Option TI → Option TI → Res
  | some tk, some tv => rLookup tk tv ok x y h
  | _, _ => .bad
def mLk (ok : Bool) (x y : SV) (h : HS) : Option TI → Res
  | some { kind := .map k v, .. } => mLk2 ok x y h (T k) (T v)
  | _ => .bad
def mUp2 (x y z : SV) (h : HS) : Option TI → Res
  | some tk => rUpdate tk x y z h
  | _ => .bad
def mUp (x y z : SV) (h : HS) : Option TI → Res
  | some { kind := .map k _, .. } => mUp2 x y z h (T k)
  | _ => .bad
def mFd (x : SV) (k : Nat) (h : HS) : Option TI → Res
  | some ti => rFld ti x k h
  | _ => .bad
def rInvG (F : Nat → Bool) (v : SV) (args : List SV) : Option Nat → Res
  | some g => if F g then .call g (v :: args) else .bad
  | none => .bad
def rInvT (F : Nat → Bool) (v : SV) (m : String) (args : List SV) : Option TI → Res
  | some ti => rInvG F v args (mtF ti.mt m)
  | none => .bad
def rInv (x : SV) (m : String) (args : List SV) : Res :=
  match x with
  | .iface ty v => rInvT F v m args (T ty)
  | _ => .bad
/-- Bytes to a string. -/
def cvU (x : SV) (h : HS) : Option TI → Res
  | some ti => match ti.kind with
    | .int .u8 => rConvB x h
    | _ => .bad
  | none => .bad
def rConvT (ts td : TI) (x : SV) (h : HS) : Res :=
  match td.kind with
  | .str => match ts.kind with
    | .slice e => cvU x h (T e)
    | _ => .bad
  | _ => rConv td x h
def opRes (o : Oper) : Res :=
  match o.op with
  | .move x => rMove T t h o.type x
  | .assign x => rMove T t h o.type x
  | .pick c a b => rPick h (ev t c) (ev t a) (ev t b)
  | .alloc e => match T e with
    | some ti => rAlloc ti e h
    | none => .bad
  | .box e x => rBoxO h (T e) e (ev t x)
  | .build ty ps => match T ty with
    | some ti => match ti.kind with
      | .array _ e => match T e with
        | some te => rBuild ti te.size (evP t ps.toList) h
        | none => .bad
      | _ => rBuild ti 0 (evP t ps.toList) h
    | none => .bad
  | .buildSlice ty len ps => match T ty with
    | some { kind := .slice e, .. } => match T e with
      | some te => rBuildSlice e te len (evP t ps.toList) h
      | none => .bad
    | _ => .bad
  | .load ty x => match T ty with
    | some ti => rLoad ti h (ev t x)
    | none => .bad
  | .store ty x y => match T ty with
    | some ti => rStoreN T h ti (ev t x) (isNilSl y) (ev t y)
    | none => .bad
  | .nilCheck x => rNil h (ev t x)
  | .binOp op ty x y _ => rBin3 (T ty) (isConst x || isConst y) op (isNilSl y) (ev t x) (ev t y) h
  | .unOp op _ x => rUn op (ev t x) h
  | .convert s d x => match T s, T d with
    | some ts, some td => rConvT T ts td (ev t x) h
    | _, _ => .bad
  | .makeInterface ty x => match T ty with
    | some ti => rIface ti ty (ev t x) h
    | none => .bad
  | .makeFunc fn first caps => rFunc h fn (evL t first.toList) (evL t caps.toList)
  | .makeSlice ty l c => match T ty with
    | some { kind := .slice e, .. } => match T e with
      | some te => rMake e te (ev t l) (ev t c) h
      | none => .bad
    | _ => .bad
  | .slice ty x lo hi mx => match T ty with
    | some ti => match ti.kind with
      | .slice e => match T e with
        | some te => rSl te ti (hiOk hi mx) (ev t x) (evO t lo) (evO t hi) (evO t mx) h
        | none => .bad
      | .array n e => match T e with
        | some te => rSlA n te (ev t x) (evO t lo) (evO t hi) (evO t mx) h
        | none => .bad
      | _ => .bad
    | none => .bad
  | .fieldAddr ty x k => match T ty with
    | some ti => rField ti h (ev t x) k
    | none => .bad
  | .indexAddr ty x y => match T ty with
    | some ti => match ti.kind with
      | .slice e => match T e with
        | some te => rIndex ti te.size h (ev t x) (ev t y)
        | none => .bad
      | .array _ e => match T e with
        | some te => rIndex ti te.size h (ev t x) (ev t y)
        | none => .bad
      | _ => .bad
    | none => .bad
  | .typeAssert x _ ty ok => match T ty with
    | some ti => rAssert ti ty (ev t x) ok h
    | none => .bad
  | .extract x k => rExtract (ev t x) k h
  | .call c => match c.callee with
    | .value f => rCallN F h (lastN T c.args.toList c.argTypes.toList) (ev t f) (argsN T t (lastN T c.args.toList c.argTypes.toList) c.args.toList c.argTypes.toList)
    | .builtin b => rBuiltin T h b c.argTypes.toList (evL t c.args.toList)
    | .invoke x m => rInv T F (ev t x) m (evL t c.args.toList)
  | .panic x => rPanic (ev t x)
  | .makeMap ty none => mMk T h (T ty)
  | .lookup ty x y ok => mLk T ok (ev t x) (ev t y) h (T ty)
  | .mapUpdate ty m k x => mUp T (ev t m) (ev t k) (ev t x) h (T ty)
  | .insert ty m k x => mUp T (ev t m) (ev t k) (ev t x) h (T ty)
  | .field ty x k => mFd (ev t x) k h (T ty)
  | .range ty x => match T ty with
    | some ti => rRange ti (ev t x) h
    | none => .bad
  | .next x false => rNext (ev t x) h
  | .entry x => rEntry (ev t x) h
  | .index ty x y => match T ty with
    | some ti => match ti.kind with
      | .array n e => match T e with
        | some te => rIdx n te (ev t x) (ev t y) h
        | none => .bad
      | .str => rIdxS (ev t x) (ev t y) h
      | _ => .bad
    | none => .bad
  | _ => .bad
end

def TOk (P : Program) (T : Nat → Option TI) : Prop := ∀ t ti, T t = some ti → TIOk P t ti
def FOk (P : Program) (F : Nat → Bool) : Prop := ∀ g, F g = true → ∀ args w, (callFunc g args).run P w = .ok (.enter g args) w

section
variable {P : Program} {T : Nat → Option TI} {F : Nat → Bool} {E : Env} {t : List SV} {h : HS} {w : World} {a : Act}

theorem nilT_ok {T : Nat → Option TI} {o : Option TI} {e sz : Nat} (h : nilT T o = some (e, sz)) : 0 < sz := by
  unfold nilT at h
  split at h
  · split at h
    · split at h
      · split at h
        · rename_i hc; cases h; omega
        · cases h
      · cases h
    · cases h
  · cases h
theorem evA_get {T : Nat → Option TI} {E : Env} {w : World} {t : List SV} {a : Act} (h : DenA E w t a.tmps) : ∀ (xs : List Operand) (tys : List TypeId), (evA T t xs tys).length = xs.length ∧ ∀ (i : Nat) (x : SV) (o : Operand), (evA T t xs tys)[i]? = some x → xs[i]? = some o → Den E w x (a.eval o)
  | [], tys => ⟨by simp [evA], fun i x o hx => by simp [evA] at hx⟩
  | y :: xs, [] => by
    refine ⟨by simp [evA, evL_eq], fun i x o hx ho => ?_⟩
    cases i with
    | zero => simp [evA] at hx ho; subst hx ho; exact ev_den h _
    | succ i =>
      simp only [evA, evL_eq, List.getElem?_cons_succ, List.getElem?_map] at hx ho
      rw [ho] at hx
      simp at hx
      subst hx
      exact ev_den h _
  | y :: xs, ty :: tys => by
    obtain ⟨h1, h2⟩ := evA_get (T := T) h xs tys
    refine ⟨by simp [evA, h1], fun i x o hx ho => ?_⟩
    cases i with
    | zero =>
      simp only [evA, List.getElem?_cons_zero, Option.some.injEq] at hx ho
      subst hx ho
      unfold ev1
      cases hn : isNilSl y with
      | false => exact ev_den h _
      | true =>
        simp only [nilA]
        split
        · rename_i e sz hs
          rw [isNilSl_eq hn]
          exact .nils (nilT_ok hs)
        · exact ev_den h _
    | succ i => exact h2 i x o (by simpa [evA] using hx) (by simpa using ho)
theorem evA_den {T : Nat → Option TI} {E : Env} {w : World} {t : List SV} {a : Act} (h : DenA E w t a.tmps) (xs : Array Operand) (tys : List TypeId) : DenA E w (evA T t xs.toList tys) (xs.map a.eval) := by
  obtain ⟨h1, h2⟩ := evA_get (T := T) h xs.toList tys
  refine ⟨by simp [h1], fun i x u hx hu => ?_⟩
  rw [Array.getElem?_map] at hu
  cases ho : xs[i]? with
  | none => simp [ho] at hu
  | some o => simp [ho] at hu; subst hu; exact h2 i x o hx (by simpa using ho)
theorem lastN_last {T : Nat → Option TI} : ∀ {xs : List Operand} {tys : List TypeId} {r : TypeId × Nat}, lastN T xs tys = some r → ∃ ys, xs = ys ++ [Operand.const (.slice none 0 0)]
  | [], _, _, h => by simp [lastN] at h
  | [x], [], _, h => by simp [lastN] at h
  | [x], [ty], r, h => by
    simp only [lastN, nilE] at h
    cases hn : isNilSl x with
    | false => rw [hn] at h; cases h
    | true => exact ⟨[], by rw [isNilSl_eq hn]; rfl⟩
  | [x], ty :: ty' :: tys, r, h => by simp [lastN] at h
  | x :: y :: xs, [], _, h => by simp [lastN] at h
  | x :: y :: xs, ty :: tys, r, h => by
    simp only [lastN] at h
    obtain ⟨ys, hy⟩ := lastN_last h
    exact ⟨x :: ys, by rw [hy]; rfl⟩
theorem putLast_app (v : SV) : ∀ (l : List SV) (x : SV), putLast (l ++ [x]) v = l ++ [v]
  | [], _ => rfl
  | [a], _ => rfl
  | a :: b :: l, x => by
    have := putLast_app v (b :: l) x
    simp only [List.cons_append] at this ⊢
    simp only [putLast, this]
theorem evL_app (t : List SV) : ∀ (xs ys : List Operand), evL t (xs ++ ys) = evL t xs ++ evL t ys
  | [], _ => rfl
  | x :: xs, ys => by simp only [List.cons_append, evL, evL_app t xs ys]
theorem putLast_den {T : Nat → Option TI} {E : Env} {w : World} {t : List SV} {a : Act} {h : HS} {xs : Array Operand} {tys : List TypeId} {r : TypeId × Nat} (hd : DenA E w (evL t xs.toList) (xs.map a.eval)) (hr : RelH E h w) (hn : lastN T xs.toList tys = some r) :
    DenA E.newV w (putLast (evL t xs.toList) (.vec (lenV h.vecs) 0)) (xs.map a.eval) := by
  obtain ⟨ys, hy⟩ := lastN_last hn
  have hxs : xs = (ys ++ [Operand.const (.slice none 0 0)]).toArray := by rw [← hy]
  subst hxs
  simp only [evL_app, evL, putLast_app] at hd ⊢
  refine ⟨by have := hd.1; simpa using this, fun i x u hx hu => ?_⟩
  rcases Nat.lt_or_ge i (evL t ys).length with hi | hi
  · rw [List.getElem?_append_left hi] at hx
    exact (hd.2 i x u (by rw [List.getElem?_append_left hi]; exact hx) hu).ext (ext_newV E w)
  · rw [List.getElem?_append_right hi] at hx
    have hl : (evL t ys).length = ys.length := by
      clear hd hu hy hn hx hi
      induction ys with
      | nil => rfl
      | cons y ys ih => simp only [evL, List.length_cons, ih]
    have h0 : i - (evL t ys).length = 0 := by
      rcases Nat.eq_zero_or_pos (i - (evL t ys).length) with h | h
      · exact h
      · rw [List.getElem?_eq_none (by simp; omega)] at hx; cases hx
    rw [h0] at hx
    simp only [List.getElem?_cons_zero, Option.some.injEq] at hx
    subst hx
    have hil : i = ys.length := by omega
    subst hil
    have hu' : u = .slice none 0 0 := by
      simp [Act.eval] at hu
      exact hu.symm
    subst hu'
    exact .vec (by simp only [Env.newV, hr.nv]; omega) (by simp [Env.newV, hr.nv])

theorem rMove_ok (hT : TOk P T) (ht : DenA E w t a.tmps) (hr : RelH E h w) (ty : TypeId) (x : Operand) : ResOk P E h w (.ok (.value (a.eval x)) w) (rMove T t h ty x) := by
  have dflt : ResOk P E h w (.ok (.value (a.eval x)) w) (.val True (ev t x) h) := ResOk.pure hr (fun _ => rfl) (ev_den ht x)
  unfold rMove
  split
  · split
    · rename_i e _ _ _ _ _ _ _ _ _
      split
      · rename_i te hte
        intro hsz
        exact ⟨_, w, E.newV, rfl, .vec (by simp only [Env.newV, hr.nv]; omega) (by simp [Env.newV, hr.nv]), hr.newVec e te.size hsz _, ext_newV E w⟩
      · trivial
    · exact dflt
  · exact dflt

theorem ownN_ok {w : World} : ∀ (l : List SV) (us : List Value) (E : Env) (h : HS), RelH E h w → l.length = us.length → (∀ (k : Nat) (x : SV) (u : Value), l[k]? = some x → us[k]? = some u → Den E w x u) →
    ∃ E', RelH E' (ownN l h).2 w ∧ Ext E w E' w ∧ (ownN l h).1.length = us.length ∧ (∀ (k : Nat) (x : SV) (u : Value), (ownN l h).1[k]? = some x → us[k]? = some u → Den E' w x u)
  | [], us, E, h, hr, hl, hd => ⟨E, hr, Ext.refl E w, by simpa [ownN] using hl, fun k x u hx => by simp [ownN] at hx⟩
  | x :: l, [], E, h, hr, hl, hd => by simp at hl
  | x :: l, u :: us, E, h, hr, hl, hd => by
    simp only [ownN]
    cases hx : isN x with
    | none =>
      obtain ⟨E', h1, h2, h3, h4⟩ := ownN_ok l us E h hr (by simpa using hl) (fun k y v hy hv => hd (k + 1) y v (by simpa using hy) (by simpa using hv))
      refine ⟨E', h1, h2, by simp [h3], fun k y v hy hv => ?_⟩
      cases k with
      | zero => simp at hy hv; subst hy hv; exact (hd 0 _ _ rfl rfl).ext h2
      | succ k => simp at hy hv; exact h4 k y v hy hv
    | some p =>
      obtain ⟨e, sz⟩ := p
      obtain rfl : x = .nils e sz := by cases x <;> simp [isN] at hx; obtain ⟨rfl, rfl⟩ := hx; rfl
      have h0 := hd 0 _ _ rfl rfl
      cases h0
      rename_i hsz
      have hn := hr.newVec e sz hsz (fun _ _ => .any)
      have hx1 := ext_newV E w
      obtain ⟨E', h1, h2, h3, h4⟩ := ownN_ok l us E.newV _ hn (by simpa using hl) (fun k y v hy hv => (hd (k + 1) y v (by simpa using hy) (by simpa using hv)).ext hx1)
      refine ⟨E', h1, hx1.trans h2, by simp [h3], fun k y v hy hv => ?_⟩
      cases k with
      | zero =>
        simp at hy hv
        subst hy hv
        have : Den E.newV w (.vec (lenV h.vecs) 0) (.slice none 0 0) := .vec (by simp only [Env.newV, hr.nv]; omega) (by simp [Env.newV, hr.nv])
        exact this.ext h2
      | succ k => simp at hy hv; exact h4 k y v hy hv
theorem ownC_ok (hr : RelH E h w) {y : SV} {v : Value} (hy : Den E w y v) : ∃ E', RelH E' (ownC y h).2 w ∧ Ext E w E' w ∧ Den E' w (ownC y h).1 v := by
  unfold ownC
  split
  · rename_i l
    cases hy
    rename_i vs h1 hs hd
    obtain ⟨E', g1, g2, g3, g4⟩ := ownN_ok l vs.toList E h hr (by simpa using hs.symm) (fun k x u hx hu => hd k x u hx (by simpa using hu))
    exact ⟨E', g1, g2, .agg vs (by simpa using g3.symm) h1 (fun i x u hx hu => g4 i x u hx (by simpa using hu))⟩
  · rename_i e sz
    cases hy
    rename_i hsz
    exact ⟨E.newV, hr.newVec e sz hsz _, ext_newV E w, .vec (by simp only [Env.newV, hr.nv]; omega) (by simp [Env.newV, hr.nv])⟩
  · exact ⟨E, hr, Ext.refl E w, hy⟩
theorem reb_ok {E : Env} {h : HS} {w : World} (hr : RelH E h w) {id ver : Nat} {ty : TypeId} {sz N : Nat} {f : Nat → Nat → SV} (hv : getV h.vecs id = .live ver ty sz N f) {lo n : Nat} {x : Bool} {v : Value} (hy : Den E w (.vcut id ver sz lo n x) v) :
    ∃ E', RelH E' { h with vecs := setV h.vecs id (.live (ver + 1) ty sz n (fun i j => f (lo + i) j)) } w ∧ Ext E w E' w ∧ Den E' w (.vec id (ver + 1)) v := by
  obtain ⟨a, a', N', cap, rfl, hid, hval, hn, hc, ha, h0, hA, hB⟩ := hy.vcut_inv
  obtain ⟨hsz, ⟨a2, cap2, k1, k2⟩, k3⟩ := hr.vec _ _ _ _ _ _ hv
  have hval' := hval
  rw [k1] at hval
  simp only [Option.some.injEq, Prod.mk.injEq] at hval
  obtain ⟨rfl, rfl, rfl⟩ := hval
  have hxx := bump_ext hr hv (Ext.refl E w) (a', n, (if x then lo + n else cap2) - lo)
  refine ⟨E.bump id (ver + 1) (a', n, (if x then lo + n else cap2) - lo), ?_, hxx, .vec (by simp only [Env.bump]; exact hid) (by simp [Env.bump])⟩
  refine hr.moved hv hxx rfl rfl rfl (fun i v hi => by simp [Env.bump, hi]) (fun b t hb _ => ⟨rfl, rfl⟩) hr.own (a := a') (cap := (if x then lo + n else cap2) - lo) (by simp [Env.bump]) ?_ (bump_none k3)
  by_cases hM : (if x then lo + n else cap2) = lo
  · refine .inl ⟨hB, ?_, by rw [hM]; exact Nat.sub_self lo⟩
    cases x <;> simp at hM <;> omega
  · have hle1 : lo + n ≤ (if x then lo + n else cap2) := by cases x <;> simp <;> omega
    have hle2 : (if x then lo + n else cap2) ≤ cap2 := by cases x <;> simp <;> omega
    rcases k2 with ⟨_, h1, h2⟩ | ⟨g1, o, cur, h1, h2, h3, h4, h5, h6, h7, h8⟩
    · omega
    · subst h1
      have ha' := ha hM
      simp only [Option.map_some, Addr.add_lit] at ha'
      subst ha'
      generalize (if x then lo + n else cap2) = M at hM hle1 hle2 hxx ⊢
      have e1 : lo * sz + (M - lo) * sz ≤ cap2 * sz := by
        rw [← Nat.add_mul, Nat.add_sub_cancel' (by omega)]; exact Nat.mul_le_mul_right _ hle2
      have e2 : lo * sz + n * sz ≤ N * sz := by rw [← Nat.add_mul]; exact Nat.mul_le_mul_right _ hn
      refine .inr ⟨g1, o + lo * sz, cur, rfl, by omega, by omega, h4, by omega, h6, fun k u hk hu => h7 (lo * sz + k) u (by omega) (by rw [← Nat.add_assoc]; exact hu), fun i j u hi hj hu => (h8 (lo + i) j u (by omega) hj ?_).ext hxx⟩
      rw [show o + ((lo + i) * sz + j) = o + lo * sz + (i * sz + j) by rw [Nat.add_mul]; omega]
      exact hu
theorem ownS_ok (hr : RelH E h w) {y : SV} {v : Value} (hy : Den E w y v) : ∃ E', RelH E' (ownS y h).2 w ∧ Ext E w E' w ∧ Den E' w (ownS y h).1 v := by
  unfold ownS
  split
  · rename_i id ver sz lo n x
    unfold rebV
    split
    · rename_i ver' ty sz' N f hv
      split
      · rename_i hc
        obtain ⟨rfl, rfl⟩ := hc
        exact reb_ok hr hv hy
      · exact ⟨E, hr, Ext.refl E w, hy⟩
    · exact ⟨E, hr, Ext.refl E w, hy⟩
  · exact ownC_ok hr hy
theorem ResOk.pre {E' : Env} {h' : HS} {r : Result Next} (hx : Ext E w E' w) {res : Res} (hk : match res with | .val _ _ _ => True | .skip _ _ => True | .bad => True | _ => False) (ho : ResOk P E' h' w r res) : ResOk P E h w r res := by
  cases res with
  | val p v h2 => exact fun hp => let ⟨val, w', E2, k1, k2, k3, k4⟩ := ho hp; ⟨val, w', E2, k1, k2, k3, hx.trans k4⟩
  | skip p h2 => exact fun hp => let ⟨w', E2, k1, k2, k3⟩ := ho hp; ⟨w', E2, k1, k2, hx.trans k3⟩
  | bad => trivial
  | _ => exact hk.elim
theorem rStore_kind (ti : TI) (h : HS) (x y : SV) : rStore ti h x y = .bad ∨ ∃ p h', rStore ti h x y = .skip p h' := by
  unfold rStore
  split
  · exact .inl rfl
  · split
    · split
      · exact .inr ⟨_, _, rfl⟩
      · exact .inl rfl
    · split
      · exact .inr ⟨_, _, rfl⟩
      · exact .inl rfl
    · exact .inl rfl
theorem rBox_kind (e : TypeId) (h : HS) (y : SV) : rBox e y h = .bad ∨ ∃ p v h', rBox e y h = .val p v h' := by
  unfold rBox
  split
  · exact .inr ⟨_, _, _, rfl⟩
  · exact .inl rfl
theorem rStoreO_ok (hr : RelH E h w) {ty : TypeId} {ti : TI} (hti : TIOk P ty ti) {x : SV} {vx : Value} (hx : Den E w x vx) {y : SV} {vy : Value} (hy : Den E w y vy) (b : Bool) :
    ResOk P E h w ((Instr.storeAt ty vx vy >>= fun _ => (pure Next.skip : Sem Next)).run P w) (rStoreO h ti x y b) := by
  unfold rStoreO
  split
  · obtain ⟨E', g1, g2, g3⟩ := ownS_ok hr hy
    refine ResOk.pre g2 ?_ (rStore_ok g1 hti (hx.ext g2) g3)
    rcases rStore_kind ti (ownS y h).2 x (ownS y h).1 with e | ⟨_, _, e⟩ <;> rw [e] <;> trivial
  · exact rStore_ok hr hti hx hy
theorem rBoxO_ok (hr : RelH E h w) (o : Option TI) (e : TypeId) {y : SV} {vy : Value} (hy : Den E w y vy) :
    ResOk P E h w ((Instr.box e vy >>= fun v => pure (Next.value v)).run P w) (rBoxO h o e y) := by
  unfold rBoxO
  split
  · split
    · obtain ⟨E', g1, g2, g3⟩ := ownC_ok hr hy
      refine ResOk.pre g2 ?_ (rBox_ok g1 e g3)
      rcases rBox_kind e (ownC y h).2 (ownC y h).1 with e | ⟨_, _, _, e⟩ <;> rw [e] <;> trivial
    · exact rBox_ok hr e hy
  · exact rBox_ok hr e hy
theorem rStoreN_ok (hT : TOk P T) (hr : RelH E h w) {ty : TypeId} {ti : TI} (hti : TIOk P ty ti) {x : SV} {vx : Value} (hx : Den E w x vx) {y : Operand} (ht : DenA E w t a.tmps) :
    ResOk P E h w ((Instr.storeAt ty vx (a.eval y) >>= fun _ => (pure Next.skip : Sem Next)).run P w) (rStoreN T h ti x (isNilSl y) (ev t y)) := by
  have dflt := rStore_ok hr hti hx (ev_den ht y)
  unfold rStoreN
  split
  · exact rStoreO_ok hr hti hx (ev_den ht y) _
  · rename_i hb
    split
    · rename_i e hk
      split
      · rename_i te hte
        unfold isNilSl at hb
        split at hb
        · have h1 : Den E.newV w (.vec (lenV h.vecs) 0) (.slice none 0 0) := .vec (by simp only [Env.newV, hr.nv]; omega) (by simp [Env.newV, hr.nv])
          generalize hst : rStore ti { h with vecs := snocV h.vecs (.live 0 e te.size 0 (fun _ _ => .any)) } x (.vec (lenV h.vecs) 0) = r
          unfold skipAnd
          split
          · rename_i q h'
            rintro ⟨hsz, hq⟩
            have h2 := rStore_ok (hr.newVec e te.size hsz (fun _ _ => .any)) hti (hx.ext (ext_newV E w)) h1
            rw [hst] at h2
            obtain ⟨w', E', k1, k2, k3⟩ := h2 hq
            exact ⟨w', E', k1, k2, (ext_newV E w).trans k3⟩
          · trivial
        · cases hb
      · trivial
    · exact dflt

theorem zipPut_den {E : Env} {w : World} : ∀ (ps : List Nat) (l : List SV) (us : List Value) (t : List SV) (tmps : Array Value), DenA E w t tmps → l.length = us.length → (∀ (i : Nat) (x : SV) (u : Value), l[i]? = some x → us[i]? = some u → Den E w x u) →
    DenA E w (zipPut t ps l) ((ps.zip us).foldl (fun tmps (x : Nat × Value) => tmps.setIfInBounds x.1 x.2) tmps)
  | [], l, us, t, tmps, h, _, _ => by cases l <;> simpa [zipPut] using h
  | p :: ps, [], [], t, tmps, h, _, _ => by simpa [zipPut] using h
  | p :: ps, a :: l, u :: us, t, tmps, h, hl, hd => by
    simp only [zipPut, List.zip_cons_cons, List.foldl_cons]
    exact zipPut_den ps l us _ _ (h.set p (hd 0 a u rfl rfl)) (by simpa using hl) (fun i x y hx hy => hd (i + 1) x y (by simpa using hx) (by simpa using hy))
  | p :: ps, [], _ :: _, t, tmps, h, hl, _ => by simp at hl
  | p :: ps, _ :: _, [], t, tmps, h, hl, _ => by simp at hl

theorem mUp_ok (hT : TOk P T) (hr : RelH E h w) {ty : TypeId} {x y z : SV} {vx vy vz : Value} (hx : Den E w x vx) (hy : Den E w y vy) (hz : Den E w z vz) :
    ResOk P E h w ((Instr.mapUpdate ty vx vy vz >>= fun _ => (pure Next.skip : Sem Next)).run P w) (mUp T x y z h (T ty)) := by
  unfold mUp
  split
  · rename_i k v _ _ _ _ _ _ _ _ hti
    obtain ⟨d, hd, _, _, hkd⟩ := (hT _ _ hti).desc
    simp only at hkd
    subst hkd
    unfold mUp2
    split
    · rename_i tk hk
      exact rUpdate_ok hr hd (hT _ _ hk) hx hy hz
    · trivial
  · trivial
theorem method_run {P : Program} {w : World} {t : TypeId} {m : String} {g : Nat} {v : Value} (h : MtOk P t m g) : (method (P.types.size + Made.depth) t v m).run P w = .ok (g, v) w := by
  obtain ⟨i, d, x, hi, hd, hx, hp, hf, hne⟩ := h
  have e : P.types.size + Made.depth = (P.types.size + 99) + 1 := rfl
  rw [e, method]
  simp only [Sem.run_bind, run_typeInfo w hi, Result.andThen_ok, hx, hp, hf, follow, Sem.run_pure, receiverAt, run_underlying hd]
  cases d <;> first | (simp only [Place.get, Sem.run_bind, Sem.run_pure, Result.andThen_ok]; done) | exact absurd rfl (hne _)
theorem opRes_ok (hT : TOk P T) (hF : FOk P F) (ht : DenA E w t a.tmps) (hr : RelH E h w) (o : Oper) : ResOk P E h w ((execOp a.eval o).run P w) (opRes T F t h o) := by
  have k := fun x => ev_den ht (x : Operand)
  unfold opRes
  split <;> rename_i ho <;> simp only [execOp, ho]
  · exact rMove_ok hT ht hr _ _
  · exact rMove_ok hT ht hr _ _
  · -- pick
    rename_i c x y
    have kc := k c
    unfold rPick
    split
    · rename_i q hq
      rw [hq] at kc
      generalize a.eval c = vc at kc
      cases kc
      refine ResOk.pure hr (fun _ => ?_) (v := pk q (ev t x) (ev t y)) (val := if q then a.eval x else a.eval y) ?_
      · simp [asBool]
      · cases q <;> simp [pk, k]
    · trivial
  · -- alloc
    split
    · rename_i ti hti; exact rAlloc_ok hr (hT _ _ hti)
    · trivial
  · exact rBoxO_ok hr _ _ (k _)
  · -- build
    rename_i ty ps
    obtain ⟨p1, p2⟩ := evP_den ht ps.toList
    have q1 : (evP t ps.toList).length = (ps.map fun (i, x) => (i, a.eval x)).toList.length := by simpa using p1
    have q2 : ∀ (k : Nat) (x : Nat × SV) (y : Nat × Value), (evP t ps.toList)[k]? = some x → (ps.map fun (i, x) => (i, a.eval x)).toList[k]? = some y → x.1 = y.1 ∧ Den E w x.2 y.2 := fun k x y hx hy => p2 k x y hx (by simpa using hy)
    split
    · rename_i ti hti
      split
      · rename_i n e hk
        split
        · rename_i te hte
          refine rBuild_ok hr (hT _ _ hti) te.size (fun n' e' hk' => ?_) q1 q2
          rw [hk] at hk'; cases hk'
          obtain ⟨i, z, hi, hs, _⟩ := (hT _ _ hte).info
          exact ⟨i, hi, hs⟩
        · trivial
      · rename_i hk
        exact rBuild_ok hr (hT _ _ hti) 0 (fun n' e' hk' => absurd hk' (hk n' e')) q1 q2
    · trivial
  · -- buildSlice
    rename_i ty len ps
    obtain ⟨p1, p2⟩ := evP_den ht ps.toList
    split
    · rename_i e _ _ _ _ _ _ _ _ hti
      obtain ⟨d, hd, _, _, hkd⟩ := (hT _ _ hti).desc
      simp only at hkd
      subst hkd
      split
      · rename_i te hte
        exact rBuildSlice_ok hr hd (hT _ _ hte) len (by simpa using p1) (fun k x y hx hy => p2 k x y hx (by simpa using hy))
      · trivial
    · trivial
  · split
    · rename_i ti hti; exact rLoad_ok hr (hT _ _ hti) (k _)
    · trivial
  · split
    · rename_i ti hti; exact rStoreN_ok hT hr (hT _ _ hti) (k _) ht
    · trivial
  · -- nilCheck
    rename_i x
    have kx := k x
    generalize ev t x = sx at kx ⊢
    generalize a.eval x = vx at kx ⊢
    cases kx <;> first
      | trivial
      | (exact ResOk.pure hr (fun _ => rfl) (.ptr ‹_›))
      | (exact ResOk.pure hr (fun _ => rfl) (.rptr _ _ ‹_› ‹_› ‹_› ‹_› ‹_›))
      | (exact ResOk.pure hr (fun _ => rfl) (.vptr ‹_› ‹_›))
      | (exact ResOk.pure hr (fun _ => rfl) (.func _ ‹_› ‹_›))
  · exact rBin3_ok hT hr (k _) _ _ _ (k _)
  · exact rUn_ok hr _ (k _)
  · split
    · rename_i ts td hts htd
      unfold rConvT
      split
      · rename_i hk
        split
        · rename_i e hk2
          unfold cvU
          split
          · rename_i te hte
            split
            · rename_i hk3
              obtain ⟨d1, hd1, _, _, q1⟩ := (hT _ _ htd).desc
              obtain ⟨d2, hd2, _, _, q2⟩ := (hT _ _ hts).desc
              obtain ⟨d3, hd3, _, _, q3⟩ := (hT _ _ hte).desc
              rw [hk] at q1; rw [hk2] at q2; rw [hk3] at q3
              simp only at q1 q2 q3
              subst q1 q2 q3
              exact rConvB_ok hr hd2 hd3 hd1 (k _)
            · trivial
          · trivial
        · trivial
      · exact rConv_ok hr _ _ (hT _ _ htd) (hT _ _ hts) (k _)
    · trivial
  · split
    · rename_i ti hti; exact rIface_ok hr (hT _ _ hti) (k _)
    · trivial
  · -- makeFunc
    rename_i fn first caps
    unfold rFunc
    split
    · rename_i g hfst
      have hf0 : first = #[] := by apply Array.ext'; simpa [evL_eq] using hfst
      subst hf0
      have hd := evL_den ht caps
      exact ResOk.pure hr (fun _ => by simp [Instr.makeFunc]) (.func _ hd.1 hd.2)
    · rename_i g x l hfst
      split
      · rename_i hcap
        have hc0 : caps = #[] := by apply Array.ext'; simpa [evL_eq] using hcap
        subst hc0
        have hd := evL_den ht first
        exact ResOk.pure hr (fun _ => by simp [Instr.makeFunc]) (.meth _ hd.1 hd.2)
      · trivial
    · trivial
  · -- makeSlice
    rename_i ty l c
    split
    · rename_i e _ _ _ _ _ _ _ _ hti
      obtain ⟨d, hd, _, _, hkd⟩ := (hT _ _ hti).desc
      simp only at hkd
      subst hkd
      split
      · rename_i te hte
        exact rMake_ok hr hd (hT _ _ hte) (k l) (k c)
      · trivial
    · trivial
  · -- slice
    rename_i ty x lo hi mx
    have kd : ∀ (lo : Option Operand), DenO E w (evO t lo) (lo.map a.eval) := fun lo => by
      cases lo with
      | none => trivial
      | some l => exact k l
    have kl : ∀ (lo : Option Operand), match evO t lo, lo.map a.eval with | some a, some b => Den E w a b | none, none => True | _, _ => False := fun lo => by
      cases lo with
      | none => trivial
      | some l => exact k l
    split
    · rename_i ti hti
      split
      · rename_i e hk
        split
        · rename_i te hte
          have kx := k x
          generalize ev t x = sx at kx ⊢
          obtain ⟨d, hd, _, _, hkd⟩ := (hT _ _ hti).desc
          rw [hk] at hkd
          simp only at hkd
          subst hkd
          have hG : ∀ sx, Den E w sx (a.eval x) → ResOk P E h w ((Instr.sliceAt ty (a.eval x) (lo.map a.eval) (hi.map a.eval) (mx.map a.eval) >>= fun v => pure (Next.value v)).run P w) (rSlG te (hiOk hi mx) sx (evO t lo) (evO t hi) (evO t mx) h) := fun sx kx => by
            unfold rSlG
            split
            · rename_i hg
              exact rSliceV_ok hr hd (hT _ _ hte) kx (kd lo) (kd hi) (kd mx) (fun hm => by
                cases mx with
                | none => exact absurd rfl hm
                | some m =>
                  cases hi with
                  | none => simp [hiOk] at hg
                  | some u => simp)
            · trivial
          unfold rSl
          split
          · rename_i n sz f
            unfold rSlR
            split
            · rename_i hmx
              have hmn : mx = none := by cases mx with | none => rfl | some m => simp [evO] at hmx
              subst hmn
              split
              · rename_i hsz
                exact rSlice_ok hr (hT _ _ hti) hk (hT _ _ hte) kx (kl lo) (kl hi) (fun n' sz' f' hx => by cases hx; exact hsz)
              · trivial
            · trivial
          · exact hG _ kx
          · exact hG _ kx
          · trivial
        · trivial
      · rename_i n e hk
        split
        · rename_i te hte
          obtain ⟨d, hd, _, _, hkd⟩ := (hT _ _ hti).desc
          rw [hk] at hkd
          simp only at hkd
          subst hkd
          exact rSlA_ok hr hd (hT _ _ hte) (k x) (kd lo) (kd hi) (kd mx)
        · trivial
      · trivial
    · trivial
  · split
    · rename_i ti hti; exact rField_ok hr (hT _ _ hti) (k _) _
    · trivial
  · -- indexAddr
    split
    · rename_i ti hti
      split
      · rename_i e hk
        split
        · rename_i te hte; exact rIndex_ok hr (hT _ _ hti) e (.inl hk) (hT _ _ hte) (k _) (k _)
        · trivial
      · rename_i n e hk
        split
        · rename_i te hte; exact rIndex_ok hr (hT _ _ hti) e (.inr ⟨n, hk⟩) (hT _ _ hte) (k _) (k _)
        · trivial
      · trivial
    · trivial
  · split
    · rename_i ti hti; exact rAssert_ok hr (hT _ _ hti) (k _) _ _
    · trivial
  · exact rExtract_ok hr (k _) _
  · -- call
    rename_i c
    have hargs := evL_den ht c.args
    split
    · rename_i f hc
      cases hn : lastN T c.args.toList c.argTypes.toList with
      | some r =>
        obtain ⟨e, sz⟩ := r
        simp only [rCallN, argsN]
        have kf := k f
        split
        · rename_i g hf
          rw [hf] at kf
          split
          · rename_i hg
            intro hsz
            generalize hv : a.eval f = vf at kf
            cases kf
            rename_i vs hs hd
            have hvs : vs = #[] := by simpa using hs
            subst hvs
            exact ⟨c.args.map a.eval, E.newV, by simp [resolve, hc, hv, Deferred.ofValue, invoke, hF g hg], putLast_den hargs hr hn, hr.newVec e sz hsz _, ext_newV E w⟩
          · trivial
        · trivial
      | none =>
      simp only [rCallN, argsN]
      have hargs := evA_den (T := T) ht c.args c.argTypes.toList
      unfold rCall
      have kf := k f
      split
      · rename_i g caps hf
        rw [hf] at kf
        split
        · rename_i hg
          generalize hv : a.eval f = vf at kf
          cases kf
          rename_i vs hs hd
          exact ⟨c.args.map a.eval ++ vs, by simp [resolve, hc, hv, Deferred.ofValue, invoke, hF g hg], hargs.cat ⟨hs, hd⟩⟩
        · trivial
      · rename_i nm hf
        rw [hf] at kf
        split
        · rename_i st pend fid tl params assign body hb
          split
          · rename_i hlen
            obtain ⟨tmps, db, h1, h2, h3⟩ := hr.lp _ _ _ _ _ _ _ _ hb
            generalize hv : a.eval f = vf at kf
            cases kf
            rename_i hnm
            rw [lenS_eq] at hlen
            have hsz : (c.args.map a.eval).size = params.size := by rw [hargs.1, hlen, Array.length_toList]
            refine ⟨((params.zip (c.args.map a.eval)).foldl (fun tmps (x : Nat × Value) => tmps.setIfInBounds x.1 x.2) tmps), ?_, ?_, hnm⟩
            · have hsz' : c.args.size = params.size := by simpa using hsz
              simp [resolve, hc, hv, Deferred.ofValue, invoke, Instr.yield, Instr.getLoop, getObj, Sem.run, h1, hsz']
            · have := zipPut_den (E := E) (w := w) params.toList (evA T t c.args.toList c.argTypes.toList) (c.args.map a.eval).toList tl tmps h2 (by simpa using hargs.1.symm) (fun i x u hx hu => hargs.2 i x u hx (by simpa using hu))
              rw [← Array.foldl_toList, Array.toList_zip]
              exact this
          · trivial
        · trivial
      · rename_i g first hf
        rw [hf] at kf
        split
        · rename_i hg
          generalize hv : a.eval f = vf at kf
          cases kf
          rename_i vs hs hd
          exact ⟨vs ++ c.args.map a.eval, by simp [resolve, hc, hv, Deferred.ofValue, invoke, hF g hg], DenA.cat ⟨hs, hd⟩ hargs⟩
        · trivial
      · trivial
    · rename_i b hc
      obtain ⟨callee, args, tys⟩ := c
      simp only at hc hargs
      subst hc
      obtain ⟨args⟩ := args
      obtain ⟨tys⟩ := tys
      simp only [resolve, Sem.run_bind, Sem.run_pure, Result.andThen_ok, invoke]
      cases b <;> try trivial
      · -- append
        rcases tys with _ | ⟨ty, _ | ⟨ty', _ | ⟨_, _⟩⟩⟩ <;> rcases args with _ | ⟨y, _ | ⟨z, _ | ⟨_, _⟩⟩⟩ <;> try trivial
        simp only [rBuiltin, evL]
        split
        · rename_i e; subst e
          split
          · rename_i e _ _ _ _ _ _ _ _ hti
            obtain ⟨d, hd, _, _, hkd⟩ := (hT _ _ hti).desc
            simp only at hkd
            subst hkd
            split
            · rename_i te hte
              have := rAppend_ok hr hd (hT _ _ hte) o.type (k y) (k z)
              simpa [builtin] using this
            · trivial
          · trivial
        · trivial
      · -- clear
        rcases tys with _ | ⟨ty, _ | ⟨ty', _ | ⟨_, _⟩⟩⟩ <;> rcases args with _ | ⟨y, _ | ⟨z, _ | ⟨_, _⟩⟩⟩ <;> try trivial
        simp only [rBuiltin, evL]
        split
        · rename_i e _ _ _ _ _ _ _ _ hti
          obtain ⟨d, hd, _, _, hkd⟩ := (hT _ _ hti).desc
          simp only at hkd
          subst hkd
          split
          · rename_i te hte
            have := rClear_ok hr hd (hT _ _ hte) o.type (k y)
            simpa [builtin] using this
          · trivial
        · trivial
      · -- copy
        rcases tys with _ | ⟨ty, _ | ⟨ty', _ | ⟨_, _⟩⟩⟩ <;> rcases args with _ | ⟨y, _ | ⟨z, _ | ⟨_, _⟩⟩⟩ <;> try trivial
        simp only [rBuiltin, evL]
        split
        · rename_i e _ _ _ _ _ _ _ _ hti
          obtain ⟨d, hd, _, _, hkd⟩ := (hT _ _ hti).desc
          simp only at hkd
          subst hkd
          split
          · rename_i te hte
            have := rCopy_ok (t' := ty') hr hd (hT _ _ hte) o.type (k y) (k z)
            simpa [builtin] using this
          · trivial
        · trivial
      · -- len
        rcases tys with _ | ⟨ty, _ | ⟨ty', _ | ⟨_, _⟩⟩⟩ <;> rcases args with _ | ⟨y, _ | ⟨z, _ | ⟨_, _⟩⟩⟩ <;> try trivial
        simp only [rBuiltin, evL]
        split
        · rename_i ti hti
          have := rLen_ok hr (hT _ _ hti) (k y) o.type
          simpa [builtin] using this
        · trivial
      · -- max
        rcases args with _ | ⟨y, _ | ⟨z, _ | ⟨_, _⟩⟩⟩ <;> try trivial
        have := rMax_ok (P := P) hr tys.toArray o.type (k y) (k z)
        simpa [rBuiltin, evL, builtin] using this
      · rcases args with _ | ⟨y, _ | ⟨z, _ | ⟨_, _⟩⟩⟩ <;> try trivial
        have := rMin_ok (P := P) hr tys.toArray o.type (k y) (k z)
        simpa [rBuiltin, evL, builtin] using this
    · rename_i x m hc
      have kx := k x
      unfold rInv
      split
      · rename_i ty v hx
        rw [hx] at kx
        generalize hv : a.eval x = vx at kx
        cases kx
        rename_i u hu
        unfold rInvT
        split
        · rename_i ti hti
          unfold rInvG
          split
          · rename_i g hg
            split
            · rename_i hgF
              have hm := method_run (w := w) (v := u) ((hT _ _ hti).mth _ (mtF_mem hg))
              refine ⟨#[u] ++ c.args.map a.eval, ?_, DenA.cat (l := [v]) ⟨rfl, fun i x u' hx hu' => ?_⟩ hargs⟩
              · have h0 : (#[Value.iface ty u] ++ c.args.map a.eval)[0]? = some (Value.iface ty u) := (Array.getElem?_append_left (Nat.zero_lt_one)).trans rfl
                have h1 : (#[Value.iface ty u] ++ c.args.map a.eval).extract 1 (#[Value.iface ty u] ++ c.args.map a.eval).size = c.args.map a.eval := by
                  apply Array.ext'
                  simp
                  exact List.take_of_length_le (by simp)
                simp only [resolve, hc, hv, Sem.run_bind, Sem.run_pure, Result.andThen_ok, invoke, h0, h1, callMethod]
                have hp : Sem.run P program w = .ok P w := rfl
                simp only [hp, Result.andThen_ok, hm, hF g hgF]
              · match i with
                | 0 => simp at hx hu'; subst hx hu'; exact hu
                | i + 1 => simp at hx
            · trivial
          · trivial
        · trivial
      · trivial
  · -- panic
    rename_i x
    have kx := k x
    unfold rPanic
    split
    · rename_i ty v hx
      rw [hx] at kx
      generalize a.eval x = vx at kx
      cases kx
      rename_i u hu
      exact ⟨.iface ty u, by simp [Instr.panic], .iface hu⟩
    · trivial
  · -- makeMap
    rename_i ty
    unfold mMk
    split
    · rename_i k v _ _ _ _ _ _ _ _ hti
      unfold mMk2
      split
      · exact rMakeMap_ok hr _ _ _ _ _
      · trivial
    · trivial
  · -- lookup
    rename_i ty x y ok
    unfold mLk
    split
    · rename_i kt vt _ _ _ _ _ _ _ _ hti
      obtain ⟨d, hd, _, _, hkd⟩ := (hT _ _ hti).desc
      simp only at hkd
      subst hkd
      unfold mLk2
      split
      · rename_i tk tv hk hv
        exact rLookup_ok hr hd (hT _ _ hk) (hT _ _ hv) ok (k _) (k _)
      · trivial
    · trivial
  · exact mUp_ok hT hr (k _) (k _) (k _)
  · exact mUp_ok hT hr (k _) (k _) (k _)
  · unfold mFd
    split
    · rename_i ti hti; exact rFld_ok hr (hT _ _ hti) (k _) _
    · trivial
  · split
    · rename_i ti hti; exact rRange_ok hr (hT _ _ hti) (k _)
    · trivial
  · exact rNext_ok hr (k _)
  · exact rEntry_ok hr (k _)
  · split
    · rename_i ti hti
      split
      · rename_i n e hk
        split
        · rename_i te hte
          obtain ⟨d, hd, _, _, hkd⟩ := (hT _ _ hti).desc
          rw [hk] at hkd
          simp only at hkd
          subst hkd
          exact rIdx_ok hr hd (hT _ _ hte) (k _) (k _)
        · trivial
      · rename_i hk
        obtain ⟨d, hd, _, _, hkd⟩ := (hT _ _ hti).desc
        rw [hk] at hkd
        simp only at hkd
        subst hkd
        exact rIdxS_ok hr hd (k _) (k _)
      · trivial
    · trivial
  · trivial
end
end Go.Eng
end

/- Values that mention few names. -/
section
namespace Go.Eng
open Go.RowKit
set_option linter.unusedVariables false

mutual
/-- Every name in it is below L, every own slice below M. -/
def Bd (L M : Nat) : SV → Prop
  | .any => True
  | .int _ _ => True
  | .bool _ => True
  | .str _ => True
  | .ptr nm _ => nm < L
  | .nilp => True
  | .nils _ _ => True
  | .rptr sz f => ∀ j, j < sz → Bd L M (f j)
  | .row n sz f => ∀ i j, i < n → j < sz → Bd L M (f i j)
  | .vec id _ => id < M
  | .vptr id _ _ _ _ => id < M
  | .func _ caps => BdL L M caps
  | .nilf => True
  | .iface _ v => Bd L M v
  | .nili => True
  | .agg l => BdL L M l
  | .tup l => BdL L M l
  | .yield nm => nm < L
  | .meth _ first => BdL L M first
  | .vcut id _ _ _ _ _ => id < M
  | .bsl nm _ _ => nm < L
  | .mapp nm => nm < L
def BdL (L M : Nat) : List SV → Prop
  | [] => True
  | x :: l => Bd L M x ∧ BdL L M l
end

theorem BdL_get {L M : Nat} : ∀ {l : List SV}, BdL L M l → ∀ (i : Nat) (x : SV), l[i]? = some x → Bd L M x
  | [], _, i, x, h => by simp at h
  | y :: l, hb, 0, x, h => by simp [BdL] at hb h; subst h; exact hb.1
  | y :: l, hb, i + 1, x, h => by simp [BdL] at hb h; exact BdL_get hb.2 i x h

/-- Seen from another ghost: what the value mentions bears the same there. -/
theorem Den.turn {E E' : Env} {w : World} {x : SV} {v : Value} (hd : Den E w x v) (hb : Bd E'.nb E'.nv x) (hrho : ∀ nm, nm < E'.nb → nm < E.nb → E'.rho nm = E.rho nm) (hval : ∀ id ver y, id < E'.nv → id < E.nv → E.val id ver = some y → E'.val id ver = some y)
    (hown : ∀ b, b < w.heap.size → E.own b = none → E'.own b = none) : Den E' w x v := by
  induction hd with
  | any v => exact .any v
  | int k n => exact .int k n
  | bool b => exact .bool b
  | str s => exact .str s
  | @ptr nm off hn => simp only [Bd] at hb; rw [← hrho nm hb hn]; exact .ptr hb
  | nilp => exact .nilp
  | nils h => exact .nils h
  | @rptr sz f A g hA ho hc h1 hd ih => simp only [Bd] at hb; exact .rptr A g hA (hown _ hA ho) hc h1 (fun j hj => ih j hj (hb j hj))
  | @row n sz f A cap g hA ho hn hc h1 hd ih => simp only [Bd] at hb; exact .row A cap g hA (hown _ hA ho) hn hc h1 (fun i j hi hj => ih i j hi hj (hb i j hi hj))
  | rowZ a cap => exact .rowZ a cap
  | vec hi hv => simp only [Bd] at hb; exact .vec hb (hval _ _ _ hb hi hv)
  | vptr hi hv => simp only [Bd] at hb; exact .vptr hb (hval _ _ _ hb hi hv)
  | vcut hi hv hn hc ha h0 hA hB => simp only [Bd] at hb; exact .vcut hb (hval _ _ _ hb hi hv) hn hc ha h0 hA hB
  | @bsl nm off n cap hn hc => simp only [Bd] at hb; rw [← hrho nm hb hn]; exact .bsl hb hc
  | @mapp nm hn => simp only [Bd] at hb; rw [← hrho nm hb hn]; exact .mapp hb
  | func vs hs hd ih => simp only [Bd] at hb; exact .func vs hs (fun i x u hx hu => ih i x u hx hu (BdL_get hb i x hx))
  | meth vs hs hd ih => simp only [Bd] at hb; exact .meth vs hs (fun i x u hx hu => ih i x u hx hu (BdL_get hb i x hx))
  | nilf => exact .nilf
  | iface _ ih => simp only [Bd] at hb; exact .iface (ih hb)
  | nili => exact .nili
  | agg vs hs h1 hd ih => simp only [Bd] at hb; exact .agg vs hs h1 (fun i x u hx hu => ih i x u hx hu (BdL_get hb i x hx))
  | tup vs hs hd ih => simp only [Bd] at hb; exact .tup vs hs (fun i x u hx hu => ih i x u hx hu (BdL_get hb i x hx))
  | @yield nm hn => simp only [Bd] at hb; rw [← hrho nm hb hn]; exact .yield hb
end Go.Eng
end

/- The symbolic machine. -/
section
namespace Go.Eng
open Go.RowKit
set_option linter.unusedVariables false

inductive It : Type 1
  | code (c : Code)
  | blk (id : Nat)
  | inv (ι : Type) (st : ι → List SV × HS) (μ : ι → Nat) (i : ι) (body : Code)
  | reg (ops : Array Oper) (idx : List Nat)
  | inRng (nm : Nat)
  | endRng (nm : Nat)
  | beginR
  | endR (nm : Nat)
  /-- A loop, round by round. -/
  | aga (body : Code)
  | scp (body : Code)
/-- What lies to be done, in the machine's words. -/
def items (ρ : Nat → Nat) : List It → List Item
  | [] => []
  | .code c :: k => .code c :: items ρ k
  | .blk id :: k => .inBlock id :: items ρ k
  | .inv _ _ _ _ body :: k => .inLoop body :: items ρ k
  | .reg ops idx :: k => .inRegion ops idx :: items ρ k
  | .inRng nm :: k => .inRangeFunc (ρ nm) :: items ρ k
  | .endRng nm :: k => .endRangeFunc (ρ nm) :: items ρ k
  | .beginR :: k => .beginRound :: items ρ k
  | .aga body :: k => .inLoop body :: items ρ k
  | .scp body :: k => .inScope body :: items ρ k
  | .endR _ :: k => items ρ k
/-- The round's record, if this is a round's frame. -/
def rnd : List It → Option Nat
  | [] => none
  | .endR nm :: _ => some nm
  | .code _ :: k => rnd k
  | .blk _ :: k => rnd k
  | .inv _ _ _ _ _ :: k => rnd k
  | .reg _ _ :: k => rnd k
  | .inRng _ :: k => rnd k
  | .endRng _ :: k => rnd k
  | .beginR :: k => rnd k
  | .aga _ :: k => rnd k
  | .scp _ :: k => rnd k
/-- The names in it are below L; a round's end is the last. -/
def kb (L : Nat) : List It → Prop
  | [] => True
  | .code _ :: k => kb L k
  | .blk _ :: k => kb L k
  | .inv _ _ _ _ _ :: k => kb L k
  | .reg _ _ :: k => kb L k
  | .inRng nm :: k => nm < L ∧ kb L k
  | .endRng nm :: k => nm < L ∧ kb L k
  | .beginR :: k => kb L k
  | .aga _ :: k => kb L k
  | .scp _ :: k => kb L k
  | .endR nm :: k => nm < L ∧ k = []

/-- How a run ends: with a result, in a panic, or (a bottom frame that has calls deferred) with the slots that its results lie in. -/
inductive Out : Type 1 where
  | ret (v : SV)
  | pan (v : SV)
  | fin (p : Option SV) (ts : List SV)
  | stop (k : List It) (t : List SV)
  /-- A round, run by itself, has ended. -/
  | rnd (v : SV)
def keepN (t : List SV) : List Nat → List SV
  | [] => []
  | k :: l => nth t k :: keepN t l
structure Fr where
  fid : Nat
  k : List It
  t : List SV

/-- A way through a region whose order is drawn: quiet operations as soon as they are ready, the others in every order. -/
inductive Plan where
  | done
  | quiet (i : Nat) (p : Plan)
  | loud (i : Nat) (re : List Nat) (p : Plan)
  | both (p q : Plan)

abbrev Spec : Type := List SV → HS → Option (Prop × SV × HS)
structure Ctx where
  P : Program
  T : Nat → Option TI
  F : Nat → Bool
  FN : Nat → Option Func
  inl : Nat → Bool
  G : Nat → Option Spec
  plan : Nat → Nat → Option Plan
  /-- None: the plain machine. Some l: the bottom frame alone, its calls run apart; l: the slots that its results lie in. -/
  D : Option (List Nat)
  /-- The bottom frame is a round. -/
  rd : Bool := false
  /-- Rounds run apart. -/
  rs : Bool := false
def Ctx.off (C : Ctx) : Ctx := { C with D := none, rd := false, rs := false }
def Ctx.rnd (C : Ctx) : Ctx := { C with D := none, rd := true, rs := false }

abbrev Rn : Type 1 := Nat → List It → List SV → List Fr → HS → (Out → HS → Prop) → Prop

def getO : List Oper → Nat → Option Oper
  | [], _ => none
  | o :: _, 0 => some o
  | _ :: l, n + 1 => getO l n
theorem getO_eq : ∀ (l : List Oper) (n : Nat), getO l n = l[n]?
  | [], n => by simp [getO]
  | x :: l, 0 => by simp [getO]
  | x :: l, n + 1 => by simp [getO, getO_eq l n]
def upto : List Oper → Nat → List Nat
  | [], _ => []
  | _ :: l, n => n :: upto l (n + 1)
theorem upto_eq : ∀ (l : List Oper) (n : Nat), upto l n = List.range' n l.length
  | [], n => rfl
  | _ :: l, n => by simp [upto, upto_eq l (n + 1), List.range'_succ]
def put (t : List SV) (d : Option Nat) (v : SV) : List SV :=
  match d with
  | some i => upd t i v
  | none => t
def anys : Nat → List SV
  | 0 => []
  | n + 1 => .any :: anys n
theorem anys_eq : ∀ n, anys n = List.replicate n .any
  | 0 => rfl
  | n + 1 => by simp [anys, anys_eq n, List.replicate_succ]
def exitI (id : Nat) : List It → Option (List It)
  | [] => none
  | .blk id' :: k => if id' = id then some k else exitI id k
  | .code _ :: k => exitI id k
  | .inv _ _ _ _ _ :: k => exitI id k
  | .reg _ _ :: k => exitI id k
  | .inRng _ :: k => exitI id k
  | .endRng _ :: k => exitI id k
  | .beginR :: k => exitI id k
  | .aga _ :: k => exitI id k
  | .scp _ :: k => exitI id k
  | .endR _ :: k => exitI id k
def spl (q : Bool) (A B : Prop) : Prop := (q = true → A) ∧ (q = false → B)
theorem spl_true (A B : Prop) : spl true A B = A := by simp [spl]
theorem spl_false (A B : Prop) : spl false A B = B := by simp [spl]

/-- The results of a function, out of its temporaries. -/
def resL (T : Nat → Option TI) (t : List SV) (h : HS) : List ResultVar → Option (Prop × List SV)
  | [] => some (True, [])
  | .tmp i :: l => match resL T t h l with
    | some (p, vs) => some (p, nth t i :: vs)
    | none => none
  | .cell a ty :: l => match T ty with
    | some ti => match rLoad ti h (nth t a), resL T t h l with
      | .val q v _, some (p, vs) => some (q ∧ p, v :: vs)
      | _, _ => none
    | none => none
def oneR : List SV → SV
  | [v] => v
  | l => .tup l

def CallsS (P : Program) (g : Nat) (args : List SV) (h : HS) (K : Out → HS → Prop) : Prop :=
  ∀ (E : Env) (w : World) (vals : Array Value), RelH E h w → DenA E w args vals → Calls P g vals w fun e w' => ∃ o h' E', K o h' ∧ RelH E' h' w' ∧ Ext E w E' w' ∧
    match o, e with
    | .ret v, .returned val => Den E' w' v val
    | .pan v, .panicked chain => ∃ val, chain = [{ v := val, recovered := false }] ∧ Den E' w' v val
    | _, _ => False

/-- A round that runs by itself: the frame that called yield goes on. -/
def RoundS (P : Program) (nm rf : Nat) (rt : List SV) (assign body : Code) (h : HS) (K : SV → HS → Prop) : Prop :=
  ∀ (E : Env) (w : World) (tmps : Array Value) (c : Frame) (cs : List Frame), RelH E h w → DenA E w rt tmps → nm < E.nb →
    ∃ v val h' E' w', Steps P (lone (Frame.round (E.rho nm) rf tmps assign body .normal) (c :: cs) w) (lone (c.finish val) cs w') ∧ K v h' ∧ RelH E' h' w' ∧ Ext E w E' w' ∧ Den E' w' v val
/-- A panic at the frame in hand. -/
def panQ (D : Option (List Nat)) (Q : Out → HS → Prop) (t : List SV) (v : SV) (h : HS) : Prop :=
  match D with
  | none => Q (.pan v) h
  | some l => Q (.fin (some v) (keepN t l)) h
def outK (S : List SV → HS → Prop) (X : List SV → SV → HS → Prop) (t : List SV) (dst : Option Nat) (o : Out) (h : HS) : Prop :=
  match o with
  | .ret v => S (put t dst v) h
  | .pan v => X t v h
  | _ => False
/-- An operation that the machine does not know: the bottom frame may stop before it. -/
def stopQ (D : Option (List Nat)) (Q : Out → HS → Prop) (k : List It) (t : List SV) (h : HS) : Prop :=
  match D with
  | none => False
  | some _ => Q (.stop k t) h
section
variable (C : Ctx) (R R0 : Rn)
def popS (v : SV) (fs : List Fr) (h : HS) (Q : Out → HS → Prop) : Prop :=
  match fs with
  | [] => Q (.ret v) h
  | ⟨fid, .reg ops (i :: idx) :: k, t⟩ :: fs => match getO ops.toList i with
    | some o => R fid (.reg ops idx :: k) (put t o.dst v) fs h Q
    | none => False
  | ⟨fid, .inRng nm :: k, t⟩ :: fs => R fid (.endRng nm :: k) t fs h Q
  | _ => False
/-- A round ends: the frame that called yield goes on. -/
def popR (v : SV) (fs : List Fr) (h : HS) (Q : Out → HS → Prop) : Prop :=
  match fs with
  | ⟨fid, .reg ops (i :: idx) :: k, t⟩ :: fs => match getO ops.toList i with
    | some o => R fid (.reg ops idx :: k) (put t o.dst v) fs h Q
    | none => False
  | [] => match C.D, C.rd with
    | none, true => Q (.rnd v) h
    | _, _ => False
  | _ => False
def endRS (b : Blk) (nm : Nat) (jump : Option Code) (fs : List Fr) (h : HS) (Q : Out → HS → Prop) : Prop :=
  match b with
  | .loop _ _ fid t params assign body => popR C R (.bool jump.isNone) fs { h with blks := setB h.blks nm (.loop (if jump.isNone then .ready else .done) jump fid t params assign body) } Q
  | _ => False
def beginRS (x : Option Nat) (fid : Nat) (k : List It) (t : List SV) (fs : List Fr) (h : HS) (Q : Out → HS → Prop) : Prop :=
  match x with
  | some nm => match getB h.blks nm with
    | .loop .ready pend fid' t' params assign body => R fid k t fs { h with blks := setB h.blks nm (.loop .busy pend fid' t' params assign body) } Q
    | _ => False
  | none => False
def endRngS (b : Blk) (nm fid : Nat) (k : List It) (t : List SV) (fs : List Fr) (h : HS) (Q : Out → HS → Prop) : Prop :=
  match b with
  | .loop .ready none _ _ _ _ _ => R fid k t fs { h with blks := setB h.blks nm .dead } Q
  | .loop .done none _ _ _ _ _ => R fid k t fs { h with blks := setB h.blks nm .dead } Q
  | .loop .done (some c) _ _ _ _ _ => R fid (.code c :: k) t fs { h with blks := setB h.blks nm .dead } Q
  | _ => False
def retS (x : Option Nat) (jump : Code) (fs : List Fr) (h : HS) (Q : Out → HS → Prop) (els : Prop) : Prop :=
  match x with
  | none => els
  | some nm => endRS C R (getB h.blks nm) nm (some jump) fs h Q
def leaveS (D : Option (List Nat)) (fid : Nat) (t : List SV) (fs : List Fr) (h : HS) (Q : Out → HS → Prop) (fn : Option Func) : Prop :=
  match D with
  | none => match fn with
    | some fn => match resL C.T t h fn.results.toList with
      | some (p, vs) => p ∧ popS R (oneR vs) fs h Q
      | none => False
    | none => False
  | some l => Q (.fin none (keepN t l)) h
def condS (x : SV) (fid : Nat) (a b : Code) (k : List It) (t : List SV) (fs : List Fr) (h : HS) (Q : Out → HS → Prop) : Prop :=
  match x with
  | .bool q => spl q (R fid (.code a :: k) t fs h Q) (R fid (.code b :: k) t fs h Q)
  | _ => False
def exitS (id : Nat) (k0 : List It) (k : Option (List It)) (fid : Nat) (t : List SV) (fs : List Fr) (h : HS) (Q : Out → HS → Prop) : Prop :=
  match k with
  | some k => R fid k t fs h Q
  | none => retS C R (rnd k0) (.exit id) fs h Q False
def rngGo (D : Option (List Nat)) (fn : Option Func) (g : Nat) (args : List SV) (nm fid : Nat) (k : List It) (t : List SV) (fs : List Fr) (h : HS) (Q : Out → HS → Prop) : Prop :=
  match fn with
  | some fn => match fn.body with
    | some c => match D with
      | none => R g [.code c] (catS args (anys (fn.ntmps - lenS args))) (⟨fid, .inRng nm :: k, t⟩ :: fs) h Q
      | some _ => R0 g [.code c] (catS args (anys (fn.ntmps - lenS args))) [] h (outK (fun t' h' => R fid (.endRng nm :: k) t' fs h' Q) (panQ C.D Q) t none)
    | none => False
  | none => False
/-- A range over a function: its record is laid, the function called. -/
def rngS (f : SV) (params : Array Nat) (assign body : Code) (fid : Nat) (k : List It) (t : List SV) (fs : List Fr) (h : HS) (Q : Out → HS → Prop) : Prop :=
  match f with
  | .func g caps => C.F g = true ∧ rnd k = none ∧ rngGo C R R0 C.D (C.FN g) g (.yield (lenB h.blks) :: caps) (lenB h.blks) fid k t fs { h with blks := snocB h.blks (.loop .ready none fid t params assign body) } Q
  | _ => False
def roundS (rs : Bool) (D : Option (List Nat)) (ok : Bool) (nm rf : Nat) (rt : List SV) (assign body : Code) (fid : Nat) (ops : Array Oper) (i : Nat) (idx : List Nat) (dst : Option Nat) (k : List It) (t : List SV) (fs : List Fr) (h : HS) (Q : Out → HS → Prop) : Prop :=
  match rs, D with
  | true, _ => RoundS C.P nm rf rt assign body h (fun v h' => R fid (.reg ops idx :: k) (put t dst v) fs h' Q)
  | false, none => ok = true ∧ R rf [.code assign, .beginR, .code body, .endR nm] rt (⟨fid, .reg ops (i :: idx) :: k, t⟩ :: fs) h Q
  | false, some _ => False
/-- Inlined call, or one by contract; else an obligation of its own. -/
def callS (g : Nat) (args : List SV) (fid : Nat) (ops : Array Oper) (i : Nat) (idx : List Nat) (dst : Option Nat) (k : List It) (t : List SV) (fs : List Fr) (h : HS) (Q : Out → HS → Prop) : Prop :=
  CallsS C.P g args h (outK (fun t' h' => R fid (.reg ops idx :: k) t' fs h' Q) (panQ C.D Q) t dst)
def specS (r : Option (Prop × SV × HS)) (fid : Nat) (ops : Array Oper) (idx : List Nat) (dst : Option Nat) (k : List It) (t : List SV) (fs : List Fr) (Q : Out → HS → Prop) : Prop :=
  match r with
  | some (p, v, h') => p ∧ R fid (.reg ops idx :: k) (put t dst v) fs h' Q
  | none => False
def inlS (D : Option (List Nat)) (fn : Option Func) (g : Nat) (args : List SV) (fid : Nat) (ops : Array Oper) (i : Nat) (idx : List Nat) (dst : Option Nat) (k : List It) (t : List SV) (fs : List Fr) (h : HS) (Q : Out → HS → Prop) : Prop :=
  match fn with
  | some fn => match fn.body with
    | some c => match D with
      | none => R g [.code c] (catS args (anys (fn.ntmps - lenS args))) (⟨fid, .reg ops (i :: idx) :: k, t⟩ :: fs) h Q
      | some _ => R0 g [.code c] (catS args (anys (fn.ntmps - lenS args))) [] h (outK (fun t' h' => R fid (.reg ops idx :: k) t' fs h' Q) (panQ C.D Q) t dst)
    | none => False
  | none => False
def goS (sp : Option Spec) (il : Bool) (g : Nat) (args : List SV) (fid : Nat) (ops : Array Oper) (i : Nat) (idx : List Nat) (dst : Option Nat) (k : List It) (t : List SV) (fs : List Fr) (h : HS) (Q : Out → HS → Prop) : Prop :=
  match sp, il with
  | some f, _ => specS R (f args h) fid ops idx dst k t fs Q
  | none, true => inlS C R R0 C.D (C.FN g) g args fid ops i idx dst k t fs h Q
  | none, false => callS C R g args fid ops i idx dst k t fs h Q
def execS (r : Res) (fid : Nat) (ops : Array Oper) (i : Nat) (idx : List Nat) (dst : Option Nat) (k : List It) (t : List SV) (fs : List Fr) (h : HS) (Q : Out → HS → Prop) : Prop :=
  match r with
  | .val p v h' => p ∧ R fid (.reg ops idx :: k) (put t dst v) fs h' Q
  | .skip p h' => p ∧ R fid (.reg ops idx :: k) (put t dst .any) fs h' Q
  | .fork p v u h' => (p → R fid (.reg ops idx :: k) (put t dst v) fs h' Q) ∧ R fid (.reg ops idx :: k) (put t dst u) fs h' Q
  | .pan v => panQ C.D Q t v h
  | .call g args => goS C R R0 (C.G g) (C.inl g) g args fid ops i idx dst k t fs h Q
  | .callN p g args h' => p ∧ goS C R R0 (C.G g) (C.inl g) g args fid ops i idx dst k t fs h' Q
  | .pick c n p v g u h' => c ∧ (∀ i, i < n → p i = true → R fid (.reg ops idx :: k) (put t dst (v i)) fs (g i) Q) ∧ ((∀ i, i < n → p i = false) → R fid (.reg ops idx :: k) (put t dst u) fs h' Q)
  | .round nm rf rt assign body => roundS C R C.rs C.D (C.FN rf).isSome nm rf rt assign body fid ops i idx dst k t fs h Q
  | .bad => stopQ C.D Q (.reg ops (i :: idx) :: k) t h
def wantS (b want : Bool) (o : Oper) (fid : Nat) (ops : Array Oper) (i : Nat) (idx : List Nat) (k : List It) (t : List SV) (fs : List Fr) (h : HS) (Q : Out → HS → Prop) : Prop :=
  match b, want with
  | true, true => execS C R R0 (opRes C.T C.F t h o) fid ops i idx o.dst k t fs h Q
  | false, false => execS C R R0 (opRes C.T C.F t h o) fid ops i idx o.dst k t fs h Q
  | _, _ => R fid (.reg ops idx :: k) (put t o.dst (.tup [])) fs h Q
def guardS (x : SV) (d : Nat) (want : Bool) (o : Oper) (fid : Nat) (ops : Array Oper) (i : Nat) (idx : List Nat) (k : List It) (t : List SV) (fs : List Fr) (h : HS) (Q : Out → HS → Prop) : Prop :=
  match x with
  | .bool q => spl q (wantS C R R0 true want o fid ops i idx k (upd t d (.bool true)) fs h Q) (wantS C R R0 false want o fid ops i idx k (upd t d (.bool false)) fs h Q)
  | .tup [] => R fid (.reg ops idx :: k) (put t o.dst (.tup [])) fs h Q
  | _ => False
def guard1 (oj : Option Oper) (want : Bool) (o : Oper) (fid : Nat) (ops : Array Oper) (i : Nat) (idx : List Nat) (k : List It) (t : List SV) (fs : List Fr) (h : HS) (Q : Out → HS → Prop) : Prop :=
  match oj with
  | some { dst := some d, .. } => guardS C R R0 (nth t d) d want o fid ops i idx k t fs h Q
  | _ => False
def opS (o : Option Oper) (fid : Nat) (ops : Array Oper) (i : Nat) (idx : List Nat) (k : List It) (t : List SV) (fs : List Fr) (h : HS) (Q : Out → HS → Prop) : Prop :=
  match o with
  | some ⟨dst, op, ty, pos, aft, none⟩ => execS C R R0 (opRes C.T C.F t h ⟨dst, op, ty, pos, aft, none⟩) fid ops i idx dst k t fs h Q
  | some ⟨dst, op, ty, pos, aft, some (j, want)⟩ => guard1 C R R0 (getO ops.toList j) want ⟨dst, op, ty, pos, aft, some (j, want)⟩ fid ops i idx k t fs h Q
  | none => False
end

/- ### regions whose order is drawn -/
def quietR (r : Option (Prop × SV × HS)) (h : HS) : Option (Prop × SV) :=
  match r with
  | some (p, v, h') => some (p ∧ h' = h, v)
  | none => none
/-- A result that leaves memory as it was. -/
def resQ (G : Nat → Option Spec) (r : Res) (h : HS) : Option (Prop × SV) :=
  match r with
  | .val p v h' => some (p ∧ h' = h, v)
  | .call g args => match G g with
    | some f => quietR (f args h) h
    | none => none
  | _ => none
/-- Read again, an operation gives what it gave. -/
def reS1 (r : Option (Prop × SV)) (dst : Option Nat) (t : List SV) : Prop :=
  match r, dst with
  | some (p, v), some d => p ∧ v = nth t d
  | some (p, _), none => p
  | none, _ => False
def reW (b want : Bool) (r : Option (Prop × SV)) (dst : Option Nat) (t : List SV) : Prop :=
  match b, want with
  | true, true => reS1 r dst t
  | false, false => reS1 r dst t
  | _, _ => True
def reG (x : SV) (want : Bool) (r : Option (Prop × SV)) (dst : Option Nat) (t : List SV) : Prop :=
  match x with
  | .bool b => reW b want r dst t
  | .tup [] => True
  | _ => False
def reO (C : Ctx) (ops : Array Oper) (t : List SV) (h : HS) (o : Option Oper) : Prop :=
  match o with
  | some ⟨dst, op, ty, pos, aft, none⟩ => reS1 (resQ C.G (opRes C.T C.F t h ⟨dst, op, ty, pos, aft, none⟩) h) dst t
  | some ⟨dst, op, ty, pos, aft, some (j, want)⟩ => match getO ops.toList j with
    | some { dst := some d, .. } => reG (nth t d) want (resQ C.G (opRes C.T C.F t h ⟨dst, op, ty, pos, aft, some (j, want)⟩) h) dst t
    | _ => False
  | none => False
def reA (C : Ctx) (ops : Array Oper) (t : List SV) (h : HS) : List Nat → Prop
  | [] => True
  | k :: l => reO C ops t h (getO ops.toList k) ∧ reA C ops t h l
/-- Must j follow k? -/
def befGo (k : Nat) : List Oper → Nat → Nat → Nat
  | [], _, m => m
  | o :: os, j, m => befGo k os (j + 1) (if o.after.any fun e => Region.binds .any e && (e.on == k || m.testBit e.on) then m ||| 1 <<< j else m)
def bef (ops : Array Oper) (j k : Nat) : Bool := (befGo k ((ops.toList.take (j + 1)).drop (k + 1)) (k + 1) 0).testBit j
/-- An operation that asks nothing of memory. -/
def flat (o : Oper) : Bool :=
  match o.op with
  | .pick _ _ _ | .nilCheck _ | .binOp _ _ _ _ _ | .unOp _ _ _ | .convert _ _ _ | .makeInterface _ _ | .makeFunc _ _ _ | .extract _ _ => true
  | .move x | .assign x => match x with
    | .const (.slice none 0 0) => false
    | _ => true
  | _ => false
def flatAt (ops : Array Oper) (i : Nat) : Bool := match ops[i]? with
  | some o => flat o
  | none => false
/-- Each slot is written once, and who reads it comes behind (or, where memory is not asked, before). -/
def ssaOk (ops : Array Oper) : Bool :=
  (List.range ops.size).all fun a => match ops[a]? with
    | some oa => match oa.dst with
      | some d => (List.range ops.size).all fun b => match ops[b]? with
        | some ob => (a == b || ob.dst != some d) && (!(ob.looksAt ops).contains d || (a != b && (bef ops b a || (bef ops a b && flat ob))))
        | none => true
      | none => true
    | none => true
def firsts : Plan → List Nat
  | .loud i _ _ => [i]
  | .both p q => firsts p ++ firsts q
  | _ => []
def okP (ops : Array Oper) : Bool → Plan → Nat → Array Bool → List Nat → Bool
  | top, .done, _, l, _ => top && (Region.ready .any ops l).isEmpty
  | top, .quiet i p, n + 1, l, pd => top && (Region.ready .any ops l).contains i && okP ops true p n (l.setIfInBounds i true) (if flatAt ops i then pd else i :: pd)
  | top, .loud i re p, n + 1, l, pd => (!top || ((Region.ready .any ops l).all (· == i) && (Region.ready .any ops l).contains i)) && (pd.filter fun k => !bef ops i k).all re.contains && okP ops true p n (l.setIfInBounds i true) (pd.filter fun k => !bef ops i k)
  | top, .both p q, n, l, pd => (!top || ((Region.ready .any ops l).all (firsts p ++ firsts q).contains && !(Region.ready .any ops l).isEmpty)) && okP ops false p n l pd && okP ops false q n l pd
  | _, _, 0, _, _ => false
def planOk (ops : Array Oper) (p : Plan) : Bool := ssaOk ops && Region.noSelect ops && okP ops true p ops.size (Array.replicate ops.size false) []
/-- No operation writes a slot that is kept. -/
def keepW (ops : Array Oper) (l : List Nat) : Bool := ops.all fun o => match o.dst with
  | some d => !l.contains d
  | none => true
/-- No operation calls a function. -/
def callFree (ops : Array Oper) : Bool := ops.all fun o => match o.op with
  | .call c => match c.callee with
    | .builtin _ => true
    | _ => false
  | _ => true
def keepOk (ops : Array Oper) (D : Option (List Nat)) : Bool :=
  match D with
  | none => true
  | some l => keepW ops l || callFree ops
section
variable (C : Ctx) (R R0 : Rn) (X : List SV → SV → HS → Prop) (Q : Out → HS → Prop)
def qGo (r : Option (Prop × SV)) (dst : Option Nat) (S : List SV → HS → Prop) (t : List SV) (h : HS) : Prop :=
  match r with
  | some (p, v) => p ∧ S (put t dst v) h
  | none => False
def aGo (r : Option (Prop × SV × HS)) (dst : Option Nat) (S : List SV → HS → Prop) (t : List SV) : Prop :=
  match r with
  | some (p, v, h') => p ∧ S (put t dst v) h'
  | none => False
def nestS (fn : Option Func) (g : Nat) (args : List SV) (dst : Option Nat) (S : List SV → HS → Prop) (t : List SV) (h : HS) : Prop :=
  match fn with
  | some fn => match fn.body with
    | some c => R0 g [.code c] (catS args (anys (fn.ntmps - lenS args))) [] h (outK S X t dst)
    | none => False
  | none => False
def lCall (sp : Option Spec) (il : Bool) (g : Nat) (args : List SV) (dst : Option Nat) (S : List SV → HS → Prop) (t : List SV) (h : HS) : Prop :=
  match sp, il with
  | some f, _ => aGo (f args h) dst S t
  | none, true => nestS R0 X (C.FN g) g args dst S t h
  | none, false => CallsS C.P g args h (outK S X t dst)
def lGo (r : Res) (dst : Option Nat) (S : List SV → HS → Prop) (t : List SV) (h : HS) : Prop :=
  match r with
  | .val p v h' => p ∧ S (put t dst v) h'
  | .skip p h' => p ∧ S (put t dst .any) h'
  | .call g args => lCall C R0 X (C.G g) (C.inl g) g args dst S t h
  | .callN p g args h' => p ∧ lCall C R0 X (C.G g) (C.inl g) g args dst S t h'
  | .round nm rf rt assign body => RoundS C.P nm rf rt assign body h (fun v h' => S (put t dst v) h')
  | _ => False
/-- One operation of such a region: quiet, or in its turn. -/
def goP (quiet : Bool) (o : Oper) (S : List SV → HS → Prop) (t : List SV) (h : HS) : Prop :=
  match quiet with
  | true => qGo (resQ C.G (opRes C.T C.F t h o) h) o.dst S t h
  | false => lGo C R0 X (opRes C.T C.F t h o) o.dst S t h
def gateW (b want : Bool) (quiet : Bool) (o : Oper) (S : List SV → HS → Prop) (t : List SV) (h : HS) : Prop :=
  match b, want with
  | true, true => goP C R0 X quiet o S t h
  | false, false => goP C R0 X quiet o S t h
  | _, _ => S (put t o.dst (.tup [])) h
def gateG (x : SV) (d : Nat) (want : Bool) (quiet : Bool) (o : Oper) (S : List SV → HS → Prop) (t : List SV) (h : HS) : Prop :=
  match x with
  | .bool q => spl q (gateW C R0 X true want quiet o S (upd t d (.bool true)) h) (gateW C R0 X false want quiet o S (upd t d (.bool false)) h)
  | .tup [] => S (put t o.dst (.tup [])) h
  | _ => False
def gate (ops : Array Oper) (quiet : Bool) (o : Option Oper) (S : List SV → HS → Prop) (t : List SV) (h : HS) : Prop :=
  match o with
  | some ⟨dst, op, ty, pos, aft, none⟩ => goP C R0 X quiet ⟨dst, op, ty, pos, aft, none⟩ S t h
  | some ⟨dst, op, ty, pos, aft, some (j, want)⟩ => match getO ops.toList j with
    | some { dst := some d, .. } => gateG C R0 X (nth t d) d want quiet ⟨dst, op, ty, pos, aft, some (j, want)⟩ S t h
    | _ => False
  | none => False
def thenS (ops : Array Oper) (re : List Nat) (S : List SV → HS → Prop) (t : List SV) (h : HS) : Prop := reA C ops t h re ∧ S t h
def planS (fid : Nat) (ops : Array Oper) (k : List It) (fs : List Fr) : Plan → List SV → HS → Prop
  | .done, t, h => R fid k t fs h Q
  | .quiet i p, t, h => gate C R0 X ops true (getO ops.toList i) (planS fid ops k fs p) t h
  | .loud i re p, t, h => gate C R0 X ops false (getO ops.toList i) (thenS C ops re (planS fid ops k fs p)) t h
  | .both p q, t, h => planS fid ops k fs p t h ∧ planS fid ops k fs q t h
def drawS (p : Option Plan) (fid : Nat) (ops : Array Oper) (k : List It) (t : List SV) (fs : List Fr) (h : HS) : Prop :=
  match p with
  | some p => (planOk ops p = true ∧ keepOk ops C.D = true) ∧ planS C R R0 (panQ C.D Q) Q fid ops k fs p t h
  | none => False
end

/-- What one state says is no more than what another one says. -/
def subX (x y : SV) : Prop :=
  match y with
  | .any => True
  | .row n sz f => match x with
    | .row n' sz' f' => n' = n ∧ sz' = sz ∧ ∀ i j, i < n → j < sz → f' i j = f i j
    | _ => False
  | y => x = y
def subL : List SV → List SV → Prop
  | [], [] => True
  | x :: l, y :: k => subX x y ∧ subL l k
  | _, _ => False
def subBk (x y : Blk) : Prop :=
  match y with
  | .dead => True
  | .live ty c => match x with
    | .live ty' c' => ty' = ty ∧ subL c' c
    | _ => False
  | y => x = y
def subB : List Blk → List Blk → Prop
  | _, [] => True
  | [], _ :: _ => False
  | x :: l, y :: k => subBk x y ∧ subB l k
def subVk (x y : Vc) : Prop :=
  match y with
  | .dead => True
  | .live ver ty sz n f => match x with
    | .live ver' ty' sz' n' f' => ver' = ver ∧ ty' = ty ∧ sz' = sz ∧ n' = n ∧ ∀ i j, i < n → j < sz → f' i j = f i j
    | .dead => False
def subV : List Vc → List Vc → Prop
  | _, [] => True
  | [], _ :: _ => False
  | x :: l, y :: k => subVk x y ∧ subV l k
def itB (L : Nat) : Option (Nat × Nat × List Nat) → Prop
  | none => True
  | some (a, _, _) => a < L
/-- The same as bdB, with iterators. -/
def bdB2 (L M : Nat) : List Blk → Prop
  | [] => True
  | .live _ c :: l => BdL L M c ∧ bdB2 L M l
  | .dead :: l => bdB2 L M l
  | .loop _ _ _ t _ _ _ :: l => BdL L M t ∧ bdB2 L M l
  | .mp m :: l => itB L m.it ∧ bdB2 L M l
def bdB (L M : Nat) : List Blk → Prop
  | [] => True
  | .live _ c :: l => BdL L M c ∧ bdB L M l
  | .dead :: l => bdB L M l
  | .loop _ _ _ t _ _ _ :: l => BdL L M t ∧ bdB L M l
  | .mp m :: l => m.it = none ∧ bdB L M l
def bdV (L M : Nat) : List Vc → Prop
  | [] => True
  | .live _ _ sz n f :: l => (∀ i j, i < n → j < sz → Bd L M (f i j)) ∧ bdV L M l
  | .dead :: l => bdV L M l
structure SubS (t : List SV) (h : HS) (s : List SV × HS) : Prop where
  t : subL t s.1
  b : subB h.blks s.2.blks
  v : subV h.vecs s.2.vecs
  bt : BdL (lenB s.2.blks) (lenV s.2.vecs) s.1
  bb : bdB2 (lenB s.2.blks) (lenV s.2.vecs) s.2.blks
  bv : bdV (lenB s.2.blks) (lenV s.2.vecs) s.2.vecs

def updA : List SV → List Nat → SV → List SV
  | t, [], _ => t
  | t, j :: js, x => updA (upd t j x) js x
/-- The same with slices that change their names: an own slice takes over what another one is. -/
inductive SubM : List SV → HS → List SV × HS → Prop
  | sub {t h s} : SubS t h s → SubM t h s
  | mv {t h s} (i0 i1 : Nat) (js : List Nat) {v0 ty0 sz0 n0 f0 v1 ty sz n f} : getV h.vecs i0 = .live v0 ty0 sz0 n0 f0 → getV h.vecs i1 = .live v1 ty sz n f → i0 ≠ i1 → (∀ j, j ∈ js → nth t j = .vec i1 v1) →
      SubM (updA t js (.vec i0 (v0 + 1))) { h with vecs := setV (setV h.vecs i0 (.live (v0 + 1) ty sz n f)) i1 .dead } s → SubM t h s
  | fz {t h s} (id : Nat) (js : List Nat) {v ty sz n f} : getV h.vecs id = .live v ty sz n f → (∀ j, j ∈ js → nth t j = .vec id v) →
      SubM (updA t js (.row n sz f)) { h with vecs := setV h.vecs id .dead } s → SubM t h s
  | fzV {t h s} (id ov : Nat) (js : List Nat) {v ty sz n f vo tyo szo no fo fo'} : getV h.vecs id = .live v ty sz n f → getV h.vecs ov = .live vo tyo szo no fo → ov ≠ id → (∀ j, j ∈ js → nth t j = .vec id v) →
      (∀ i j, i < no → j < szo → fo' i j = fo i j ∨ (fo i j = .vec id v ∧ fo' i j = .row n sz f)) →
      SubM (updA t js (.row n sz f)) { h with vecs := setV (setV h.vecs id .dead) ov (.live vo tyo szo no fo') } s → SubM t h s
  | mvV {t h s} (i0 i1 ov : Nat) {v0 ty0 sz0 n0 f0 v1 ty sz n f vo tyo szo no fo} (fo' : Nat → Nat → SV) : getV h.vecs i0 = .live v0 ty0 sz0 n0 f0 → getV h.vecs i1 = .live v1 ty sz n f → getV h.vecs ov = .live vo tyo szo no fo → i0 ≠ i1 → ov ≠ i0 → ov ≠ i1 →
      (∀ i j, i < no → j < szo → fo' i j = fo i j ∨ (fo i j = .vec i1 v1 ∧ fo' i j = .vec i0 (v0 + 1))) →
      SubM t { h with vecs := setV (setV (setV h.vecs i0 (.live (v0 + 1) ty sz n f)) i1 .dead) ov (.live vo tyo szo no fo') } s → SubM t h s
  | fzB {t h s} (id nm k : Nat) {v ty sz n f bty cells} : getV h.vecs id = .live v ty sz n f → getB h.blks nm = .live bty cells → nth cells k = .vec id v →
      SubM t { blks := setB h.blks nm (.live bty (upd cells k (.row n sz f))), vecs := setV h.vecs id .dead } s → SubM t h s
/-- Own slices that are nil, made for a loop. -/
def mkH : List (TypeId × Nat) → HS → HS
  | [], h => h
  | (ty, sz) :: l, h => mkH l { h with vecs := snocV h.vecs (.live 0 ty sz 0 fun _ _ => .any) }

def LoopOb (R : Rn) (fid : Nat) (body : Code) (k : List It) (t : List SV) (fs : List Fr) (h : HS) (Q : Out → HS → Prop) : Prop :=
  (∃ (ι : Type) (st : ι → List SV × HS) (μ : ι → Nat) (mk : List (TypeId × Nat)), (∀ p, p ∈ mk → 0 < p.2) ∧ (∀ i, lenB h.blks ≤ lenB (st i).2.blks ∧ lenV h.vecs + mk.length ≤ lenV (st i).2.vecs) ∧ (∃ i, SubM t (mkH mk h) (st i)) ∧
    ∀ i, R fid (.code body :: .inv ι st μ i body :: k) (st i).1 fs (st i).2 Q) ∨ R fid (.code body :: .aga body :: k) t fs h Q

def run : Ctx → Nat → Rn
  | _, 0, _, _, _, _, _, _ => False
  | C, n + 1, fid, [], t, fs, h, Q => leaveS C (run C n) C.D fid t fs h Q (C.FN fid)
  | C, n + 1, fid, .code .skip :: k, t, fs, h, Q => run C n fid k t fs h Q
  | C, n + 1, fid, .code (.label _) :: k, t, fs, h, Q => run C n fid k t fs h Q
  | C, n + 1, fid, .code (.seq a b) :: k, t, fs, h, Q => run C n fid (.code a :: .code b :: k) t fs h Q
  | C, n + 1, fid, .code (.cond c a b) :: k, t, fs, h, Q => condS (run C n) (ev t c) fid a b k t fs h Q
  | C, n + 1, fid, .code (.block id c) :: k, t, fs, h, Q => run C n fid (.code c :: .blk id :: k) t fs h Q
  | C, n + 1, fid, .code (.loop body) :: k, t, fs, h, Q => LoopOb (run C n) fid body k t fs h Q
  | C, n + 1, fid, .code (.exit id) :: k, t, fs, h, Q => exitS C (run C n) id k (exitI id k) fid t fs h Q
  | C, n + 1, fid, .code (.rangeFunc f params assign body) :: k, t, fs, h, Q => rngS C (run C n) (run C.off n) (ev t f) params assign body fid k t fs h Q
  | C, n + 1, fid, .code .ret :: k, t, fs, h, Q => retS C (run C n) (rnd k) .ret fs h Q (leaveS C (run C n) C.D fid t fs h Q (C.FN fid))
  | C, n + 1, fid, .code (.region _ ops false) :: k, t, fs, h, Q => run C n fid (.reg ops (upto ops.toList 0) :: k) t fs h Q
  | C, n + 1, fid, .code (.region id ops true) :: k, t, fs, h, Q => drawS C (run C n) (run C.off n) Q (C.plan fid id) fid ops k t fs h
  | C, n + 1, fid, .blk _ :: k, t, fs, h, Q => run C n fid k t fs h Q
  | C, n + 1, fid, .inv ι st μ i body :: k, t, fs, h, Q => ∃ i', μ i' < μ i ∧ SubM t h (st i')
  | C, n + 1, fid, .aga body :: k, t, fs, h, Q => run C n fid (.code body :: .aga body :: k) t fs h Q
  | C, n + 1, fid, .code (.scope body) :: k, t, fs, h, Q => run C n fid (.code body :: .scp body :: k) t fs h Q
  | C, n + 1, fid, .scp _ :: k, t, fs, h, Q => run C n fid k t fs h Q
  | C, n + 1, fid, .reg ops [] :: k, t, fs, h, Q => run C n fid k t fs h Q
  | C, n + 1, fid, .reg ops (i :: idx) :: k, t, fs, h, Q => opS C (run C n) (run C.off n) (getO ops.toList i) fid ops i idx k t fs h Q
  | C, n + 1, fid, .endRng nm :: k, t, fs, h, Q => endRngS (run C n) (getB h.blks nm) nm fid k t fs h Q
  | C, n + 1, fid, .beginR :: k, t, fs, h, Q => beginRS (run C n) (rnd k) fid k t fs h Q
  | C, n + 1, fid, .endR nm :: _, t, fs, h, Q => endRS C (run C n) (getB h.blks nm) nm none fs h Q
  | _, _ + 1, _, .inRng _ :: _, _, _, _, _ => False
  | _, _ + 1, _, .code _ :: _, _, _, _, _ => False
end Go.Eng
end

/- The symbolic machine is right: what it shows, the machine does. -/
section
namespace Go.Eng
open Go.RowKit
set_option linter.unusedVariables false

/-- A running frame of function fid. -/
structure Bt where
  ds : List Deferred
  kd : CallKind
  Fin : Ending → Machine → Prop
def fra (B : Bt) (ds : List Deferred) (ro : Option Nat) (fid : Nat) (tmps : Array Value) (todo : List Item) : Frame := { fn := fid, tmps, todo, defers := ds, mode := .run, kind := B.kd, roundOf := ro }
def base (B : Bt) (ro : Option Nat) (fid : Nat) : Frame := { (default : Frame) with fn := fid, kind := B.kd, roundOf := ro }
theorem fra_at (B : Bt) (ds : List Deferred) (ro : Option Nat) (fid : Nat) (tmps : Array Value) (todo : List Item) : fra B ds ro fid tmps todo = (base B ro fid).atR ⟨tmps, ds⟩ todo := rfl

structure CtxOk (C : Ctx) : Prop where
  T : TOk C.P C.T
  F : FOk C.P C.F
  FN : ∀ g fn, C.FN g = some fn → C.P.funcs[g]? = some fn
  G : ∀ g f, C.G g = some f → ∀ args h p v h1, f args h = some (p, v, h1) → p → CallsS C.P g args h fun o h' => o = .ret v ∧ h' = h1
  mix : C.P.follows .mixedOrders = true

/- ### names in what lies to be done -/
theorem kb_le {L M : Nat} (h : L ≤ M) : ∀ {k : List It}, kb L k → kb M k
  | [], _ => trivial
  | .code _ :: k, hk => by simp only [kb] at hk ⊢; exact kb_le h hk
  | .blk _ :: k, hk => by simp only [kb] at hk ⊢; exact kb_le h hk
  | .inv _ _ _ _ _ :: k, hk => by simp only [kb] at hk ⊢; exact kb_le h hk
  | .reg _ _ :: k, hk => by simp only [kb] at hk ⊢; exact kb_le h hk
  | .inRng nm :: k, hk => by simp only [kb] at hk ⊢; exact ⟨Nat.lt_of_lt_of_le hk.1 h, kb_le h hk.2⟩
  | .endRng nm :: k, hk => by simp only [kb] at hk ⊢; exact ⟨Nat.lt_of_lt_of_le hk.1 h, kb_le h hk.2⟩
  | .beginR :: k, hk => by simp only [kb] at hk ⊢; exact kb_le h hk
  | .aga _ :: k, hk => by simp only [kb] at hk ⊢; exact kb_le h hk
  | .scp _ :: k, hk => by simp only [kb] at hk ⊢; exact kb_le h hk
  | .endR nm :: k, hk => by simp only [kb] at hk ⊢; exact ⟨Nat.lt_of_lt_of_le hk.1 h, hk.2⟩
theorem items_eq {ρ ρ' : Nat → Nat} {L : Nat} (h : ∀ nm, nm < L → ρ' nm = ρ nm) : ∀ {k : List It}, kb L k → items ρ' k = items ρ k
  | [], _ => rfl
  | .code _ :: k, hk => by simp only [kb] at hk; simp only [items, items_eq h hk]
  | .blk _ :: k, hk => by simp only [kb] at hk; simp only [items, items_eq h hk]
  | .inv _ _ _ _ _ :: k, hk => by simp only [kb] at hk; simp only [items, items_eq h hk]
  | .reg _ _ :: k, hk => by simp only [kb] at hk; simp only [items, items_eq h hk]
  | .inRng nm :: k, hk => by simp only [kb] at hk; simp only [items, items_eq h hk.2, h nm hk.1]
  | .endRng nm :: k, hk => by simp only [kb] at hk; simp only [items, items_eq h hk.2, h nm hk.1]
  | .beginR :: k, hk => by simp only [kb] at hk; simp only [items, items_eq h hk]
  | .aga _ :: k, hk => by simp only [kb] at hk; simp only [items, items_eq h hk]
  | .scp _ :: k, hk => by simp only [kb] at hk; simp only [items, items_eq h hk]
  | .endR nm :: k, hk => by simp only [kb] at hk; simp only [items, hk.2]
def rnf (ρ : Nat → Nat) (k : List It) : Option Nat := (rnd k).map ρ
theorem rnd_lt {L : Nat} : ∀ {k : List It}, kb L k → ∀ nm, rnd k = some nm → nm < L
  | [], _, nm, h => by simp [rnd] at h
  | .code _ :: k, hk, nm, h => by simp only [kb] at hk; simp only [rnd] at h; exact rnd_lt hk nm h
  | .blk _ :: k, hk, nm, h => by simp only [kb] at hk; simp only [rnd] at h; exact rnd_lt hk nm h
  | .inv _ _ _ _ _ :: k, hk, nm, h => by simp only [kb] at hk; simp only [rnd] at h; exact rnd_lt hk nm h
  | .reg _ _ :: k, hk, nm, h => by simp only [kb] at hk; simp only [rnd] at h; exact rnd_lt hk nm h
  | .inRng _ :: k, hk, nm, h => by simp only [kb] at hk; simp only [rnd] at h; exact rnd_lt hk.2 nm h
  | .endRng _ :: k, hk, nm, h => by simp only [kb] at hk; simp only [rnd] at h; exact rnd_lt hk.2 nm h
  | .beginR :: k, hk, nm, h => by simp only [kb] at hk; simp only [rnd] at h; exact rnd_lt hk nm h
  | .aga _ :: k, hk, nm, h => by simp only [kb] at hk; simp only [rnd] at h; exact rnd_lt hk nm h
  | .scp _ :: k, hk, nm, h => by simp only [kb] at hk; simp only [rnd] at h; exact rnd_lt hk nm h
  | .endR m :: k, hk, nm, h => by simp only [kb] at hk; simp only [rnd, Option.some.injEq] at h; subst h; exact hk.1
theorem rnf_eq {ρ ρ' : Nat → Nat} {L : Nat} (h : ∀ nm, nm < L → ρ' nm = ρ nm) {k : List It} (hk : kb L k) : rnf ρ' k = rnf ρ k := by
  unfold rnf
  cases hr : rnd k with
  | none => rfl
  | some nm => simp only [Option.map_some, h nm (rnd_lt hk nm hr)]

/- ### marks -/
def mk1 (D : Nat) : Deferred := { target := .collected D, args := #[] }
def marks : List Nat → List Deferred
  | [] => []
  | D :: l => mk1 D :: marks l
/-- The marks among a frame's deferred calls: blocks of their own, from s on, below u. -/
def MarkOk (E : Env) (w : World) (s u : Nat) (l : List Nat) : Prop := l.Nodup ∧ ∀ D ∈ l, s ≤ D ∧ D < u ∧ D < w.heap.size ∧ E.own D = none ∧ w.heap[D]? = some (.deferred (some []))
def DsOk (E : Env) (w : World) (B : Bt) (s u : Nat) (ds : List Deferred) : Prop := ∃ l, ds = marks l ++ B.ds ∧ MarkOk E w s u l
theorem DsOk.ext {E E' : Env} {w w' : World} (hx : Ext E w E' w') {B : Bt} {s u u' : Nat} (hu : u ≤ u') {ds : List Deferred} (h : DsOk E w B s u ds) : DsOk E' w' B s u' ds := by
  obtain ⟨l, h1, h2, h3⟩ := h
  refine ⟨l, h1, h2, fun D hD => ?_⟩
  obtain ⟨a, b, c, d, e⟩ := h3 D hD
  obtain ⟨k1, k2⟩ := hx.keep D c d
  exact ⟨a, Nat.lt_of_lt_of_le b hu, Nat.lt_of_lt_of_le c hx.size, k1, k2.trans e⟩

section
variable (C : Ctx) (cs : List Frame) (B : Bt)
def Goal (m : Machine) : Prop := ∃ e m', B.Fin e m' ∧ Comes C.P m m' e

variable {C cs B}
theorem Goal.of_steps {m m' : Machine} (h : Steps C.P m m') (g : Goal C B m') : Goal C B m := by
  obtain ⟨e, m', f, c⟩ := g
  exact ⟨e, m', f, Comes.of_steps h c⟩
theorem Goal.step {m m' : Machine} (h : step C.P m = .next m') (g : Goal C B m') : Goal C B m := g.of_steps (.one h)

variable (C cs B)
/-- The loops that lie about: entered no later than u. -/
def InvK (E : Env) (w : World) (s u : Nat) (fid : Nat) (frs : List Frame) : List It → Prop
  | [] => True
  | .inv ι st μ i body :: k => (∃ Ee we, we.heap.size ≤ u ∧ Ext Ee we E w ∧ kb Ee.nb k ∧ (∀ j, Ee.nb ≤ lenB (st j).2.blks ∧ Ee.nv ≤ lenV (st j).2.vecs) ∧
      ∀ j, μ j < μ i → ∀ E' w' tmps' ds', Ext Ee we E' w' → DenA E' w' (st j).1 tmps' → RelH E' (st j).2 w' → DsOk E' w' B s w'.heap.size ds' →
        Goal C B (lone (fra B ds' (rnf E'.rho k) fid tmps' (.code body :: .inLoop body :: items E'.rho k)) (frs ++ cs) w')) ∧ InvK E w s u fid frs k
  | .code _ :: k => InvK E w s u fid frs k
  | .blk _ :: k => InvK E w s u fid frs k
  | .reg _ _ :: k => InvK E w s u fid frs k
  | .inRng _ :: k => InvK E w s u fid frs k
  | .endRng _ :: k => InvK E w s u fid frs k
  | .beginR :: k => InvK E w s u fid frs k
  | .aga _ :: k => InvK E w s u fid frs k
  | .scp _ :: k => InvK E w s u fid frs k
  | .endR _ :: k => True
/-- The frames beneath: each with the world's size at which it was entered (s1), below that at which the one above it was (s). -/
def StkOk (E : Env) (w : World) (s0 : Nat) : Nat → List Fr → List Frame → Prop
  | s, [], [] => s0 ≤ s
  | s, ⟨fid, k, t⟩ :: fs, fr :: frs => ∃ s1 ds tmps, s1 ≤ s ∧ s ≤ w.heap.size ∧ fr = fra B ds (rnf E.rho k) fid tmps (items E.rho k) ∧ DenA E w t tmps ∧ kb E.nb k ∧ DsOk E w B s1 s ds ∧ (∃ fn, C.P.funcs[fid]? = some fn) ∧ InvK C cs B E w s1 s fid frs k ∧ StkOk E w s0 s1 fs frs
  | _, _, _ => False
variable {C cs B}
theorem InvK.ext {E E' : Env} {w w' : World} (hx : Ext E w E' w') {s u u' : Nat} (hu : u ≤ u') {fid : Nat} {frs : List Frame} : ∀ {k : List It}, InvK C cs B E w s u fid frs k → InvK C cs B E' w' s u' fid frs k
  | [], _ => trivial
  | .inv ι st μ i body :: k, h => by
    simp only [InvK] at h ⊢
    obtain ⟨⟨Ee, we, h0, h1, h2⟩, h3⟩ := h
    exact ⟨⟨Ee, we, Nat.le_trans h0 hu, h1.trans hx, h2⟩, h3.ext hx hu⟩
  | .code _ :: k, h => by simp only [InvK] at h ⊢; exact InvK.ext hx hu h
  | .blk _ :: k, h => by simp only [InvK] at h ⊢; exact InvK.ext hx hu h
  | .reg _ _ :: k, h => by simp only [InvK] at h ⊢; exact InvK.ext hx hu h
  | .inRng _ :: k, h => by simp only [InvK] at h ⊢; exact InvK.ext hx hu h
  | .endRng _ :: k, h => by simp only [InvK] at h ⊢; exact InvK.ext hx hu h
  | .beginR :: k, h => by simp only [InvK] at h ⊢; exact InvK.ext hx hu h
  | .aga _ :: k, h => by simp only [InvK] at h ⊢; exact InvK.ext hx hu h
  | .scp _ :: k, h => by simp only [InvK] at h ⊢; exact InvK.ext hx hu h
  | .endR _ :: k, h => by simp only [InvK]
theorem StkOk.ext {E E' : Env} {w w' : World} (hx : Ext E w E' w') {s0 : Nat} : ∀ {s : Nat} {fs : List Fr} {frs : List Frame}, StkOk C cs B E w s0 s fs frs → StkOk C cs B E' w' s0 s fs frs
  | s, [], [], h => h
  | s, [], _ :: _, h => by simp only [StkOk] at h
  | s, ⟨fid, k, t⟩ :: fs, [], h => by simp only [StkOk] at h
  | s, ⟨fid, k, t⟩ :: fs, fr :: frs, h => by
    simp only [StkOk] at h ⊢
    obtain ⟨s1, ds, tmps, h1, h2, h3, h4, h5, h6, h7, h8, h9⟩ := h
    refine ⟨s1, ds, tmps, h1, Nat.le_trans h2 hx.size, ?_, h4.ext hx, kb_le hx.nb h5, h6.ext hx (Nat.le_refl _), h7, h8.ext hx (Nat.le_refl _), h9.ext hx⟩
    rw [h3, items_eq (fun nm hn => hx.rho nm hn) h5, rnf_eq (fun nm hn => hx.rho nm hn) h5]

theorem items_exit {ρ : Nat → Nat} (id : Nat) : ∀ (k k' : List It) {L : Nat}, kb L k → exitI id k = some k' → exitTo id (items ρ k) = some (items ρ k')
  | [], k', _, _, h => by simp [exitI] at h
  | .blk id' :: k, k', L, hk, h => by
    simp only [exitI] at h
    simp only [kb] at hk
    simp only [items, exitTo]
    split at h
    · rename_i e; subst e; cases h; simp
    · rename_i e
      have : (id' == id) = false := by simpa using e
      simp only [this, Bool.false_eq_true, if_false]
      exact items_exit id k k' hk h
  | .code _ :: k, k', L, hk, h => by simp only [exitI] at h; simp only [kb] at hk; simp only [items, exitTo]; exact items_exit id k k' hk h
  | .inv _ _ _ _ _ :: k, k', L, hk, h => by simp only [exitI] at h; simp only [kb] at hk; simp only [items, exitTo]; exact items_exit id k k' hk h
  | .reg _ _ :: k, k', L, hk, h => by simp only [exitI] at h; simp only [kb] at hk; simp only [items, exitTo]; exact items_exit id k k' hk h
  | .inRng _ :: k, k', L, hk, h => by simp only [exitI] at h; simp only [kb] at hk; simp only [items, exitTo]; exact items_exit id k k' hk.2 h
  | .endRng _ :: k, k', L, hk, h => by simp only [exitI] at h; simp only [kb] at hk; simp only [items, exitTo]; exact items_exit id k k' hk.2 h
  | .beginR :: k, k', L, hk, h => by simp only [exitI] at h; simp only [kb] at hk; simp only [items, exitTo]; exact items_exit id k k' hk h
  | .aga _ :: k, k', L, hk, h => by simp only [exitI] at h; simp only [kb] at hk; simp only [items, exitTo]; exact items_exit id k k' hk h
  | .scp _ :: k, k', L, hk, h => by simp only [exitI] at h; simp only [kb] at hk; simp only [items, exitTo]; exact items_exit id k k' hk h
  | .endR _ :: k, k', L, hk, h => by simp only [kb] at hk; obtain ⟨_, rfl⟩ := hk; simp [exitI] at h
theorem items_noexit {ρ : Nat → Nat} (id : Nat) : ∀ (k : List It) {L : Nat}, kb L k → exitI id k = none → exitTo id (items ρ k) = none
  | [], _, _, h => by simp [items, exitTo]
  | .blk id' :: k, L, hk, h => by
    simp only [exitI] at h
    simp only [kb] at hk
    simp only [items, exitTo]
    split at h
    · cases h
    · rename_i e
      have : (id' == id) = false := by simpa using e
      simp only [this, Bool.false_eq_true, if_false]
      exact items_noexit id k hk h
  | .code _ :: k, L, hk, h => by simp only [exitI] at h; simp only [kb] at hk; simp only [items, exitTo]; exact items_noexit id k hk h
  | .inv _ _ _ _ _ :: k, L, hk, h => by simp only [exitI] at h; simp only [kb] at hk; simp only [items, exitTo]; exact items_noexit id k hk h
  | .reg _ _ :: k, L, hk, h => by simp only [exitI] at h; simp only [kb] at hk; simp only [items, exitTo]; exact items_noexit id k hk h
  | .inRng _ :: k, L, hk, h => by simp only [exitI] at h; simp only [kb] at hk; simp only [items, exitTo]; exact items_noexit id k hk.2 h
  | .endRng _ :: k, L, hk, h => by simp only [exitI] at h; simp only [kb] at hk; simp only [items, exitTo]; exact items_noexit id k hk.2 h
  | .beginR :: k, L, hk, h => by simp only [exitI] at h; simp only [kb] at hk; simp only [items, exitTo]; exact items_noexit id k hk h
  | .aga _ :: k, L, hk, h => by simp only [exitI] at h; simp only [kb] at hk; simp only [items, exitTo]; exact items_noexit id k hk h
  | .scp _ :: k, L, hk, h => by simp only [exitI] at h; simp only [kb] at hk; simp only [items, exitTo]; exact items_noexit id k hk h
  | .endR _ :: k, L, hk, h => by simp only [kb] at hk; obtain ⟨_, rfl⟩ := hk; simp [items, exitTo]
theorem exit_keeps {E : Env} {w : World} {s u : Nat} {fid : Nat} {frs : List Frame} (id : Nat) : ∀ (k k' : List It), kb E.nb k → exitI id k = some k' → InvK C cs B E w s u fid frs k → InvK C cs B E w s u fid frs k' ∧ kb E.nb k' ∧ rnd k' = rnd k
  | [], k', _, h, _ => by simp [exitI] at h
  | .blk id' :: k, k', hk, h, hi => by
    simp only [exitI] at h
    simp only [InvK] at hi
    simp only [kb] at hk
    split at h
    · cases h; exact ⟨hi, hk, by simp only [rnd]⟩
    · obtain ⟨a, b, c⟩ := exit_keeps id k k' hk h hi; exact ⟨a, b, by simp only [rnd]; exact c⟩
  | .code _ :: k, k', hk, h, hi => by simp only [exitI] at h; simp only [InvK] at hi; simp only [kb] at hk; simp only [rnd]; exact exit_keeps id k k' hk h hi
  | .inv _ _ _ _ _ :: k, k', hk, h, hi => by simp only [exitI] at h; simp only [InvK] at hi; simp only [kb] at hk; simp only [rnd]; exact exit_keeps id k k' hk h hi.2
  | .reg _ _ :: k, k', hk, h, hi => by simp only [exitI] at h; simp only [InvK] at hi; simp only [kb] at hk; simp only [rnd]; exact exit_keeps id k k' hk h hi
  | .inRng _ :: k, k', hk, h, hi => by simp only [exitI] at h; simp only [InvK] at hi; simp only [kb] at hk; simp only [rnd]; exact exit_keeps id k k' hk.2 h hi
  | .endRng _ :: k, k', hk, h, hi => by simp only [exitI] at h; simp only [InvK] at hi; simp only [kb] at hk; simp only [rnd]; exact exit_keeps id k k' hk.2 h hi
  | .beginR :: k, k', hk, h, hi => by simp only [exitI] at h; simp only [InvK] at hi; simp only [kb] at hk; simp only [rnd]; exact exit_keeps id k k' hk h hi
  | .aga _ :: k, k', hk, h, hi => by simp only [exitI] at h; simp only [InvK] at hi; simp only [kb] at hk; simp only [rnd]; exact exit_keeps id k k' hk h hi
  | .scp _ :: k, k', hk, h, hi => by simp only [exitI] at h; simp only [InvK] at hi; simp only [kb] at hk; simp only [rnd]; exact exit_keeps id k k' hk h hi
  | .endR _ :: k, k', hk, h, hi => by simp only [kb] at hk; obtain ⟨_, rfl⟩ := hk; simp [exitI] at h

theorem put_den {ds : List Deferred} {E : Env} {w : World} {t : List SV} {tmps : Array Value} (h : DenA E w t tmps) (d : Option Nat) {x : SV} {v : Value} (hx : Den E w x v) : DenA E w (put t d x) ((⟨tmps, ds⟩ : Act).put d v).tmps := by
  cases d with
  | none => exact h
  | some i => exact h.set i hx

/- ### subsumption -/
theorem subX_den {E : Env} {w : World} {x y : SV} {v : Value} (h : subX x y) (hd : Den E w x v) : Den E w y v := by
  unfold subX at h
  split at h
  · exact .any v
  · split at h
    · obtain ⟨rfl, rfl, hf⟩ := h
      cases hd
      · rename_i A cap g hA ho hn hc h1 hd
        exact .row A cap g hA ho hn hc h1 (fun i j hi hj => by rw [← hf i j hi hj]; exact hd i j hi hj)
      · exact .rowZ _ _
    · exact h.elim
  · subst h; exact hd
theorem subL_den {E : Env} {w : World} : ∀ {l k : List SV}, subL l k → l.length = k.length ∧ ∀ (i : Nat) (y : SV), k[i]? = some y → ∃ x, l[i]? = some x ∧ subX x y
  | [], [], _ => ⟨rfl, fun i y h => by simp at h⟩
  | x :: l, y :: k, h => by
    simp only [subL] at h
    obtain ⟨h1, h2⟩ := subL_den (E := E) (w := w) h.2
    refine ⟨by simp [h1], fun i z hz => ?_⟩
    cases i with
    | zero => simp at hz; subst hz; exact ⟨x, rfl, h.1⟩
    | succ i => simp at hz; simpa using h2 i z hz
  | [], _ :: _, h => by simp [subL] at h
  | _ :: _, [], h => by simp [subL] at h
theorem subL_denA {E : Env} {w : World} {l k : List SV} {vs : Array Value} (h : subL l k) (hd : DenA E w l vs) : DenA E w k vs := by
  obtain ⟨h1, h2⟩ := subL_den (E := E) (w := w) h
  refine ⟨by rw [hd.1, h1], fun i y u hy hu => ?_⟩
  obtain ⟨x, hx, hs⟩ := h2 i y hy
  exact subX_den hs (hd.2 i x u hx hu)
theorem subB_get : ∀ {l k : List Blk} {nm ty c}, subB l k → getB k nm = .live ty c → ∃ c', getB l nm = .live ty c' ∧ subL c' c
  | _, [], nm, ty, c, _, h => by simp [getB] at h
  | [], _ :: _, nm, ty, c, h, _ => by simp [subB] at h
  | x :: l, y :: k, 0, ty, c, h, hg => by
    simp only [subB] at h
    simp only [getB] at hg ⊢
    subst hg
    have h1 := h.1
    cases x with
    | dead => simp [subBk] at h1
    | live ty' c' => simp only [subBk] at h1; obtain ⟨rfl, h2⟩ := h1; exact ⟨c', rfl, h2⟩
    | loop _ _ _ _ _ _ _ => simp [subBk] at h1
    | mp _ => simp [subBk] at h1
  | x :: l, y :: k, nm + 1, ty, c, h, hg => by simp only [subB] at h; simp only [getB] at hg ⊢; exact subB_get h.2 hg
theorem subB_getL : ∀ {l k : List Blk} {nm a b c d e f g}, subB l k → getB k nm = .loop a b c d e f g → getB l nm = .loop a b c d e f g
  | _, [], nm, _, _, _, _, _, _, _, _, h => by simp [getB] at h
  | [], _ :: _, nm, _, _, _, _, _, _, _, h, _ => by simp [subB] at h
  | x :: l, y :: k, 0, _, _, _, _, _, _, _, h, hg => by
    simp only [subB] at h
    simp only [getB] at hg ⊢
    subst hg
    have h1 := h.1
    simp only [subBk] at h1
    exact h1
  | x :: l, y :: k, nm + 1, _, _, _, _, _, _, _, h, hg => by simp only [subB] at h; simp only [getB] at hg ⊢; exact subB_getL h.2 hg
theorem subB_getM : ∀ {l k : List Blk} {nm m}, subB l k → getB k nm = .mp m → getB l nm = .mp m
  | _, [], nm, _, _, h => by simp [getB] at h
  | [], _ :: _, nm, _, h, _ => by simp [subB] at h
  | x :: l, y :: k, 0, _, h, hg => by
    simp only [subB] at h
    simp only [getB] at hg ⊢
    subst hg
    have h1 := h.1
    simp only [subBk] at h1
    exact h1
  | x :: l, y :: k, nm + 1, _, h, hg => by simp only [subB] at h; simp only [getB] at hg ⊢; exact subB_getM h.2 hg
theorem subV_get : ∀ {l k : List Vc} {id ver ty sz n f}, subV l k → getV k id = .live ver ty sz n f → ∃ f', getV l id = .live ver ty sz n f' ∧ ∀ i j, i < n → j < sz → f' i j = f i j
  | _, [], id, ver, ty, sz, n, f, _, h => by simp [getV] at h
  | [], _ :: _, id, ver, ty, sz, n, f, h, _ => by simp [subV] at h
  | x :: l, y :: k, 0, ver, ty, sz, n, f, h, hg => by
    simp only [subV] at h
    simp only [getV] at hg ⊢
    subst hg
    have h1 := h.1
    cases x with
    | dead => simp [subVk] at h1
    | live a b c d e => simp only [subVk] at h1; obtain ⟨rfl, rfl, rfl, rfl, h2⟩ := h1; exact ⟨e, rfl, h2⟩
  | x :: l, y :: k, id + 1, ver, ty, sz, n, f, h, hg => by simp only [subV] at h; simp only [getV] at hg ⊢; exact subV_get h.2 hg
theorem bdB_get {L M : Nat} : ∀ {l : List Blk} {nm ty c}, bdB L M l → getB l nm = .live ty c → BdL L M c
  | [], nm, ty, c, _, h => by simp [getB] at h
  | .live _ _ :: l, 0, ty, c, h, hg => by simp only [bdB] at h; simp only [getB] at hg; cases hg; exact h.1
  | .dead :: l, 0, ty, c, h, hg => by simp [getB] at hg
  | .loop _ _ _ _ _ _ _ :: l, 0, ty, c, h, hg => by simp [getB] at hg
  | .mp _ :: l, 0, ty, c, h, hg => by simp [getB] at hg
  | .mp _ :: l, nm + 1, ty, c, h, hg => by simp only [bdB] at h; simp only [getB] at hg; exact bdB_get h.2 hg
  | .loop _ _ _ _ _ _ _ :: l, nm + 1, ty, c, h, hg => by simp only [bdB] at h; simp only [getB] at hg; exact bdB_get h.2 hg
  | .live _ _ :: l, nm + 1, ty, c, h, hg => by simp only [bdB] at h; simp only [getB] at hg; exact bdB_get h.2 hg
  | .dead :: l, nm + 1, ty, c, h, hg => by simp only [bdB] at h; simp only [getB] at hg; exact bdB_get h hg
theorem bdB_getL {L M : Nat} : ∀ {l : List Blk} {nm a b c d e f g}, bdB L M l → getB l nm = .loop a b c d e f g → BdL L M d
  | [], nm, _, _, _, _, _, _, _, _, h => by simp [getB] at h
  | .live _ _ :: l, 0, _, _, _, _, _, _, _, h, hg => by simp [getB] at hg
  | .dead :: l, 0, _, _, _, _, _, _, _, h, hg => by simp [getB] at hg
  | .mp _ :: l, 0, _, _, _, _, _, _, _, h, hg => by simp [getB] at hg
  | .mp _ :: l, nm + 1, _, _, _, _, _, _, _, h, hg => by simp only [bdB] at h; simp only [getB] at hg; exact bdB_getL h.2 hg
  | .loop _ _ _ _ _ _ _ :: l, 0, _, _, _, _, _, _, _, h, hg => by simp only [bdB] at h; simp only [getB] at hg; cases hg; exact h.1
  | .live _ _ :: l, nm + 1, _, _, _, _, _, _, _, h, hg => by simp only [bdB] at h; simp only [getB] at hg; exact bdB_getL h.2 hg
  | .dead :: l, nm + 1, _, _, _, _, _, _, _, h, hg => by simp only [bdB] at h; simp only [getB] at hg; exact bdB_getL h hg
  | .loop _ _ _ _ _ _ _ :: l, nm + 1, _, _, _, _, _, _, _, h, hg => by simp only [bdB] at h; simp only [getB] at hg; exact bdB_getL h.2 hg
theorem bdB2_get {L M : Nat} : ∀ {l : List Blk} {nm ty c}, bdB2 L M l → getB l nm = .live ty c → BdL L M c
  | [], nm, ty, c, _, h => by simp [getB] at h
  | .live _ _ :: l, 0, ty, c, h, hg => by simp only [bdB2] at h; simp only [getB] at hg; cases hg; exact h.1
  | .dead :: l, 0, ty, c, h, hg => by simp [getB] at hg
  | .loop _ _ _ _ _ _ _ :: l, 0, ty, c, h, hg => by simp [getB] at hg
  | .mp _ :: l, 0, ty, c, h, hg => by simp [getB] at hg
  | .mp _ :: l, nm + 1, ty, c, h, hg => by simp only [bdB2] at h; simp only [getB] at hg; exact bdB2_get h.2 hg
  | .loop _ _ _ _ _ _ _ :: l, nm + 1, ty, c, h, hg => by simp only [bdB2] at h; simp only [getB] at hg; exact bdB2_get h.2 hg
  | .live _ _ :: l, nm + 1, ty, c, h, hg => by simp only [bdB2] at h; simp only [getB] at hg; exact bdB2_get h.2 hg
  | .dead :: l, nm + 1, ty, c, h, hg => by simp only [bdB2] at h; simp only [getB] at hg; exact bdB2_get h hg
theorem bdB2_getL {L M : Nat} : ∀ {l : List Blk} {nm a b c d e f g}, bdB2 L M l → getB l nm = .loop a b c d e f g → BdL L M d
  | [], nm, _, _, _, _, _, _, _, _, h => by simp [getB] at h
  | .live _ _ :: l, 0, _, _, _, _, _, _, _, h, hg => by simp [getB] at hg
  | .dead :: l, 0, _, _, _, _, _, _, _, h, hg => by simp [getB] at hg
  | .mp _ :: l, 0, _, _, _, _, _, _, _, h, hg => by simp [getB] at hg
  | .mp _ :: l, nm + 1, _, _, _, _, _, _, _, h, hg => by simp only [bdB2] at h; simp only [getB] at hg; exact bdB2_getL h.2 hg
  | .loop _ _ _ _ _ _ _ :: l, 0, _, _, _, _, _, _, _, h, hg => by simp only [bdB2] at h; simp only [getB] at hg; cases hg; exact h.1
  | .live _ _ :: l, nm + 1, _, _, _, _, _, _, _, h, hg => by simp only [bdB2] at h; simp only [getB] at hg; exact bdB2_getL h.2 hg
  | .dead :: l, nm + 1, _, _, _, _, _, _, _, h, hg => by simp only [bdB2] at h; simp only [getB] at hg; exact bdB2_getL h hg
  | .loop _ _ _ _ _ _ _ :: l, nm + 1, _, _, _, _, _, _, _, h, hg => by simp only [bdB2] at h; simp only [getB] at hg; exact bdB2_getL h.2 hg
theorem bdB2_getM {L M : Nat} : ∀ {l : List Blk} {nm m}, bdB2 L M l → getB l nm = .mp m → itB L m.it
  | [], nm, m, _, h => by simp [getB] at h
  | .live _ _ :: l, 0, m, h, hg => by simp [getB] at hg
  | .dead :: l, 0, m, h, hg => by simp [getB] at hg
  | .loop _ _ _ _ _ _ _ :: l, 0, m, h, hg => by simp [getB] at hg
  | .mp _ :: l, 0, m, h, hg => by simp only [bdB2] at h; simp only [getB] at hg; cases hg; exact h.1
  | .mp _ :: l, nm + 1, m, h, hg => by simp only [bdB2] at h; simp only [getB] at hg; exact bdB2_getM h.2 hg
  | .loop _ _ _ _ _ _ _ :: l, nm + 1, m, h, hg => by simp only [bdB2] at h; simp only [getB] at hg; exact bdB2_getM h.2 hg
  | .live _ _ :: l, nm + 1, m, h, hg => by simp only [bdB2] at h; simp only [getB] at hg; exact bdB2_getM h.2 hg
  | .dead :: l, nm + 1, m, h, hg => by simp only [bdB2] at h; simp only [getB] at hg; exact bdB2_getM h hg
theorem bdB_getM {L M : Nat} : ∀ {l : List Blk} {nm m}, bdB L M l → getB l nm = .mp m → m.it = none
  | [], nm, m, _, h => by simp [getB] at h
  | .live _ _ :: l, 0, m, h, hg => by simp [getB] at hg
  | .dead :: l, 0, m, h, hg => by simp [getB] at hg
  | .loop _ _ _ _ _ _ _ :: l, 0, m, h, hg => by simp [getB] at hg
  | .mp _ :: l, 0, m, h, hg => by simp only [bdB] at h; simp only [getB] at hg; cases hg; exact h.1
  | .mp _ :: l, nm + 1, m, h, hg => by simp only [bdB] at h; simp only [getB] at hg; exact bdB_getM h.2 hg
  | .loop _ _ _ _ _ _ _ :: l, nm + 1, m, h, hg => by simp only [bdB] at h; simp only [getB] at hg; exact bdB_getM h.2 hg
  | .live _ _ :: l, nm + 1, m, h, hg => by simp only [bdB] at h; simp only [getB] at hg; exact bdB_getM h.2 hg
  | .dead :: l, nm + 1, m, h, hg => by simp only [bdB] at h; simp only [getB] at hg; exact bdB_getM h hg
theorem bdV_get {L M : Nat} : ∀ {l : List Vc} {id ver ty sz n f}, bdV L M l → getV l id = .live ver ty sz n f → ∀ i j, i < n → j < sz → Bd L M (f i j)
  | [], id, ver, ty, sz, n, f, _, h => by simp [getV] at h
  | .live _ _ _ _ _ :: l, 0, ver, ty, sz, n, f, h, hg => by simp only [bdV] at h; simp only [getV] at hg; cases hg; exact h.1
  | .dead :: l, 0, ver, ty, sz, n, f, h, hg => by simp [getV] at hg
  | .live _ _ _ _ _ :: l, id + 1, ver, ty, sz, n, f, h, hg => by simp only [bdV] at h; simp only [getV] at hg; exact bdV_get h.2 hg
  | .dead :: l, id + 1, ver, ty, sz, n, f, h, hg => by simp only [bdV] at h; simp only [getV] at hg; exact bdV_get h hg

/-- To a state that says less, with fewer names. -/
theorem SubS.go {E : Env} {w : World} {t : List SV} {h : HS} {s : List SV × HS} (hs : SubS t h s) {tmps : Array Value} (hd : DenA E w t tmps) (hr : RelH E h w) (L M : Nat) (hL : lenB s.2.blks = L) (hM : lenV s.2.vecs = M) (hLE : L ≤ E.nb) (hME : M ≤ E.nv) :
    DenA { E with nb := L, nv := M } w s.1 tmps ∧ RelH { E with nb := L, nv := M } s.2 w := by
  subst hL
  subst hM
  have turn : ∀ {x : SV} {v : Value}, Den E w x v → Bd (lenB s.2.blks) (lenV s.2.vecs) x → Den { E with nb := lenB s.2.blks, nv := lenV s.2.vecs } w x v := fun hx hb =>
    hx.turn hb (fun _ _ _ => rfl) (fun _ _ _ _ _ h => h) (fun _ _ h => h)
  have turnA : ∀ {l : List SV} {vs : Array Value}, DenA E w l vs → BdL (lenB s.2.blks) (lenV s.2.vecs) l → DenA { E with nb := lenB s.2.blks, nv := lenV s.2.vecs } w l vs := fun hx hb =>
    ⟨hx.1, fun i x u h1 h2 => turn (hx.2 i x u h1 h2) (BdL_get hb i x h1)⟩
  refine ⟨turnA (subL_denA hs.t hd) hs.bt, rfl, rfl, ?_, ?_, hr.own, fun nm st pend fid t params assign body hg => ?_, fun nm m hg => ?_⟩
  · intro nm ty c hg
    obtain ⟨c', h1, h2⟩ := subB_get hs.b hg
    obtain ⟨vs, a1, a2, a3, a4⟩ := hr.blk nm ty c' h1
    exact ⟨vs, a1, turnA (subL_denA h2 a2) (bdB2_get hs.bb hg), a3, a4⟩
  · intro id ver ty sz n f hg
    obtain ⟨f', h1, h2⟩ := subV_get hs.v hg
    obtain ⟨h0, ⟨a, cap, k1, k2⟩, k3⟩ := hr.vec _ _ _ _ _ _ h1
    refine ⟨h0, ⟨a, cap, k1, ?_⟩, k3⟩
    rcases k2 with hk | ⟨g1, o, cur, q1, q2, q3, q4, q5, q6, q7, q8⟩
    · exact .inl hk
    · exact .inr ⟨g1, o, cur, q1, q2, q3, q4, q5, q6, q7, fun i j u hi hj hu => turn (by rw [← h2 i j hi hj]; exact q8 i j u hi hj hu) (bdV_get hs.bv hg i j hi hj)⟩
  · obtain ⟨tmps', db, a1, a2, a3⟩ := hr.lp _ _ _ _ _ _ _ _ (subB_getL hs.b hg)
    exact ⟨tmps', db, a1, turnA a2 (bdB2_getL hs.bb hg), a3⟩
  · obtain ⟨q1, q2⟩ := hr.mp _ _ (subB_getM hs.b hg)
    refine ⟨q1, ?_⟩
    have hb := bdB2_getM hs.bb hg
    cases hi : m.it with
    | none => rw [hi] at q2; exact q2
    | some x =>
      rw [hi] at q2 hb
      obtain ⟨a1, a2, a3⟩ := x
      exact ⟨q2.1, hb⟩

def retag (i0 i1 : Nat) : Option Tag → Option Tag
  | some (.vec i) => if i = i1 then some (.vec i0) else some (.vec i)
  | x => x
theorem retag_some {i0 i1 : Nat} {x : Option Tag} {t : Tag} (h : retag i0 i1 x = some t) : ∃ t', x = some t' := by
  cases x with
  | none => simp [retag] at h
  | some t' => exact ⟨t', rfl⟩
def Env.mv (E : Env) (i0 v i1 v1 : Nat) : Env := { E with val := fun i u => if i = i0 ∧ u = v then E.val i1 v1 else E.val i u, own := fun b => retag i0 i1 (E.own b) }
theorem ext_mv {E : Env} {w : World} {i0 i1 v v1 : Nat} (hn : E.val i0 v = none) : Ext E w (E.mv i0 v i1 v1) w := by
  refine ⟨rfl, rfl, rfl, Nat.le_refl _, Nat.le_refl _, Nat.le_refl _, fun _ _ => rfl, fun id ver x _ h => ?_, fun b _ h => ⟨?_, rfl⟩, fun b h => ⟨?_, rfl⟩⟩
  · simp only [Env.mv]
    rw [if_neg]
    · exact h
    · rintro ⟨rfl, rfl⟩
      rw [hn] at h
      cases h
  · simp only [Env.mv]; rw [h]; rfl
  · simp only [Env.mv]; rw [h]; rfl
theorem mv_ok {E : Env} {w : World} {h : HS} (hr : RelH E h w) {i0 i1 v0 ty0 sz0 n0 f0 v1 ty sz n f} (h0 : getV h.vecs i0 = .live v0 ty0 sz0 n0 f0) (h1 : getV h.vecs i1 = .live v1 ty sz n f) (hne : i0 ≠ i1) :
    Ext E w (E.mv i0 (v0 + 1) i1 v1) w ∧ RelH (E.mv i0 (v0 + 1) i1 v1) { h with vecs := setV (setV h.vecs i0 (.live (v0 + 1) ty sz n f)) i1 .dead } w := by
  obtain ⟨a0, a1, a2⟩ := hr.vec _ _ _ _ _ _ h0
  have hx : Ext E w (E.mv i0 (v0 + 1) i1 v1) w := ext_mv (a2 _ (by omega))
  refine ⟨hx, hr.nb, by rw [lenV_set, lenV_set]; exact hr.nv, ?_, ?_, ?_, ?_, ?_⟩
  · intro nm ty' cells hb
    obtain ⟨cs, b1, b2, b3, b4⟩ := hr.blk nm ty' cells hb
    exact ⟨cs, b1, b2.ext hx, b3, by simp only [Env.mv]; rw [b4]; rfl⟩
  · intro id ver ty' sz' n' f' hg
    simp only [getV_set, lenV_set] at hg
    split at hg
    · cases hg
    · rename_i hid
      split at hg
      · rename_i hid0
        cases hg
        obtain ⟨rfl, _⟩ := hid0
        obtain ⟨c0, ⟨a, cap, k1, k2⟩, _⟩ := hr.vec _ _ _ _ _ _ h1
        refine ⟨c0, ⟨a, cap, by simp [Env.mv, k1], ?_⟩, fun v' hv' => by simp only [Env.mv]; rw [if_neg (by omega)]; exact a2 v' (by omega)⟩
        rcases k2 with hk | ⟨g1, o, cur, q1, q2, q3, q4, q5, q6, q7, q8⟩
        · exact .inl hk
        · exact .inr ⟨g1, o, cur, q1, q2, q3, q4, q5, by simp [Env.mv, q6, retag], q7, fun i j u hi hj hu => (q8 i j u hi hj hu).ext hx⟩
      · rename_i hid0
        have hlt := getV_lt hg
        have hi1 : id ≠ i1 := fun e => hid ⟨e, by rw [← e]; exact hlt⟩
        have hi0 : id ≠ i0 := fun e => hid0 ⟨e, by rw [← e]; exact hlt⟩
        obtain ⟨c0, ⟨a, cap, k1, k2⟩, k3⟩ := hr.vec _ _ _ _ _ _ hg
        refine ⟨c0, ⟨a, cap, by simp only [Env.mv]; rw [if_neg (by omega)]; exact k1, k2.ext hx (fun g hg' => ⟨rfl, by simp only [Env.mv]; rw [hg']; simp [retag, hi1]⟩)⟩, fun v' hv' => by simp only [Env.mv]; rw [if_neg (by omega)]; exact k3 v' hv'⟩
  · intro b t hb
    obtain ⟨t', ht'⟩ := retag_some hb
    exact hr.own _ _ ht'
  · intro nm st pend fid t params assign body hg
    exact (hr.lp _ _ _ _ _ _ _ _ hg).ext hx (fun ho => ⟨rfl, rfl, by simp only [Env.mv]; rw [ho]; rfl⟩)
  · intro nm m hg
    exact (hr.mp _ _ hg).ext hx (fun ho => ⟨rfl, rfl, by simp only [Env.mv]; rw [ho]; rfl⟩)
/-- An own slice's elements are told in other words. -/
theorem RelH.vsay {E : Env} {h : HS} {w : World} (hr : RelH E h w) {ov vo tyo szo no fo fo'} (hov : getV h.vecs ov = .live vo tyo szo no fo) (hf : ∀ i j, i < no → j < szo → ∀ u, Den E w (fo i j) u → Den E w (fo' i j) u) :
    RelH E { h with vecs := setV h.vecs ov (.live vo tyo szo no fo') } w := by
  refine ⟨hr.nb, by rw [lenV_set]; exact hr.nv, hr.blk, ?_, hr.own, hr.lp, hr.mp⟩
  intro id ver ty' sz' n' f' hg
  simp only [getV_set] at hg
  split at hg
  · rename_i hc
    obtain ⟨rfl, _⟩ := hc
    cases hg
    obtain ⟨c0, ⟨a, cap, k1, k2⟩, k3⟩ := hr.vec _ _ _ _ _ _ hov
    refine ⟨c0, ⟨a, cap, k1, ?_⟩, k3⟩
    rcases k2 with hk | ⟨g1, o, cur, q1, q2, q3, q4, q5, q6, q7, q8⟩
    · exact .inl hk
    · exact .inr ⟨g1, o, cur, q1, q2, q3, q4, q5, q6, q7, fun i j u hi hj hu => hf i j hi hj u (q8 i j u hi hj hu)⟩
  · exact hr.vec _ _ _ _ _ _ hg
theorem updA_den {E : Env} {w : World} {x : SV} : ∀ {js : List Nat} {l : List SV} {vs : Array Value}, DenA E w l vs → (∀ j, j ∈ js → Den E w x (vs.getD j undef)) → DenA E w (updA l js x) vs
  | [], _, _, hd, _ => hd
  | j :: js, l, vs, hd, h => by
    refine updA_den (js := js) ?_ (fun j' hj' => h j' (List.mem_cons_of_mem _ hj'))
    have := hd.set j (h j List.mem_cons_self)
    have e : vs.setIfInBounds j (vs.getD j undef) = vs := by
      apply Array.ext
      · simp
      · intro i h1 h2
        rw [Array.getElem_setIfInBounds]
        split
        · rename_i e; subst e; simp [Array.getD, h2]
        · rfl
    rw [e] at this
    exact this
/-- To a state of a loop. -/
def Env.give (E : Env) (id : Nat) : Env := { E with own := fun b => match E.own b with | some (.vec i) => if i = id then none else some (.vec i) | t => t }
theorem give_own {E : Env} {id b : Nat} {t : Tag} (h : E.own b = some t) (ht : t ≠ .vec id) : (E.give id).own b = E.own b := by
  simp only [Env.give, h]
  cases t <;> try rfl
  rename_i i
  simp only
  rw [if_neg (fun e => ht (by rw [e]))]
theorem give_ext (E : Env) (id : Nat) (w : World) : Ext E w (E.give id) w :=
  ⟨rfl, rfl, rfl, Nat.le_refl _, Nat.le_refl _, Nat.le_refl _, fun _ _ => rfl, fun _ _ _ _ h => h, fun b _ ho => ⟨by simp [Env.give, ho], rfl⟩, fun b ho => ⟨(give_own ho (by intro e; cases e)).trans ho, rfl⟩⟩
theorem give_rel {E : Env} {h : HS} {w : World} (hr : RelH E h w) (id : Nat) : RelH (E.give id) { h with vecs := setV h.vecs id .dead } w where
  nb := hr.nb
  nv := hr.nv.trans (lenV_set _ _ _).symm
  blk := fun nm ty cells hb => by
    obtain ⟨cs, h1, h2, h3, h4⟩ := hr.blk nm ty cells hb
    exact ⟨cs, h1, h2.ext (give_ext E id w), h3, (give_own h4 (by intro e; cases e)).trans h4⟩
  vec := fun i ver ty sz n f hv => by
    simp only [getV_set] at hv
    split at hv
    · cases hv
    · rename_i hne
      have hi : i ≠ id := fun e => by
        subst e
        exact hne ⟨rfl, getV_lt hv⟩
      obtain ⟨h0, ⟨a, cap, h1, h2⟩, h3⟩ := hr.vec i ver ty sz n f hv
      exact ⟨h0, ⟨a, cap, h1, h2.ext (give_ext E id w) (fun g hg => ⟨rfl, give_own hg (by intro e; cases e; exact hi rfl)⟩)⟩, h3⟩
  own := fun b t hb => by
    cases ho : E.own b with
    | none => simp [Env.give, ho] at hb
    | some t' => exact hr.own b t' ho
  lp := fun nm st pend fid t params assign body hb => (hr.lp _ _ _ _ _ _ _ _ hb).ext (give_ext E id w) (fun ho => ⟨rfl, rfl, give_own ho (by intro e; cases e)⟩)
  mp := fun nm m hb => (hr.mp _ _ hb).ext (give_ext E id w) (fun ho => ⟨rfl, rfl, give_own ho (by intro e; cases e)⟩)
theorem give_den {E : Env} {h : HS} {w : World} (hr : RelH E h w) {id ver ty sz n f} (hg : getV h.vecs id = .live ver ty sz n f) {v : Value} (hd : Den E w (.vec id ver) v) : Den (E.give id) w (.row n sz f) v := by
  obtain ⟨h0, ⟨a', cap', h2, h3⟩, h4⟩ := hr.vec id ver ty sz n f hg
  cases hd with
  | @vec _ _ a n' cap hi hv =>
    rw [hv] at h2
    cases h2
    rcases h3 with ⟨_, rfl, rfl⟩ | ⟨b, o, cur, rfl, k2, k3, k4, k5, k6, k7, k8⟩
    · exact .rowZ _ _
    · have hlt : ∀ i j, i < n → j < sz → i * sz + j < n * sz := fun i j hi hj => by
        have := Nat.mul_le_mul_right sz (Nat.succ_le_of_lt hi)
        rw [Nat.succ_mul] at this
        omega
      have hle : o + n * sz ≤ cur.size := Nat.le_trans (Nat.add_le_add_left (Nat.mul_le_mul_right sz k2) _) k5
      have hget : ∀ i j, i < n → j < sz → cur[o + (i * sz + j)]? = some (cur.getD (o + (i * sz + j)) undef) := fun i j hi hj => by
        have := hlt i j hi hj
        have h2 : o + (i * sz + j) < cur.size := by omega
        simp [Array.getD, h2]
      refine .row ⟨b, o, none⟩ cap' (fun i j => cur.getD (o + (i * sz + j)) undef) (hr.own _ _ k6) (by simp [Env.give, k6]) k2 (fun i j hi hj => ?_) (fun i j hi hj => k7 _ _ (hlt i j hi hj) (hget i j hi hj)) (fun i j hi hj => (k8 i j _ hi hj (hget i j hi hj)).ext (give_ext E id w))
      rw [Addr.add_lit]
      have h2 : o + (i * sz + j) < cur.size := by have := hlt i j hi hj; omega
      simp [World.cell?, k4, h2, Array.getD]
theorem give_relV {E : Env} {h : HS} {w : World} (hr : RelH E h w) {id ov v ty sz n f vo tyo szo no fo fo'} (hid : getV h.vecs id = .live v ty sz n f) (hov : getV h.vecs ov = .live vo tyo szo no fo) (hne : ov ≠ id)
    (hf : ∀ i j, i < no → j < szo → fo' i j = fo i j ∨ (fo i j = .vec id v ∧ fo' i j = .row n sz f)) : RelH (E.give id) { h with vecs := setV (setV h.vecs id .dead) ov (.live vo tyo szo no fo') } w := by
  have hg := give_rel hr id
  refine ⟨hg.nb, hg.nv.trans (lenV_set _ _ _).symm, hg.blk, ?_, hg.own, hg.lp, hg.mp⟩
  intro i ver ty' sz' n' f' hv
  simp only [getV_set (setV h.vecs id .dead)] at hv
  split at hv
  · rename_i hc
    obtain ⟨rfl, _⟩ := hc
    cases hv
    obtain ⟨h0, ⟨a, cap, h1, h2⟩, h3⟩ := hr.vec i _ _ _ _ _ hov
    refine ⟨h0, ⟨a, cap, h1, ?_⟩, h3⟩
    rcases h2 with h2 | ⟨g, o, cur, k1, k2, k3, k4, k5, k6, k7, k8⟩
    · exact .inl h2
    · refine .inr ⟨g, o, cur, k1, k2, k3, k4, k5, (give_own k6 (by intro e; cases e; exact hne rfl)).trans k6, k7, fun i j u hi hj hu => ?_⟩
      rcases hf i j hi hj with e | ⟨e1, e2⟩
      · rw [e]; exact (k8 i j u hi hj hu).ext (give_ext E id w)
      · rw [e2]
        have := k8 i j u hi hj hu
        rw [e1] at this
        exact give_den hr hid this
  · exact hg.vec i ver ty' sz' n' f' hv
theorem give_relB {E : Env} {h : HS} {w : World} (hr : RelH E h w) {id nm k v ty sz n f bty cells} (hid : getV h.vecs id = .live v ty sz n f) (hnm : getB h.blks nm = .live bty cells) (hk : nth cells k = .vec id v) :
    RelH (E.give id) { blks := setB h.blks nm (.live bty (upd cells k (.row n sz f))), vecs := setV h.vecs id .dead } w := by
  have hg := give_rel hr id
  refine ⟨hg.nb.trans (lenB_set _ _ _).symm, hg.nv, ?_, hg.vec, hg.own, ?_, ?_⟩
  · intro m ty' c' hb
    simp only [getB_set] at hb
    split at hb
    · rename_i hc
      obtain ⟨rfl, _⟩ := hc
      cases hb
      obtain ⟨cs, h1, h2, h3, h4⟩ := hr.blk _ _ _ hnm
      refine ⟨cs, h1, ⟨by rw [h2.1, upd_eq]; simp, fun i x u hx hu => ?_⟩, h3, (give_own h4 (by intro e; cases e)).trans h4⟩
      rw [upd_eq, List.getElem?_set] at hx
      split at hx
      · rename_i e
        subst e
        split at hx
        · rename_i hlt
          cases hx
          have h5 : cells[k]? = some (.vec id v) := by
            rw [nth_eq, List.getD_eq_getElem?_getD, List.getElem?_eq_getElem hlt] at hk
            rw [List.getElem?_eq_getElem hlt, ← hk]
            rfl
          exact give_den hr hid (h2.2 k _ u h5 hu)
        · cases hx
      · exact (h2.2 i x u hx hu).ext (give_ext E id w)
    · exact hg.blk m ty' c' hb
  · intro m st pend fid t params assign body hb
    simp only [getB_set] at hb
    split at hb
    · cases hb
    · exact hg.lp _ _ _ _ _ _ _ _ hb
  · intro m mp hb
    simp only [getB_set] at hb
    split at hb
    · cases hb
    · exact hg.mp _ _ hb
theorem subB_len : ∀ {l k : List Blk}, subB l k → lenB k ≤ lenB l
  | _, [], _ => Nat.zero_le _
  | [], _ :: _, h => h.elim
  | _ :: l, _ :: k, h => by have := subB_len (l := l) (k := k) h.2; simp only [lenB]; omega
theorem subV_len : ∀ {l k : List Vc}, subV l k → lenV k ≤ lenV l
  | _, [], _ => Nat.zero_le _
  | [], _ :: _, h => h.elim
  | _ :: l, _ :: k, h => by have := subV_len (l := l) (k := k) h.2; simp only [lenV]; omega
theorem SubM.len {t : List SV} {h : HS} {s : List SV × HS} (hs : SubM t h s) : lenB s.2.blks ≤ lenB h.blks ∧ lenV s.2.vecs ≤ lenV h.vecs := by
  induction hs with
  | sub hsub => exact ⟨subB_len hsub.b, subV_len hsub.v⟩
  | mv i0 i1 js h0 h1 hne hj _ ih => simpa only [lenV_set] using ih
  | fz id js h0 hj _ ih => simpa only [lenV_set] using ih
  | fzV id ov js h0 h1 hne hj hf _ ih => simpa only [lenV_set] using ih
  | mvV i0 i1 ov fo' h0 h1 h2 hne ho0 ho1 hf _ ih => simpa only [lenV_set] using ih
  | fzB id nm k h0 h1 hk _ ih => simpa only [lenV_set, lenB_set] using ih
theorem SubM.go {t : List SV} {h : HS} {s : List SV × HS} (hs : SubM t h s) : ∀ {E : Env} {w : World} {tmps : Array Value}, DenA E w t tmps → RelH E h w → ∀ (L M : Nat), lenB s.2.blks = L → lenV s.2.vecs = M → L ≤ E.nb → M ≤ E.nv →
    ∃ E', E'.rho = E.rho ∧ Ext E w E' w ∧ DenA { E' with nb := L, nv := M } w s.1 tmps ∧ RelH { E' with nb := L, nv := M } s.2 w := by
  induction hs with
  | sub hsub =>
    intro E w tmps hd hr L M hL hM h1 h2
    exact ⟨E, rfl, Ext.refl E w, hsub.go hd hr L M hL hM h1 h2⟩
  | mv i0 i1 js h0 h1 hne hj _ ih =>
    intro E w tmps hd hr L M hL hM hLE hME
    obtain ⟨hx, hr'⟩ := mv_ok hr h0 h1 hne
    obtain ⟨c0, ⟨a, cap, k1, k2⟩, _⟩ := hr.vec _ _ _ _ _ _ h1
    obtain ⟨E', e1, e2, e3⟩ := ih (updA_den (hd.ext hx) (fun j hjm => by
      have hj' := hd.nth j
      rw [hj j hjm] at hj'
      generalize tmps.getD j undef = u at hj' ⊢
      cases hj' with
      | vec hi hv =>
        rw [k1] at hv
        cases hv
        have hlt0 := getV_lt h0
        exact .vec (by simp only [Env.mv]; rw [hr.nv]; exact hlt0) (by simp [Env.mv, k1]))) hr' L M hL hM hLE hME
    exact ⟨E', e1, hx.trans e2, e3⟩
  | fz id js h0 hj _ ih =>
    intro E w tmps hd hr L M hL hM hLE hME
    have hx := give_ext E id w
    obtain ⟨E', e1, e2, e3⟩ := ih (updA_den (hd.ext hx) (fun j hjm => by
      have hj' := hd.nth j
      rw [hj j hjm] at hj'
      exact give_den hr h0 hj')) (give_rel hr id) L M hL hM hLE hME
    exact ⟨E', e1, hx.trans e2, e3⟩
  | fzV id ov js h0 h1 hne hj hf _ ih =>
    intro E w tmps hd hr L M hL hM hLE hME
    have hx := give_ext E id w
    obtain ⟨E', e1, e2, e3⟩ := ih (updA_den (hd.ext hx) (fun j hjm => by
      have hj' := hd.nth j
      rw [hj j hjm] at hj'
      exact give_den hr h0 hj')) (give_relV hr h0 h1 hne hf) L M hL hM hLE hME
    exact ⟨E', e1, hx.trans e2, e3⟩
  | @mvV t h s i0 i1 ov v0 ty0 sz0 n0 f0 v1 ty sz n f vo tyo szo no fo fo' h0 h1 h2 hne ho0 ho1 hf _ ih =>
    intro E w tmps hd hr L M hL hM hLE hME
    obtain ⟨hx, hr'⟩ := mv_ok hr h0 h1 hne
    obtain ⟨c0, ⟨a, cap, k1, k2⟩, _⟩ := hr.vec _ _ _ _ _ _ h1
    have hov : getV (setV (setV h.vecs i0 (.live (v0 + 1) ty sz n f)) i1 .dead) ov = .live vo tyo szo no fo := by rw [getV_set, if_neg (fun e => ho1 e.1), getV_set, if_neg (fun e => ho0 e.1)]; exact h2
    obtain ⟨E', e1, e2, e3⟩ := ih (E := E.mv i0 (v0 + 1) i1 v1) ⟨hd.1, fun i x u hx' hu => (hd.2 i x u hx' hu).ext hx⟩ (hr'.vsay hov (fun i j hi hj u hu => by
      rcases hf i j hi hj with e | ⟨e, e'⟩
      · rw [e]; exact hu
      · rw [e] at hu
        rw [e']
        cases hu with
        | vec hi hv =>
          rename_i a1 n1 cap1
          have hv' : E.val i1 v1 = some (a1, n1, cap1) := by simpa [Env.mv, Ne.symm hne] using hv
          rw [k1] at hv'
          cases hv'
          have hlt0 := getV_lt h0
          exact .vec (by simp only [Env.mv]; rw [hr.nv]; exact hlt0) (by simp [Env.mv, k1]))) L M hL hM hLE hME
    exact ⟨E', e1, hx.trans e2, e3⟩
  | fzB id nm k h0 h1 hk _ ih =>
    intro E w tmps hd hr L M hL hM hLE hME
    have hx := give_ext E id w
    obtain ⟨E', e1, e2, e3⟩ := ih ⟨hd.1, fun i x u hx' hu => (hd.2 i x u hx' hu).ext hx⟩ (give_relB hr h0 h1 hk) L M hL hM hLE hME
    exact ⟨E', e1, hx.trans e2, e3⟩
theorem mkH_ok : ∀ (mk : List (TypeId × Nat)), (∀ p, p ∈ mk → 0 < p.2) → ∀ {E : Env} {h : HS} {w : World}, RelH E h w → ∃ E', E'.rho = E.rho ∧ Ext E w E' w ∧ RelH E' (mkH mk h) w
  | [], _, E, _, w, hr => ⟨E, rfl, Ext.refl E w, hr⟩
  | (ty, sz) :: l, hp, E, h, w, hr => by
    obtain ⟨E', e1, e2, e3⟩ := mkH_ok l (fun p hm => hp p (List.mem_cons_of_mem _ hm)) (hr.newVec ty sz (hp _ List.mem_cons_self) (fun _ _ => .any))
    exact ⟨E', e1, (ext_newV E w).trans e2, e3⟩
theorem mkH_len : ∀ (mk : List (TypeId × Nat)) (h : HS), lenB (mkH mk h).blks = lenB h.blks ∧ lenV (mkH mk h).vecs = lenV h.vecs + mk.length
  | [], h => ⟨rfl, rfl⟩
  | (ty, sz) :: l, h => by
    obtain ⟨a, b⟩ := mkH_len l { h with vecs := snocV h.vecs (.live 0 ty sz 0 fun _ _ => .any) }
    exact ⟨a, by simp only [mkH]; rw [b, lenV_snoc]; simp only [List.length_cons]; omega⟩

/- ### results -/
def rv1 (tmps : Array Value) (r : ResultVar) : Sem Value :=
  match r with
  | .tmp t => pure (tmps.getD t undef)
  | .cell a t => do loadVar t (← asAddr (tmps.getD a undef))
theorem resL_ok {P : Program} {T : Nat → Option TI} (hT : TOk P T) {E : Env} {w : World} {t : List SV} {h : HS} {tmps : Array Value} (hd : DenA E w t tmps) (hr : RelH E h w) :
    ∀ (l : List ResultVar) (p : Prop) (vs : List SV), resL T t h l = some (p, vs) → p →
      ∃ us : List Value, (l.mapM (rv1 tmps)).run P w = .ok us w ∧ us.length = vs.length ∧ ∀ (i : Nat) (x : SV) (u : Value), vs[i]? = some x → us[i]? = some u → Den E w x u
  | [], p, vs, hl, hp => by simp [resL] at hl; obtain ⟨_, rfl⟩ := hl; exact ⟨[], by simp, rfl, fun i x u hx => by simp at hx⟩
  | .tmp i :: l, p, vs, hl, hp => by
    simp only [resL] at hl
    cases hr2 : resL T t h l with
    | none => simp [hr2] at hl
    | some pv =>
      obtain ⟨p', vs'⟩ := pv
      simp only [hr2, Option.some.injEq, Prod.mk.injEq] at hl
      obtain ⟨rfl, rfl⟩ := hl
      obtain ⟨us, h1, h2, h3⟩ := resL_ok hT hd hr l p' vs' hr2 hp
      refine ⟨tmps.getD i undef :: us, by simp [List.mapM_cons, rv1, h1], by simp [h2], fun k x u hx hu => ?_⟩
      cases k with
      | zero => simp at hx hu; subst hx hu; simpa using hd.nth i
      | succ k => simp at hx hu; exact h3 k x u hx hu
  | .cell a ty :: l, p, vs, hl, hp => by
    simp only [resL] at hl
    cases hti : T ty with
    | none => simp [hti] at hl
    | some ti =>
      simp only [hti] at hl
      have hload := rLoad_at (P := P) hr (hT _ _ hti) (hd.nth a)
      cases hrl : rLoad ti h (nth t a) with
      | val q v h' =>
        cases hr2 : resL T t h l with
        | none => simp [hrl, hr2] at hl
        | some pv =>
          obtain ⟨p', vs'⟩ := pv
          simp only [hrl, hr2, Option.some.injEq, Prod.mk.injEq] at hl
          obtain ⟨rfl, rfl⟩ := hl
          obtain ⟨us, h1, h2, h3⟩ := resL_ok hT hd hr l p' vs' hr2 hp.2
          rw [hrl] at hload
          obtain ⟨A, val, e, k1, k2, _⟩ := hload hp.1
          refine ⟨val :: us, by simp only [List.mapM_cons, rv1, e]; simp [asAddr, k1, h1], by simp [h2], fun k x u hx hu => ?_⟩
          cases k with
          | zero => simp at hx hu; subst hx hu; exact k2
          | succ k => simp at hx hu; exact h3 k x u hx hu
      | _ => simp [hrl] at hl
theorem results_ok {P : Program} {T : Nat → Option TI} (hT : TOk P T) {E : Env} {w : World} {t : List SV} {h : HS} {tmps : Array Value} (hd : DenA E w t tmps) (hr : RelH E h w) (fn : Func)
    {p : Prop} {vs : List SV} (hl : resL T t h fn.results.toList = some (p, vs)) (hp : p) : ∃ v, (results fn tmps).run P w = .ok v w ∧ Den E w (oneR vs) v := by
  obtain ⟨us, h1, h2, h3⟩ := resL_ok (P := P) hT hd hr _ _ _ hl hp
  have hres : results fn tmps = (fn.results.mapM (rv1 tmps) >>= fun vs => pure (if h : vs.size = 1 then vs[0] else .tuple vs)) := by
    unfold results
    congr 1
  have e : (results fn tmps).run P w = .ok (if h : us.toArray.size = 1 then us.toArray[0] else .tuple us.toArray) w := by
    rw [hres, Array.mapM_eq_mapM_toList]
    simp only [Sem.run_bind, Sem.run_map, h1, Result.andThen_ok, Sem.run_pure]
  refine ⟨_, e, ?_⟩
  match vs, us, h2, h3 with
  | [x], [u], _, h3 => exact h3 0 x u rfl rfl
  | [], [], _, h3 => exact .tup _ rfl (fun i x u hx => by simp at hx)
  | x :: y :: l, u :: v :: k, h2, h3 =>
    simp only [oneR]
    rw [dif_neg (by simp)]
    exact .tup _ (by simpa using h2) (fun i a b ha hb => h3 i a b ha (by simpa using hb))
end
end Go.Eng
end

/- The symbolic machine is right: frames and their ends. -/
section
namespace Go.Eng
open Go.RowKit
set_option linter.unusedVariables false

section
variable {P : Program} {b : Frame} {a : Act} {k : List Item} {cs : List Frame} {w w' : World} {ops : Array Oper} {i : Nat} {rest : List Nat} {o : Oper}
theorem op_value (hn : ∀ c, o.op ≠ .defer c) (ho : ops[i]? = some o) (hw : Region.wanted o (yielded ops a.tmps) = true) {v : Value} (hr : (execOp a.eval o).run P w = .ok (.value v) w') :
    step P (lone (b.atR a (.inRegion ops (i :: rest) :: k)) cs w) = .next (lone (b.atR (a.put o.dst v) (.inRegion ops rest :: k)) cs w') := by
  have hg := stepGR_op (P := P) (b := b) (k := k) (cs := cs) (w := w) (rest := rest) ho hw
  rw [Oper.semAt_eq _ _ _ hn] at hg
  have hfin : (b.atR a (.inRegion ops (i :: rest) :: k)).finish v = b.atR (a.put o.dst v) (.inRegion ops rest :: k) := by rw [Frame.finish_atR, ho]; rfl
  exact step_lone_go (by rw [hg, ← hfin]; simp [stepG.apply, hr])
theorem op_skip (hn : ∀ c, o.op ≠ .defer c) (ho : ops[i]? = some o) (hw : Region.wanted o (yielded ops a.tmps) = true) (hr : (execOp a.eval o).run P w = .ok .skip w') :
    step P (lone (b.atR a (.inRegion ops (i :: rest) :: k)) cs w) = .next (lone (b.atR (a.put o.dst undef) (.inRegion ops rest :: k)) cs w') := by
  have hg := stepGR_op (P := P) (b := b) (k := k) (cs := cs) (w := w) (rest := rest) ho hw
  rw [Oper.semAt_eq _ _ _ hn] at hg
  have hfin : (b.atR a (.inRegion ops (i :: rest) :: k)).finish undef = b.atR (a.put o.dst undef) (.inRegion ops rest :: k) := by rw [Frame.finish_atR, ho]; rfl
  exact step_lone_go (by rw [hg, ← hfin]; simp [stepG.apply, hr])
theorem op_enter (hn : ∀ c, o.op ≠ .defer c) (ho : ops[i]? = some o) (hw : Region.wanted o (yielded ops a.tmps) = true) {f : Nat} {args : Array Value} (hr : (execOp a.eval o).run P w = .ok (.enter f args) w') :
    step P (lone (b.atR a (.inRegion ops (i :: rest) :: k)) cs w) = .next (lone (Frame.enter P f args .normal) (b.atR a (.inRegion ops (i :: rest) :: k) :: cs) w') := by
  have hg := stepGR_op (P := P) (b := b) (k := k) (cs := cs) (w := w) (rest := rest) ho hw
  rw [Oper.semAt_eq _ _ _ hn] at hg
  exact step_lone_go (by rw [hg]; simp [stepG.apply, hr, Frame.atR])
theorem op_round (hn : ∀ c, o.op ≠ .defer c) (ho : ops[i]? = some o) (hw : Region.wanted o (yielded ops a.tmps) = true) {l f : Nat} {tmps : Array Value} {x y : Code} (hr : (execOp a.eval o).run P w = .ok (.round l f tmps x y) w') :
    step P (lone (b.atR a (.inRegion ops (i :: rest) :: k)) cs w) = .next (lone (Frame.round l f tmps x y .normal) (b.atR a (.inRegion ops (i :: rest) :: k) :: cs) w') := by
  have hg := stepGR_op (P := P) (b := b) (k := k) (cs := cs) (w := w) (rest := rest) ho hw
  rw [Oper.semAt_eq _ _ _ hn] at hg
  exact step_lone_go (by rw [hg]; simp [stepG.apply, hr, Frame.atR])
theorem op_panic (hn : ∀ c, o.op ≠ .defer c) (ho : ops[i]? = some o) (hw : Region.wanted o (yielded ops a.tmps) = true) {v : Value} (hr : (execOp a.eval o).run P w = .halt (.panic v) w') :
    step P (lone (b.atR a (.inRegion ops (i :: rest) :: k)) cs w) = .next (lone { b.atR a (.inRegion ops (i :: rest) :: k) with mode := .panicking [{ v, recovered := false }] } cs w') := by
  have hg := stepGR_op (P := P) (b := b) (k := k) (cs := cs) (w := w) (rest := rest) ho hw
  rw [Oper.semAt_eq _ _ _ hn] at hg
  exact step_lone_go (by rw [hg, ← Frame.raise_atR]; simp [stepG.apply, hr])
end

/- ### marks are taken -/
structure Tk (E : Env) (w w1 : World) (s : Nat) : Prop where
  os : w1.os = w.os
  tape : w1.tape = w.tape
  output : w1.output = w.output
  size : w1.heap.size = w.heap.size
  low : ∀ b, b < s → w1.heap[b]? = w.heap[b]?
  own : ∀ b t, E.own b = some t → w1.heap[b]? = w.heap[b]?
  cell : ∀ a v, w.cell? a = some v → w1.cell? a = some v
theorem Tk.refl (E : Env) (w : World) (s : Nat) : Tk E w w s := ⟨rfl, rfl, rfl, rfl, fun _ _ => rfl, fun _ _ _ => rfl, fun _ _ h => h⟩
theorem Tk.trans {E : Env} {w w1 w2 : World} {s : Nat} (h : Tk E w w1 s) (k : Tk E w1 w2 s) : Tk E w w2 s :=
  ⟨k.os.trans h.os, k.tape.trans h.tape, k.output.trans h.output, k.size.trans h.size, fun b hb => (k.low b hb).trans (h.low b hb), fun b t ho => (k.own b t ho).trans (h.own b t ho), fun a v hv => k.cell a v (h.cell a v hv)⟩
theorem Tk.less {E : Env} {w w1 : World} {s s' : Nat} (h : Tk E w w1 s) (hs : s' ≤ s) : Tk E w w1 s' := { h with low := fun b hb => h.low b (Nat.lt_of_lt_of_le hb hs) }
theorem Tk.one {E : Env} {w : World} {s D : Nat} (h1 : s ≤ D) (h2 : E.own D = none) (h3 : w.heap[D]? = some (.deferred (some []))) : Tk E w (w.putObj D (.deferred none)) s := by
  refine ⟨rfl, rfl, rfl, World.putObj_size, fun b hb => World.putObj_heap_other (by omega), fun b t ho => World.putObj_heap_other (fun e => by subst e; rw [h2] at ho; cases ho), fun a v hv => ?_⟩
  have hne : a.block ≠ D := fun e => by
    unfold World.cell? at hv
    rw [e, h3] at hv
    simp at hv
  exact (World.cell?_of_block (World.putObj_heap_other hne)).trans hv
theorem Tk.den {E : Env} {w w1 : World} {s : Nat} (h : Tk E w w1 s) {x : SV} {v : Value} (hd : Den E w x v) : Den E w1 x v := by
  induction hd with
  | any v => exact .any v
  | int k n => exact .int k n
  | bool b => exact .bool b
  | str s => exact .str s
  | ptr hn => exact .ptr hn
  | nilp => exact .nilp
  | nils h => exact .nils h
  | @rptr sz f A g hA ho hc h1 hd ih => exact .rptr A g (by rw [h.size]; exact hA) ho (fun j hj => h.cell _ _ (hc j hj)) h1 ih
  | @row n sz f A cap g hA ho hn hc h1 hd ih => exact .row A cap g (by rw [h.size]; exact hA) ho hn (fun i j hi hj => h.cell _ _ (hc i j hi hj)) h1 ih
  | rowZ a cap => exact .rowZ a cap
  | vec hi hv => exact .vec hi hv
  | vptr hi hv => exact .vptr hi hv
  | vcut hi hv hn hc ha h0 hA hB => exact .vcut hi hv hn hc ha h0 hA hB
  | bsl hn hc => exact .bsl hn hc
  | mapp hn => exact .mapp hn
  | func vs hs hd ih => exact .func vs hs ih
  | meth vs hs hd ih => exact .meth vs hs ih
  | nilf => exact .nilf
  | iface _ ih => exact .iface ih
  | nili => exact .nili
  | agg vs hs h1 hd ih => exact .agg vs hs h1 ih
  | tup vs hs hd ih => exact .tup vs hs ih
  | yield hn => exact .yield hn
theorem Tk.denA {E : Env} {w w1 : World} {s : Nat} (h : Tk E w w1 s) {l : List SV} {vs : Array Value} (hd : DenA E w l vs) : DenA E w1 l vs := ⟨hd.1, fun i x u hx hu => h.den (hd.2 i x u hx hu)⟩
theorem Tk.rel {E : Env} {w w1 : World} {s : Nat} (h : Tk E w w1 s) {hh : HS} (hr : RelH E hh w) : RelH E hh w1 where
  nb := hr.nb
  nv := hr.nv
  blk := fun nm ty cells hb => by
    obtain ⟨cs, h1, h2, h3, h4⟩ := hr.blk nm ty cells hb
    exact ⟨cs, (h.own _ _ h4).trans h1, h.denA h2, h3, h4⟩
  vec := fun id ver ty sz n f hv => by
    obtain ⟨h0, ⟨a, cap, h1, h2⟩, h3⟩ := hr.vec id ver ty sz n f hv
    refine ⟨h0, ⟨a, cap, h1, ?_⟩, h3⟩
    rcases h2 with hk | ⟨g, o, cur, q1, q2, q3, q4, q5, q6, q7, q8⟩
    · exact .inl hk
    · exact .inr ⟨g, o, cur, q1, q2, q3, (h.own _ _ q6).trans q4, q5, q6, q7, fun i j u hi hj hu => h.den (q8 i j u hi hj hu)⟩
  own := fun b t hb => by rw [h.size]; exact hr.own b t hb
  lp := fun nm st pend fid t params assign body hb => by
    obtain ⟨tmps, db, h1, h2, h3⟩ := hr.lp _ _ _ _ _ _ _ _ hb
    exact ⟨tmps, db, (h.own _ _ h3).trans h1, h.denA h2, h3⟩
  mp := fun nm m hb => (hr.mp _ _ hb).ext' (Nat.le_refl _) (fun _ _ => rfl) (fun ho => ⟨rfl, h.own _ _ ho, rfl⟩)
theorem Tk.ext {E Ea : Env} {w w1 wa : World} {s : Nat} (h : Tk E w w1 s) (hx : Ext Ea wa E w) (hs : wa.heap.size ≤ s) : Ext Ea wa E w1 :=
  ⟨h.os.trans hx.os, h.tape.trans hx.tape, h.output.trans hx.output, by rw [h.size]; exact hx.size, hx.nb, hx.nv, hx.rho, hx.val,
   fun b hb ho => let ⟨k1, k2⟩ := hx.keep b hb ho; ⟨k1, (h.low b (Nat.lt_of_lt_of_le hb hs)).trans k2⟩,
   fun b ho => let ⟨k1, k2⟩ := hx.oth b ho; ⟨k1, (h.own b _ k1).trans k2⟩⟩
theorem Tk.ds {E : Env} {w w1 : World} {s s' u : Nat} (h : Tk E w w1 s) (hu : u ≤ s) {B : Bt} {ds : List Deferred} (hd : DsOk E w B s' u ds) : DsOk E w1 B s' u ds := by
  obtain ⟨l, h1, h2, h3⟩ := hd
  refine ⟨l, h1, h2, fun D hD => ?_⟩
  obtain ⟨a, b, c, d, e⟩ := h3 D hD
  exact ⟨a, b, by rw [h.size]; exact c, d, (h.low D (Nat.lt_of_lt_of_le b hu)).trans e⟩
section
variable {C : Ctx} {cs : List Frame} {B : Bt}
theorem Tk.inv {E : Env} {w w1 : World} {s s' u : Nat} (h : Tk E w w1 s) (hu : u ≤ s) {fid : Nat} {frs : List Frame} : ∀ {k : List It}, InvK C cs B E w s' u fid frs k → InvK C cs B E w1 s' u fid frs k
  | [], _ => trivial
  | .inv ι st μ i body :: k, hi => by
    simp only [InvK] at hi ⊢
    obtain ⟨⟨Ee, we, h0, h1, h2⟩, h3⟩ := hi
    exact ⟨⟨Ee, we, h0, h.ext h1 (Nat.le_trans h0 hu), h2⟩, h.inv hu h3⟩
  | .code _ :: k, hi => by simp only [InvK] at hi ⊢; exact h.inv hu hi
  | .blk _ :: k, hi => by simp only [InvK] at hi ⊢; exact h.inv hu hi
  | .reg _ _ :: k, hi => by simp only [InvK] at hi ⊢; exact h.inv hu hi
  | .inRng _ :: k, hi => by simp only [InvK] at hi ⊢; exact h.inv hu hi
  | .endRng _ :: k, hi => by simp only [InvK] at hi ⊢; exact h.inv hu hi
  | .beginR :: k, hi => by simp only [InvK] at hi ⊢; exact h.inv hu hi
  | .aga _ :: k, hi => by simp only [InvK] at hi ⊢; exact h.inv hu hi
  | .scp _ :: k, hi => by simp only [InvK] at hi ⊢; exact h.inv hu hi
  | .endR _ :: k, hi => by simp only [InvK]
theorem Tk.stk {E : Env} {w w1 : World} {s0 : Nat} : ∀ {s : Nat} (h : Tk E w w1 s) {fs : List Fr} {frs : List Frame}, StkOk C cs B E w s0 s fs frs → StkOk C cs B E w1 s0 s fs frs
  | s, h, [], [], hs => hs
  | s, h, [], _ :: _, hs => by simp only [StkOk] at hs
  | s, h, ⟨fid, k, t⟩ :: fs, [], hs => by simp only [StkOk] at hs
  | s, h, ⟨fid, k, t⟩ :: fs, fr :: frs, hs => by
    simp only [StkOk] at hs ⊢
    obtain ⟨s1, ds, tmps, h1, h2, h3, h4, h5, h6, h7, h8, h9⟩ := hs
    exact ⟨s1, ds, tmps, h1, by rw [h.size]; exact h2, h3, h.denA h4, h5, h.ds (Nat.le_refl _) h6, h7, h.inv (Nat.le_refl _) h8, (h.less h1).stk h9⟩
theorem stk_le {E : Env} {w : World} {s0 : Nat} : ∀ {s : Nat} {fs : List Fr} {frs : List Frame}, StkOk C cs B E w s0 s fs frs → s0 ≤ s
  | s, [], [], h => h
  | s, [], _ :: _, h => by simp only [StkOk] at h
  | s, ⟨fid, k, t⟩ :: fs, [], h => by simp only [StkOk] at h
  | s, ⟨fid, k, t⟩ :: fs, fr :: frs, h => by
    simp only [StkOk] at h
    obtain ⟨s1, ds, tmps, h1, h2, h3, h4, h5, h6, h7, h8, h9⟩ := h
    exact Nat.le_trans (stk_le h9) h1

theorem take_steps {P : Program} {E : Env} {s u : Nat} {D0 : List Deferred} {cs : List Frame} : ∀ (l : List Nat) (fr : Frame) (w : World), fr.mode ≠ .run → fr.defers = marks l ++ D0 → MarkOk E w s u l →
    ∃ w1, Steps P (lone fr cs w) (lone { fr with defers := D0 } cs w1) ∧ Tk E w w1 s
  | [], fr, w, hm, hd, hk => ⟨w, by rw [show ({ fr with defers := D0 } : Frame) = fr from by cases fr; simp only [marks, List.nil_append] at hd; subst hd; rfl]; exact Steps.refl _ _, Tk.refl E w s⟩
  | D :: l, fr, w, hm, hd, hk => by
    obtain ⟨hnd, hall⟩ := hk
    obtain ⟨h1, h2, h3, h4, h5⟩ := hall D (by simp)
    have hstep := step_collected (P := P) (fr := fr) (cs := cs) (w := w) (d := mk1 D) (r := D) (ds := marks l ++ D0) hm hd rfl (run_takeDeferred h5)
    rw [List.nodup_cons] at hnd
    have hk' : MarkOk E (w.putObj D (.deferred none)) s u l := ⟨hnd.2, fun D' hD' => by
      obtain ⟨a, b, c, d, e⟩ := hall D' (by simp [hD'])
      exact ⟨a, b, by rw [World.putObj_size]; exact c, d, (World.putObj_heap_other (fun e => by subst e; exact hnd.1 hD')).trans e⟩⟩
    obtain ⟨w1, g1, g2⟩ := take_steps l { fr with defers := marks l ++ D0 } _ hm rfl hk'
    exact ⟨w1, .head hstep g1, (Tk.one h1 h4 h5).trans g2⟩
end
end Go.Eng
end

/- The symbolic machine is right: calls, panics, rounds. -/
section
namespace Go.Eng
open Go.RowKit
set_option linter.unusedVariables false

def bot (fid : Nat) : List Fr → Nat
  | [] => fid
  | ⟨f, _, _⟩ :: fs => bot f fs
def OutOk (E : Env) (w : World) : Out → Ending → Prop
  | .ret v, .returned val => Den E w v val
  | .pan v, .panicked chain => ∃ val, chain = [{ v := val, recovered := false }] ∧ Den E w v val
  | _, _ => False
def Rel0 (E0 : Env) (w0 : World) (Q : Out → HS → Prop) : Ending → World → Prop := fun e w' => ∃ o h' E', Q o h' ∧ RelH E' h' w' ∧ Ext E0 w0 E' w' ∧ OutOk E' w' o e

/-- The bottom frame, and what its end is worth. -/
def ModeOk (E : Env) (w : World) (p : Option SV) (md : FrameMode) : Prop :=
  match p with
  | none => md = .returning
  | some v => ∃ val, md = .panicking [{ v := val, recovered := false }] ∧ Den E w v val
structure BtOk (C : Ctx) (cs : List Frame) (fid0 : Nat) (B : Bt) (E0 : Env) (w0 : World) (Q : Out → HS → Prop) : Prop where
  std : C.D = none → B.ds = [] ∧ B.kd = .normal ∧ ∀ fr w e, Rel0 E0 w0 Q e w → fr.fn = fid0 → fr.leaving C.P w e → B.Fin e (lone fr cs w)
  fin : ∀ l, C.D = some l → ∀ (p : Option SV) (t : List SV) (h : HS) (E : Env) (w : World) (tmps : Array Value) (todo : List Item) (ro : Option Nat) (md : FrameMode), Q (.fin p (keepN t l)) h → DenA E w t tmps → RelH E h w → Ext E0 w0 E w → ModeOk E w p md →
    Goal C B (lone { fra B B.ds ro fid0 tmps todo with mode := md } cs w)
  stop : ∀ l, C.D = some l → ∀ (k : List It) (t : List SV) (h : HS) (E : Env) (w : World) (tmps : Array Value) (s : Nat) (ds : List Deferred), Q (.stop k t) h → DenA E w t tmps → RelH E h w → Ext E0 w0 E w → kb E.nb k → DsOk E w B s w.heap.size ds → w0.heap.size ≤ s →
    Goal C B (lone (fra B ds (rnf E.rho k) fid0 tmps (items E.rho k)) cs w)
  rnd : C.D = none → C.rd = true → ∃ c cs', cs = c :: cs' ∧ ∀ (v : SV) (h : HS) (E : Env) (w : World) (val : Value), Q (.rnd v) h → RelH E h w → Ext E0 w0 E w → Den E w v val → Goal C B (lone (c.finish val) cs' w)

/-- What nested runs give. -/
def Nests (C : Ctx) (R : Rn) : Prop := ∀ g fn c args h K, C.FN g = some fn → fn.body = some c → R g [.code c] (catS args (anys (fn.ntmps - lenS args))) [] h K → CallsS C.P g args h K
def Sound (C : Ctx) (cs : List Frame) (fid0 : Nat) (B : Bt) (E0 : Env) (w0 : World) (Q : Out → HS → Prop) (R : Rn) : Prop :=
  ∀ fid k t fs h, R fid k t fs h Q → (C.D ≠ none → fs = []) → ∀ E w tmps frs s ds, DenA E w t tmps → RelH E h w → StkOk C cs B E w w0.heap.size s fs frs → s ≤ w.heap.size → DsOk E w B s w.heap.size ds → kb E.nb k → InvK C cs B E w s w.heap.size fid frs k → Ext E0 w0 E w →
    bot fid fs = fid0 → (∃ fn, C.P.funcs[fid]? = some fn) → Goal C B (lone (fra B ds (rnf E.rho k) fid tmps (items E.rho k)) (frs ++ cs) w)

section
variable {C : Ctx} {cs : List Frame} {fid0 : Nat} {B : Bt} {E0 : Env} {w0 : World} {Q : Out → HS → Prop}

theorem upto_range (ops : Array Oper) : upto ops.toList 0 = List.range ops.size := by
  rw [upto_eq, List.range_eq_range']; simp

theorem panic_goal (hB : BtOk C cs fid0 B E0 w0 Q) (hD : C.D = none) {E : Env} {h : HS} {v : SV} {val : Value} (hq : Q (.pan v) h) :
    ∀ (frs : List Frame) (fs : List Fr) (fr : Frame) (fid : Nat) (s : Nat) (ds : List Deferred) (w : World), RelH E h w → Ext E0 w0 E w → Den E w v val → StkOk C cs B E w w0.heap.size s fs frs → DsOk E w B s w.heap.size ds → fr.fn = fid → bot fid fs = fid0 → fr.mode = .panicking [{ v := val, recovered := false }] → fr.defers = ds → (∃ fn, C.P.funcs[fid]? = some fn) →
      Goal C B (lone fr (frs ++ cs) w) := by
  intro frs
  induction frs with
  | nil =>
    intro fs fr fid s ds w hr hx hd hs hds h1 h2 h3 h4 h5
    cases fs with
    | cons x fs => obtain ⟨a, b, c⟩ := x; simp only [StkOk] at hs
    | nil =>
      simp only [StkOk] at hs
      obtain ⟨l, e1, e2⟩ := hds
      rw [(hB.std hD).1] at e1
      obtain ⟨w1, g1, g2⟩ := take_steps (P := C.P) (cs := [] ++ cs) l fr w (by rw [h3]; intro e; cases e) (h4.trans e1) e2
      refine Goal.of_steps g1 ⟨.panicked [{ v := val, recovered := false }], _, (hB.std hD).2.2 { fr with defers := [] } w1 _ ⟨.pan v, h, E, hq, g2.rel hr, g2.ext hx hs, val, rfl, g2.den hd⟩ ?_ ⟨h3, rfl, by rw [← h1] at h5; exact h5⟩, Steps.refl _ _⟩
      rw [← h2]; exact h1
  | cons fr' frs ih =>
    intro fs fr fid s ds w hr hx hd hs hds h1 h2 h3 h4 h5
    have hle := stk_le hs
    cases fs with
    | nil => simp only [StkOk] at hs
    | cons x fs =>
      obtain ⟨fid', k, t⟩ := x
      obtain ⟨l, e1, e2⟩ := hds
      rw [(hB.std hD).1] at e1
      obtain ⟨w1, g1, g2⟩ := take_steps (P := C.P) (cs := fr' :: frs ++ cs) l fr w (by rw [h3]; intro e; cases e) (h4.trans e1) e2
      refine Goal.of_steps g1 ?_
      have hs1 := g2.stk hs
      simp only [StkOk] at hs1
      obtain ⟨s1, ds1, tmps, q1, q2, rfl, q4, q5, q6, q7, q8, q9⟩ := hs1
      refine Goal.step (step_leave_panicked (chain := [{ v := val, recovered := false }]) (c := fra B ds1 (rnf E.rho k) fid' tmps (items E.rho k)) (cs := frs ++ cs) ⟨h3, rfl, by rw [← h1] at h5; exact h5⟩) ?_
      exact ih fs _ fid' s1 ds1 w1 (g2.rel hr) (g2.ext hx hle) (g2.den hd) q9 (by
        obtain ⟨l1, a, b, c⟩ := q6
        exact ⟨l1, a, b, fun D hD' => by obtain ⟨c1, c2, c3, c4, c5⟩ := c D hD'; exact ⟨c1, c3, c3, c4, c5⟩⟩) rfl h2 rfl rfl q7

/-- A panic at the frame in hand, plain or not. -/
theorem panQ_goal (hB : BtOk C cs fid0 B E0 w0 Q) {E : Env} {w : World} {h : HS} {t : List SV} {v : SV} {val : Value} {fid : Nat} {tmps : Array Value} {todo : List Item} {ro : Option Nat} {fs : List Fr} {frs : List Frame} {s : Nat} {ds : List Deferred}
    (hq : panQ C.D Q t v h) (hd : DenA E w t tmps) (hr : RelH E h w) (hx : Ext E0 w0 E w) (hv : Den E w v val) (hs : StkOk C cs B E w w0.heap.size s fs frs) (hds : DsOk E w B s w.heap.size ds) (hb : bot fid fs = fid0) (hfn : ∃ fn, C.P.funcs[fid]? = some fn) (hf : C.D ≠ none → fs = []) :
    Goal C B (lone { fra B ds ro fid tmps todo with mode := .panicking [{ v := val, recovered := false }] } (frs ++ cs) w) := by
  unfold panQ at hq
  split at hq
  · rename_i hD
    exact panic_goal hB hD hq frs fs _ fid s ds w hr hx hv hs hds rfl hb rfl rfl hfn
  · rename_i l hD
    have h0 := hf (by rw [hD]; simp)
    subst h0
    cases frs with
    | nil =>
      cases hb
      simp only [StkOk] at hs
      obtain ⟨ml, e1, e2⟩ := hds
      obtain ⟨w1, g1, g2⟩ := take_steps (P := C.P) (cs := [] ++ cs) (D0 := B.ds) ml { fra B ds ro fid tmps todo with mode := .panicking [{ v := val, recovered := false }] } w (by intro e; cases e) e1 e2
      exact Goal.of_steps g1 (hB.fin l hD (some v) t h E w1 tmps todo ro _ hq (g2.denA hd) (g2.rel hr) (g2.ext hx hs) ⟨val, rfl, g2.den hv⟩)
    | cons _ _ => simp only [StkOk] at hs

theorem fra_finish (B : Bt) (ds : List Deferred) (ro : Option Nat) (fid : Nat) (tmps : Array Value) (ops : Array Oper) (i : Nat) (idx : List Nat) (todo : List Item) (v : Value) {o : Oper} (ho : ops[i]? = some o) :
    (fra B ds ro fid tmps (.inRegion ops (i :: idx) :: todo)).finish v = fra B ds ro fid ((⟨tmps, ds⟩ : Act).put o.dst v).tmps (.inRegion ops idx :: todo) := by
  rw [fra_at, Frame.finish_atR, ho]
  simp only [Option.bind_some]
  cases o.dst <;> rfl

/-- A frame returns: the one beneath goes on. -/
theorem popS_ok (hB : BtOk C cs fid0 B E0 w0 Q) (hD : C.D = none) {R : Rn} (hR : Sound C cs fid0 B E0 w0 Q R) {v : SV} {fs : List Fr} {h : HS} (hp : popS R v fs h Q) {E : Env} {w : World} {val : Value} {frs : List Frame} {fr : Frame} {fid : Nat} {s : Nat}
    (hd : Den E w v val) (hr : RelH E h w) (hs : StkOk C cs B E w w0.heap.size s fs frs) (hx : Ext E0 w0 E w) (hb : bot fid fs = fid0) (hl : fr.leaving C.P w (.returned val)) (hf : fr.fn = fid) :
    Goal C B (lone fr (frs ++ cs) w) := by
  have hle := stk_le hs
  unfold popS at hp
  split at hp
  · cases frs with
    | nil => exact ⟨.returned val, _, (hB.std hD).2.2 fr w _ ⟨.ret v, h, E, hp, hr, hx, hd⟩ (by rw [hf]; exact hb) hl, Steps.refl _ _⟩
    | cons _ _ => simp only [StkOk] at hs
  · rename_i fid' ops i idx k t fs'
    split at hp
    · rename_i o ho
      cases frs with
      | nil => simp only [StkOk] at hs
      | cons fr' frs =>
        simp only [StkOk] at hs
        obtain ⟨s1, ds, tmps, q1, q2, rfl, hden, hkb, hds, hfn, hik, hs'⟩ := hs
        rw [getO_eq, Array.getElem?_toList] at ho
        refine Goal.step (step_leave_returned (c := fra B ds (rnf E.rho (.reg ops (i :: idx) :: k)) fid' tmps (items E.rho (.reg ops (i :: idx) :: k))) (cs := frs ++ cs) hl) ?_
        simp only [items]
        rw [fra_finish B ds _ fid' tmps ops i idx _ val ho]
        simp only [kb] at hkb
        exact hR _ _ _ _ _ hp (fun h => absurd hD h) E w _ _ s1 ds (put_den hden _ hd) hr hs' (Nat.le_trans q1 q2) (hds.ext (Ext.refl E w) q2) (by simp only [kb]; exact hkb) (by simp only [InvK] at hik ⊢; exact hik.ext (Ext.refl E w) q2) hx hb hfn
    · exact hp.elim
  · rename_i fid' nm k t fs'
    cases frs with
    | nil => simp only [StkOk] at hs
    | cons fr' frs =>
      simp only [StkOk] at hs
      obtain ⟨s1, ds, tmps, q1, q2, rfl, hden, hkb, hds, hfn, hik, hs'⟩ := hs
      refine Goal.step (step_leave_returned (c := fra B ds (rnf E.rho (.inRng nm :: k)) fid' tmps (items E.rho (.inRng nm :: k))) (cs := frs ++ cs) hl) ?_
      simp only [items]
      rw [fra_at, finish_atR_inRangeFunc]
      simp only [kb] at hkb
      exact hR _ _ _ _ _ hp (fun h => absurd hD h) E w tmps _ s1 ds hden hr hs' (Nat.le_trans q1 q2) (hds.ext (Ext.refl E w) q2) (by simp only [kb]; exact hkb) (by simp only [InvK] at hik ⊢; exact hik.ext (Ext.refl E w) q2) hx hb hfn
  · exact hp.elim
end
end Go.Eng
end
