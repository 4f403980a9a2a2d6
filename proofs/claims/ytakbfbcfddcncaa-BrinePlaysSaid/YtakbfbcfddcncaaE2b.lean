/-
  A part of the symbolic machine, of its soundness, and of what functions compute. No condition.
-/
import Derived.Test.YtakbfbcfddcncaaE2
set_option linter.unusedSimpArgs false
set_option linter.unusedVariables false
/- Conditions of results, reckoned. -/
section
namespace Go.Eng
open Go.RowKit
set_option linter.unusedVariables false

/-- What a result asks. -/
def cnd : Res → Prop
  | .val p _ _ => p
  | .skip p _ => p
  | .callN p _ _ _ => p
  | .pick c _ _ _ _ _ _ => c
  | _ => True
/-- Memory is what it was. -/
def same (h : HS) : Res → Prop
  | .val _ _ h' => h' = h
  | _ => True

/-- Of the two values it is the second. -/
def nfk : Res → Prop
  | .fork p _ _ _ => ¬ p
  | _ => True
def nfNil (h : HS) (a : SV) : Bool :=
  match a with
  | .row n _ _ => !decide (n = 0)
  | .vec id ver => match getV h.vecs id with
    | .live ver' _ _ n _ => decide (ver = ver') && !decide (n = 0)
    | .dead => true
  | .vcut id ver _ _ n _ => match getV h.vecs id with
    | .live ver' _ _ N _ => decide (ver = ver') && (!decide (n = 0) && !decide (N = 0))
    | .dead => true
  | _ => true
theorem nfNil_ok {ti : Option TI} {op : BinOp} {a : SV} {h : HS} (hd : nfNil h a = true) : nfk (rEqNil ti op a h) := by
  unfold rEqNil
  split
  · split
    · split <;> (try trivial)
      · simpa [nfk, nfNil] using hd
      · simpa [nfk, nfNil] using hd
      · unfold vNil
        split
        · rename_i hv; simp only [nfNil, hv, Bool.and_eq_true, decide_eq_true_eq, Bool.not_eq_true', decide_eq_false_iff_not] at hd; rw [hv]; intro hp; have := hp hd.1; simp only [nOf] at this; omega
        · trivial
      · unfold vNil
        split
        · rename_i hv; simp only [nfNil, hv, Bool.and_eq_true, decide_eq_true_eq, Bool.not_eq_true', decide_eq_false_iff_not] at hd; rw [hv]; intro hp; have := hp hd.1; simp only [nOf] at this; omega
        · trivial
      · unfold vNil
        split
        · rename_i hv; simp only [nfNil, hv, Bool.and_eq_true, decide_eq_true_eq, Bool.not_eq_true', decide_eq_false_iff_not] at hd; intro hp; have := hp hd.1; omega
        · trivial
      · unfold vNil
        split
        · rename_i hv; simp only [nfNil, hv, Bool.and_eq_true, decide_eq_true_eq, Bool.not_eq_true', decide_eq_false_iff_not] at hd; intro hp; have := hp hd.1; omega
        · trivial
    · trivial
  · trivial
def dBin (op : BinOp) (a b : SV) : Bool :=
  match op, a, b with
  | .quo, .int _ _, .int _ y => !decide (y = 0)
  | .rem, .int _ _, .int _ y => !decide (y = 0)
  | .shr, .int _ _, .int _ y => decide (0 ≤ y)
  | _, _, _ => true
theorem dBin_ok {op : BinOp} {a b : SV} {h : HS} (hd : dBin op a b = true) : cnd (rBin op a b h) := by
  unfold rBin
  split <;> (try split) <;> first | trivial | (simpa [cnd, dBin] using hd)
theorem neO_c {op : BinOp} {q : Bool} {h : HS} : cnd (neO op q h) ∧ same h (neO op q h) := by
  unfold neO; split <;> first | exact ⟨trivial, rfl⟩ | exact ⟨trivial, trivial⟩
theorem rBin_s {op : BinOp} {a b : SV} {h : HS} : same h (rBin op a b h) := by
  unfold rBin; split <;> (try split) <;> first | rfl | trivial
theorem rEqA_c {ti : Option TI} {op : BinOp} {l m : List SV} {h : HS} : cnd (rEqA ti op l m h) ∧ same h (rEqA ti op l m h) := by
  unfold rEqA; repeat' split
  all_goals first | exact neO_c | exact ⟨trivial, trivial⟩
theorem rEqB_c {ti : Option TI} {op : BinOp} {x y : Bool} {h : HS} : cnd (rEqB ti op x y h) ∧ same h (rEqB ti op x y h) := by
  unfold rEqB; repeat' split
  all_goals first | exact neO_c | exact ⟨trivial, trivial⟩
theorem rEqI_c {ti : Option TI} {op : BinOp} {q : Bool} {h : HS} : cnd (rEqI ti op q h) ∧ same h (rEqI ti op q h) := by
  unfold rEqI; repeat' split
  all_goals first | exact neO_c | exact ⟨trivial, trivial⟩
theorem rEqF_c {ti : Option TI} {op : BinOp} {q : Bool} {h : HS} : cnd (rEqF ti op q h) ∧ same h (rEqF ti op q h) := by
  unfold rEqF; repeat' split
  all_goals first | exact neO_c | exact ⟨trivial, trivial⟩
theorem rEqNil_c {ti : Option TI} {op : BinOp} {a : SV} {h : HS} : cnd (rEqNil ti op a h) ∧ same h (rEqNil ti op a h) := by
  unfold rEqNil vNil; repeat' split
  all_goals first | exact ⟨trivial, rfl⟩ | exact ⟨trivial, trivial⟩
theorem rBin2_c {ti : Option TI} {c : Bool} {op : BinOp} {a b : SV} {h : HS} (hd : dBin op a b = true) : cnd (rBin2 ti c op a b h) := by
  unfold rBin2; repeat' split
  all_goals first | exact dBin_ok hd | exact rEqA_c.1 | exact rEqB_c.1 | exact rEqI_c.1 | exact rEqF_c.1 | trivial
theorem rBin2_s {ti : Option TI} {c : Bool} {op : BinOp} {a b : SV} {h : HS} : same h (rBin2 ti c op a b h) := by
  unfold rBin2; repeat' split
  all_goals first | exact rBin_s | exact rEqA_c.2 | exact rEqB_c.2 | exact rEqI_c.2 | exact rEqF_c.2 | trivial
def dBin3 (op : BinOp) (nl : Bool) (a b : SV) : Bool := match nl with
  | true => true
  | false => dBin op a b
theorem rBin3_c {ti : Option TI} {c nl : Bool} {op : BinOp} {a b : SV} {h : HS} (hd : dBin3 op nl a b = true) : cnd (rBin3 ti c op nl a b h) := by
  unfold rBin3; split
  · exact rEqNil_c.1
  · exact rBin2_c hd
theorem rBin3_s {ti : Option TI} {c nl : Bool} {op : BinOp} {a b : SV} {h : HS} : same h (rBin3 ti c op nl a b h) := by
  unfold rBin3; split
  · exact rEqNil_c.2
  · exact rBin2_s

def dLoad (ti : TI) (h : HS) (addr : SV) : Bool :=
  match addr with
  | .ptr nm off => match getB h.blks nm with
    | .live _ cells => decide (off + ti.size ≤ lenS cells)
    | _ => true
  | .rptr sz f => decide (ti.size ≤ sz)
  | .vptr id ver sz i off => match getV h.vecs id with
    | .live ver' _ sz' n f => decide (ver = ver') && decide (sz = sz') && decide (i < n) && decide (off + ti.size ≤ sz)
    | .dead => true
  | _ => true
theorem dLoad_ok {ti : TI} {h : HS} {x : SV} (hd : dLoad ti h x = true) : cnd (rLoad ti h x) := by
  unfold dLoad at hd; unfold rLoad
  split
  · split
    · rename_i hb; simpa [cnd, hb] using hd
    · trivial
  · simpa [cnd] using hd
  · split
    · rename_i hb; simpa [cnd, hb, and_assoc] using hd
    · trivial
  · trivial
theorem rLoad_s {ti : TI} {h : HS} {x : SV} : same h (rLoad ti h x) := by
  unfold rLoad; repeat' split
  all_goals first | rfl | trivial
def dStore (ti : TI) (h : HS) (addr v : SV) : Bool :=
  match cellsOf v with
  | none => true
  | some l => match addr with
    | .ptr nm off => match getB h.blks nm with
      | .live ty cells => decide (lenS l = ti.size) && decide (off + ti.size ≤ lenS cells)
      | _ => true
    | .vptr id ver sz i off => match getV h.vecs id with
      | .live ver' ty sz' n f => decide (lenS l = ti.size) && decide (ver = ver') && decide (sz = sz') && decide (i < n) && decide (off + ti.size ≤ sz)
      | .dead => true
    | _ => true
theorem dStore_ok {ti : TI} {h : HS} {x y : SV} (hd : dStore ti h x y = true) : cnd (rStore ti h x y) := by
  unfold dStore at hd; unfold rStore
  split
  · trivial
  · rename_i hc
    simp only [hc] at hd
    split
    · split
      · rename_i hb; simpa [cnd, hb] using hd
      · trivial
    · split
      · rename_i hb; simpa [cnd, hb, and_assoc] using hd
      · trivial
    · trivial
def dField (ti : TI) (x : SV) (k : Nat) : Bool :=
  match ti.kind with
  | .struct offs => match nthO offs k with
    | some (o, _) => match x with
      | .rptr sz f => decide (o ≤ sz)
      | _ => true
    | none => true
  | _ => true
theorem dField_ok {ti : TI} {h : HS} {x : SV} {k : Nat} (hd : dField ti x k = true) : cnd (rField ti h x k) := by
  unfold dField at hd; unfold rField
  split
  · rename_i hk
    split
    · rename_i hn
      simp only [hk, hn] at hd
      split
      · trivial
      · simpa [cnd] using hd
      · trivial
      · trivial
    · trivial
  · trivial
theorem rField_s {ti : TI} {h : HS} {x : SV} {k : Nat} : same h (rField ti h x k) := by
  unfold rField; repeat' split
  all_goals first | rfl | trivial
def dIndex (ti : TI) (se : Nat) (h : HS) (x idx : SV) : Bool :=
  match ti.kind, x, idx with
  | .slice _, .row n sz f, .int _ i => decide (se = sz) && decide (0 ≤ i) && decide (i < (n : Int))
  | .slice _, .vec id ver, .int _ i => match getV h.vecs id with
    | .live ver' _ sz n _ => decide (ver = ver') && decide (se = sz) && decide (0 ≤ i) && decide (i < (n : Int))
    | .dead => true
  | .array n _, .ptr nm off, .int _ i => decide (0 ≤ i) && decide (i < (n : Int))
  | .slice _, .vcut id ver sz lo n _, .int _ i => match getV h.vecs id with
    | .live ver' _ sz' _ _ => decide (ver = ver') && decide (sz = sz') && decide (se = sz) && decide (0 ≤ i) && decide (i < (n : Int))
    | .dead => true
  | .slice _, .bsl nm off n, .int _ i => decide (se = 1) && decide (0 ≤ i) && decide (i < (n : Int))
  | _, _, _ => true
theorem dIndex_ok {ti : TI} {se : Nat} {h : HS} {x idx : SV} (hd : dIndex ti se h x idx = true) : cnd (rIndex ti se h x idx) := by
  unfold rIndex
  split
  · rename_i hk; simpa [cnd, dIndex, hk, and_assoc] using hd
  · rename_i hk
    split
    · rename_i hb; simpa [cnd, dIndex, hk, hb, and_assoc] using hd
    · trivial
  · rename_i hk; simpa [cnd, dIndex, hk, and_assoc] using hd
  · rename_i hk
    split
    · rename_i hb; simpa [cnd, dIndex, hk, hb, and_assoc] using hd
    · trivial
  · rename_i hk; simpa [cnd, dIndex, hk, and_assoc] using hd
  · trivial
theorem rIndex_s {ti : TI} {se : Nat} {h : HS} {x idx : SV} : same h (rIndex ti se h x idx) := by
  unfold rIndex; repeat' split
  all_goals first | rfl | trivial
theorem lenI_c {es : List (List Int × List Int)} {h : HS} {o : Option (Nat × Nat × List Nat)} : cnd (lenI es h o) ∧ same h (lenI es h o) := by
  unfold lenI; split <;> first | exact ⟨trivial, rfl⟩ | exact ⟨trivial, trivial⟩
def dLen (ti : TI) (h : HS) (x : SV) : Bool :=
  match ti.kind, x with
  | .slice _, .vec id ver => match getV h.vecs id with
    | .live ver' _ _ n _ => decide (ver = ver')
    | .dead => true
  | _, _ => true
theorem dLen_ok {ti : TI} {h : HS} {x : SV} (hd : dLen ti h x = true) : cnd (rLen ti h x) := by
  unfold rLen
  split <;> (try trivial)
  · rename_i hk
    split
    · rename_i hb; simpa [cnd, dLen, hk, hb] using hd
    · trivial
  · split <;> first | exact lenI_c.1 | trivial
theorem rLen_s {ti : TI} {h : HS} {x : SV} : same h (rLen ti h x) := by
  unfold rLen; repeat' split
  all_goals first | rfl | exact lenI_c.2 | trivial
def dFill (place : Nat → Option (Nat × Nat)) : List (Nat × SV) → List SV → Bool
  | [], cells => true
  | (i, x) :: r, cells => match place i, cellsOf x with
    | some (off, size), some l => decide (lenS l = size) && decide (off + size ≤ lenS cells) && dFill place r (over cells off l)
    | _, _ => true
theorem dFill_ok {place : Nat → Option (Nat × Nat)} : ∀ {ps : List (Nat × SV)} {cells : List SV} {p : Prop} {c : List SV}, dFill place ps cells = true → fillS place ps cells = some (p, c) → p
  | [], cells, p, c, _, h => by simp only [fillS, Option.some.injEq, Prod.mk.injEq] at h; exact h.1 ▸ trivial
  | (i, x) :: r, cells, p, c, hd, h => by
    simp only [fillS] at h
    simp only [dFill] at hd
    split at h
    · rename_i off size l h1 h2
      simp only [h1, h2, Bool.and_eq_true, decide_eq_true_eq] at hd
      split at h
      · rename_i p' c' h3
        simp only [Option.some.injEq, Prod.mk.injEq] at h
        exact h.1 ▸ ⟨hd.1, dFill_ok hd.2 h3⟩
      · cases h
    · cases h
def dBuild (ti : TI) (se : Nat) (ps : List (Nat × SV)) : Bool :=
  match ti.kind with
  | .struct offs => dFill (placeS offs) ps (zcs ti.zero)
  | .array _ _ => dFill (placeA se) ps (zcs ti.zero)
  | _ => true
theorem fin2_c {place : Nat → Option (Nat × Nat)} {ps : List (Nat × SV)} {cells : List SV} {h : HS} (hd : dFill place ps cells = true) : cnd (fin2 (fillS place ps cells) h) := by
  unfold fin2
  split
  · rename_i hf; exact dFill_ok hd hf
  · trivial
theorem dBuild_ok {ti : TI} {se : Nat} {ps : List (Nat × SV)} {h : HS} (hd : dBuild ti se ps = true) : cnd (rBuild ti se ps h) := by
  unfold dBuild at hd; unfold rBuild
  split
  · rename_i hk; rw [hk] at hd; exact fin2_c hd
  · rename_i hk; rw [hk] at hd; exact fin2_c hd
  · trivial
theorem rBuild_same {ti : TI} {se : Nat} {ps : List (Nat × SV)} {h : HS} : same h (rBuild ti se ps h) := by
  unfold rBuild fin2; repeat' split
  all_goals first | rfl | trivial
def dBuildSlice (te : TI) (len : Nat) (ps : List (Nat × SV)) : Bool :=
  match len, ps with
  | 0, [] => decide (0 < te.size)
  | _, _ => dFill (placeA te.size) ps (repZ (zcs te.zero) len) && decide (0 < te.size) && decide (0 < len) && decide (len * te.size ≤ 16777216)
theorem dBuildSlice_ok {e : TypeId} {te : TI} {len : Nat} {ps : List (Nat × SV)} {h : HS} (hd : dBuildSlice te len ps = true) : cnd (rBuildSlice e te len ps h) := by
  unfold rBuildSlice
  split
  · simpa [cnd, dBuildSlice] using hd
  · rename_i hne
    unfold dBuildSlice at hd
    split at hd
    · exact (hne rfl rfl).elim
    · simp only [Bool.and_eq_true, decide_eq_true_eq] at hd
      unfold fin3
      split
      · rename_i hf; exact ⟨dFill_ok hd.1.1.1 hf, hd.1.1.2, hd.1.2, hd.2⟩
      · trivial
def dExtract (x : SV) (i : Nat) : Bool := match x with
  | .tup l => decide (i < lenS l)
  | _ => true
theorem dExtract_ok {x : SV} {i : Nat} {h : HS} (hd : dExtract x i = true) : cnd (rExtract x i h) := by
  unfold rExtract; split
  · simpa [cnd, dExtract] using hd
  · trivial
def dSlice (ti : TI) (x : SV) (lo hi : Option SV) : Bool :=
  match ti.kind, x, lo, hi with
  | .slice _, .row n sz f, some (.int _ l), some (.int _ u) => decide (0 ≤ l) && decide (l ≤ u) && decide (u ≤ (n : Int))
  | .slice _, .row n sz f, some (.int _ l), none => decide (0 ≤ l) && decide (l ≤ (n : Int))
  | .slice _, .row n sz f, none, some (.int _ u) => decide (0 ≤ u) && decide (u ≤ (n : Int))
  | _, _, _, _ => true
theorem dSlice_ok {ti : TI} {x : SV} {lo hi : Option SV} {h : HS} (hd : dSlice ti x lo hi = true) : cnd (rSlice ti x lo hi h) := by
  unfold rSlice
  split
  · rename_i hk; simpa [cnd, dSlice, hk, and_assoc] using hd
  · rename_i hk; simpa [cnd, dSlice, hk, and_assoc] using hd
  · rename_i hk; simpa [cnd, dSlice, hk, and_assoc] using hd
  · trivial
def dSrc (h : HS) : SV → Bool
  | .vec id ver => match getV h.vecs id with
    | .live ver' _ _ _ _ => decide (ver = ver')
    | .dead => true
  | .vcut id ver sz lo n _ => match getV h.vecs id with
    | .live ver' _ sz' _ _ => decide (ver = ver') && decide (sz = sz')
    | .dead => true
  | .bsl nm off n => match getB h.blks nm with
    | .live _ cells => decide (off + n ≤ lenS cells)
    | _ => true
  | _ => true
theorem dSrc_ok {h : HS} {x : SV} {p : Prop} {q : Nat × Nat × (Nat → Nat → SV)} (hd : dSrc h x = true) (hs : srcOf h x = some (p, q)) : p := by
  unfold dSrc at hd
  unfold srcOf at hs
  split at hs
  · cases hs; trivial
  · unfold srcV at hs
    split at hs
    · rename_i hb; cases hs; simpa [hb] using hd
    · cases hs
  · unfold srcC at hs
    split at hs
    · rename_i hb; cases hs; simpa [hb] using hd
    · cases hs
  · unfold srcB at hs
    split at hs
    · rename_i hb; cases hs; simpa [hb] using hd
    · cases hs
  · cases hs; trivial
  · cases hs
def dAp (e : TypeId) (te : TI) (ver ver' e' sz n : Nat) (lo0 : Bool) (s : Option (Prop × Nat × Nat × (Nat → Nat → SV))) : Bool := match s with
  | some (_, m, sz', _) => decide (ver = ver') && decide (e = e') && decide (sz = te.size) && decide (sz' = sz) && lo0 && decide (((n + m : Nat) : Int) * (te.bytes : Int) ≤ 140737488355328) && decide (((n + m : Nat) : Int) ≤ 9223372036854775807)
  | none => true
def dPos (s : Option (Prop × Nat × Nat × (Nat → Nat → SV))) : Bool := match s with
  | some (_, m, _, _) => decide (0 < m)
  | none => true
def dAppend (e : TypeId) (te : TI) (s x : SV) (h : HS) : Bool :=
  dSrc h x && match s with
  | .vec id ver => match getV h.vecs id with
    | .live ver' e' sz n f => dAp e te ver ver' e' sz n true (srcOf h x)
    | .dead => true
  | .vcut id ver sz lo n x1 => match getV h.vecs id with
    | .live ver' e' sz2 _ f => dAp e te ver ver' e' sz n (decide (sz2 = sz) && (decide (lo = 0) || (x1 && dPos (srcOf h x)))) (srcOf h x)
    | .dead => true
  | .nils e' sz => dAp e te 0 0 e' sz 0 true (srcOf h x)
  | _ => true
theorem dAppend_ok {e : TypeId} {te : TI} {s x : SV} {h : HS} (hd : dAppend e te s x h = true) : cnd (rAppend e te s x h) := by
  unfold dAppend at hd
  rw [Bool.and_eq_true] at hd
  obtain ⟨h1, h2⟩ := hd
  have hp : ∀ p q, srcOf h x = some (p, q) → p := fun p q hs => dSrc_ok h1 hs
  unfold rAppend
  split
  · unfold apV
    split
    · rename_i hv hs
      have := hp _ _ hs
      simp only [hv, hs, dAp, Bool.and_eq_true, decide_eq_true_eq] at h2
      simp only [cnd]
      exact ⟨this, h2.1.1.1.1.1.1, h2.1.1.1.1.1.2, h2.1.1.1.1.2, h2.1.1.1.2, h2.1.2, h2.2⟩
    · trivial
  · unfold apCX
    split
    · unfold apX
      split
      · rename_i hv hs
        have := hp _ _ hs
        simp only [hv, hs, dAp, dPos, Bool.and_eq_true, Bool.or_eq_true, decide_eq_true_eq] at h2
        simp only [cnd]
        obtain ⟨⟨⟨⟨⟨⟨a1, a2⟩, a3⟩, a4⟩, a5, a6⟩, a7⟩, a8⟩ := h2
        refine ⟨this, ?_, a1, a2, a3, a5, a4, a7, a8⟩
        rcases a6 with a6 | a6
        · omega
        · exact a6.2
      · trivial
    · rename_i hne
      unfold apC
      split
      · rename_i hv hs
        have := hp _ _ hs
        simp only [hv, hs, dAp, dPos, Bool.and_eq_true, Bool.or_eq_true, decide_eq_true_eq] at h2
        simp only [cnd]
        obtain ⟨⟨⟨⟨⟨⟨a1, a2⟩, a3⟩, a4⟩, a5, a6⟩, a7⟩, a8⟩ := h2
        refine ⟨this, a1, a2, a3, a5, a4, ?_, a7, a8⟩
        rcases a6 with a6 | a6
        · exact a6
        · skip
          exact Decidable.byContradiction fun h0 => hne _ (Nat.succ_pred_eq_of_ne_zero h0).symm a6.1
      · trivial
  · unfold apN
    split
    · rename_i hs
      have := hp _ _ hs
      simp only [hs, dAp, Bool.and_eq_true, decide_eq_true_eq] at h2
      simp only [cnd]
      exact ⟨this, h2.1.1.1.1.1.2, h2.1.1.1.1.2, h2.1.1.1.2, h2.1.2, h2.2⟩
    · trivial
  · trivial
def dCut (n : Nat) (l u : Option Int) (mx : Option SV) : Bool :=
  match l, u with
  | some l, some u => (match mx with
    | some (.int _ m) => decide (m = u)
    | _ => true) && decide (0 ≤ l) && decide (l ≤ u) && decide (u ≤ (n : Int))
  | _, _ => true
theorem dCut_ok {p : Prop} {id ver sz lo n : Nat} {h : HS} {l u : Option Int} {mx : Option SV} (hp : p) (hd : dCut n l u mx = true) : cnd (cutR p id ver sz lo n h l u mx) := by
  unfold cutR
  split
  · rename_i l u
    simp only [dCut, Bool.and_eq_true, decide_eq_true_eq] at hd
    obtain ⟨⟨⟨h1, h2⟩, h3⟩, h4⟩ := hd
    unfold maxO
    split
    · rename_i q x hm
      split at hm
      · cases hm; exact ⟨hp, trivial, h2, h3, h4⟩
      · cases hm; exact ⟨hp, by simpa using h1, h2, h3, h4⟩
      · cases hm
    · trivial
  · trivial
theorem cutR_s {p : Prop} {id ver sz lo n : Nat} {h : HS} {l u : Option Int} {mx : Option SV} : same h (cutR p id ver sz lo n h l u mx) := by
  unfold cutR; repeat' split
  all_goals first | rfl | trivial
def dSliceV (se : Nat) (x : SV) (lo hi mx : Option SV) (h : HS) : Bool :=
  match x with
  | .vec id ver => match getV h.vecs id with
    | .live ver' _ sz n _ => decide (ver = ver') && decide (se = sz) && dCut n (intO 0 lo) (intO (n : Int) hi) mx
    | .dead => true
  | .vcut id ver sz lo0 n x => decide (se = sz) && dCut n (intO 0 lo) (intO (n : Int) hi) mx
  | _ => true
theorem dSliceV_ok {se : Nat} {x : SV} {lo hi mx : Option SV} {h : HS} (hd : dSliceV se x lo hi mx h = true) : cnd (rSliceV se x lo hi mx h) := by
  unfold rSliceV
  split
  · unfold sliV
    split
    · rename_i hv
      simp only [dSliceV, hv, Bool.and_eq_true, decide_eq_true_eq] at hd
      exact dCut_ok hd.1 hd.2
    · trivial
  · simp only [dSliceV, Bool.and_eq_true, decide_eq_true_eq] at hd
    unfold sliC
    split
    · trivial
    · exact dCut_ok hd.1 hd.2
  · trivial
theorem rSliceV_s {se : Nat} {x : SV} {lo hi mx : Option SV} {h : HS} : same h (rSliceV se x lo hi mx h) := by
  unfold rSliceV sliV sliC; repeat' split
  all_goals first | exact cutR_s | trivial
theorem rSlice_s {ti : TI} {x : SV} {lo hi : Option SV} {h : HS} : same h (rSlice ti x lo hi h) := by
  unfold rSlice; repeat' split
  all_goals first | rfl | trivial
def dSl (te ti : TI) (x : SV) (lo hi mx : Option SV) (h : HS) : Bool :=
  match x with
  | .row n sz f => dSlice ti (.row n sz f) lo hi
  | x => dSliceV te.size x lo hi mx h
theorem dSl_ok {te ti : TI} {g : Bool} {x : SV} {lo hi mx : Option SV} {h : HS} (hd : dSl te ti x lo hi mx h = true) : cnd (rSl te ti g x lo hi mx h) := by
  unfold rSl
  split
  · unfold rSlR
    split
    · split
      · exact dSlice_ok hd
      · trivial
    · trivial
  · unfold rSlG
    split
    · exact dSliceV_ok hd
    · trivial
  · unfold rSlG
    split
    · exact dSliceV_ok hd
    · trivial
  · trivial
theorem rSl_s {te ti : TI} {g : Bool} {x : SV} {lo hi mx : Option SV} {h : HS} : same h (rSl te ti g x lo hi mx h) := by
  unfold rSl rSlR rSlG; repeat' split
  all_goals first | exact rSlice_s | exact rSliceV_s | trivial
def dSlA (n : Nat) (te : TI) (x : SV) (lo hi mx : Option SV) : Bool :=
  match intO (n : Int) hi with
  | some u => decide (te.size = 1) && decide (0 ≤ u) && decide (u ≤ (n : Int))
  | none => true
theorem dSlA_ok {n : Nat} {te : TI} {x : SV} {lo hi mx : Option SV} {h : HS} (hd : dSlA n te x lo hi mx = true) : cnd (rSlA n te x lo hi mx h) := by
  unfold rSlA
  split
  · split
    · rename_i hi; simpa [cnd, dSlA, hi, and_assoc] using hd
    · trivial
  · trivial
theorem rSlA_s {n : Nat} {te : TI} {x : SV} {lo hi mx : Option SV} {h : HS} : same h (rSlA n te x lo hi mx h) := by
  unfold rSlA; repeat' split
  all_goals first | rfl | trivial
def dClear (te : TI) (x : SV) (h : HS) : Bool :=
  match x with
  | .vec id ver => match getV h.vecs id with
    | .live ver' _ sz _ _ => decide (ver = ver') && decide (te.size = sz)
    | .dead => true
  | .vcut id ver sz lo n _ => match getV h.vecs id with
    | .live ver' _ sz' _ _ => decide (ver = ver') && decide (sz = sz') && decide (te.size = sz)
    | .dead => true
  | _ => true
theorem dClear_ok {te : TI} {x : SV} {h : HS} (hd : dClear te x h = true) : cnd (rClear te x h) := by
  unfold rClear
  split
  · unfold clrW
    split
    · rename_i hv; simpa [cnd, dClear, hv, and_assoc] using hd
    · trivial
  · unfold clrV
    split
    · rename_i hv; simpa [cnd, dClear, hv, and_assoc] using hd
    · trivial
  · trivial
def dCopy (te : TI) (d s : SV) (h : HS) : Bool :=
  dSrc h s && match d, srcOf h s with
  | .bsl nm off n, some (_, m, sz, _) => (match getB h.blks nm with
    | .live _ cells => decide (sz = 1) && decide (off + min m n ≤ lenS cells)
    | _ => true)
  | .vec id ver, some (_, m, sz, _) => (match getV h.vecs id with
    | .live ver' _ sz' _ _ => decide (ver = ver') && decide (sz = sz') && decide (te.size = sz')
    | .dead => true)
  | _, _ => true
theorem dCopy_ok {te : TI} {d s : SV} {h : HS} (hd : dCopy te d s h = true) : cnd (rCopy te d s h) := by
  unfold dCopy at hd
  rw [Bool.and_eq_true] at hd
  obtain ⟨h1, h2⟩ := hd
  have hp : ∀ p q, srcOf h s = some (p, q) → p := fun p q hs => dSrc_ok h1 hs
  unfold rCopy
  split
  · split
    · unfold cpyB
      split
      · rename_i hb hs
        have := hp _ _ hs
        simp only [hb, hs, Bool.and_eq_true, decide_eq_true_eq] at h2
        exact ⟨this, h2⟩
      · trivial
    · trivial
  · unfold cpyV
    split
    · rename_i hv hs
      have := hp _ _ hs
      simp only [hv, hs, Bool.and_eq_true, decide_eq_true_eq] at h2
      exact ⟨this, h2.1.1, h2.1.2, h2.2⟩
    · trivial
  · trivial
def dMake (te : TI) (l c : SV) : Bool :=
  match l, c with
  | .int _ l, .int _ c => decide (l = c) && decide (0 < te.size) && decide (0 ≤ l) && decide ((te.bytes : Int) * l ≤ 281474976710656) && decide (l ≤ 9223372036854775807)
  | _, _ => true
theorem dMake_ok {e : TypeId} {te : TI} {l c : SV} {h : HS} (hd : dMake te l c = true) : cnd (rMake e te l c h) := by
  unfold rMake
  split
  · simpa [cnd, dMake, and_assoc] using hd
  · trivial
def dIdx (n : Nat) (te : TI) (x idx : SV) : Bool :=
  match x, idx with
  | .agg l, .int _ i => decide (0 ≤ i) && decide (i < (n : Int)) && decide (i.toNat < lenS l) && decide (te.size = 1)
  | _, _ => true
theorem dIdx_ok {n : Nat} {te : TI} {x idx : SV} {h : HS} (hd : dIdx n te x idx = true) : cnd (rIdx n te x idx h) := by
  unfold rIdx
  split
  · split
    · trivial
    · simpa [cnd, dIdx, and_assoc] using hd
  · trivial
theorem rIdx_s {n : Nat} {te : TI} {x idx : SV} {h : HS} : same h (rIdx n te x idx h) := by
  unfold rIdx; repeat' split
  all_goals first | rfl | trivial
def dFld (ti : TI) (x : SV) (k : Nat) : Bool :=
  match ti.kind with
  | .struct offs => match nthO offs k with
    | some (o, s) => match x with
      | .agg l => decide (o + s ≤ lenS l)
      | _ => true
    | none => true
  | _ => true
theorem dFld_ok {ti : TI} {x : SV} {k : Nat} {h : HS} (hd : dFld ti x k = true) : cnd (rFld ti x k h) := by
  unfold dFld at hd; unfold rFld
  split
  · rename_i hk
    split
    · rename_i hn
      simp only [hk, hn] at hd
      split
      · simpa [cnd] using hd
      · trivial
    · trivial
  · trivial
theorem rFld_same {ti : TI} {x : SV} {k : Nat} {h : HS} : same h (rFld ti x k h) := by
  unfold rFld; repeat' split
  all_goals first | rfl | trivial
def dNext (h : HS) (x : SV) : Bool :=
  match x with
  | .ptr nm 0 => match getB h.blks nm with
    | .mp m => match m.it with
      | some (mnm, since, _) => match getB h.blks mnm with
        | .mp mm => decide (since = lenM mm.es)
        | _ => true
      | none => true
    | _ => true
  | _ => true
theorem dNext_ok {h : HS} {x : SV} (hd : dNext h x = true) : cnd (rNext x h) := by
  unfold rNext
  split
  rotate_left
  · trivial
  unfold rNextI
  split
  rotate_left
  · trivial
  rename_i hb
  unfold rNextM
  split
  rotate_left
  · trivial
  rename_i hm
  simpa [cnd, dNext, hb, hm] using hd
def dEntry (h : HS) (x : SV) : Bool :=
  match x with
  | .ptr nm 0 => match getB h.blks nm with
    | .mp m => match m.it with
      | some (mnm, since, i :: _) => match getB h.blks mnm with
        | .mp mm => decide (since = lenM mm.es) && decide (i < since)
        | _ => true
      | _ => true
    | _ => true
  | _ => true
theorem dEntry_ok {h : HS} {x : SV} (hd : dEntry h x = true) : cnd (rEntry x h) := by
  unfold rEntry
  split
  rotate_left
  · trivial
  unfold rEntI
  split
  rotate_left
  · trivial
  rename_i hb
  unfold rEntM
  split
  rotate_left
  · trivial
  rename_i hm
  simpa [cnd, dEntry, hb, hm] using hd
theorem rRange_c {ti : TI} {x : SV} {h : HS} : cnd (rRange ti x h) := by
  unfold rRange rRangeM; repeat' split
  all_goals trivial
end Go.Eng
end

/- Conditions of operations, reckoned. -/
section
namespace Go.Eng
open Go.RowKit
set_option linter.unusedVariables false

section
variable (T : Nat → Option TI) (F : Nat → Bool) (t : List SV) (h : HS)
def dMove (ty : TypeId) (x : Operand) : Bool :=
  match isNilSl x with
  | true => match T ty with
    | some ti => match ti.kind with
      | .slice e => match T e with
        | some te => decide (0 < te.size)
        | none => true
      | _ => true
    | none => true
  | false => true
def dStoreN (ti : TI) (x : SV) (b : Bool) (y : SV) : Bool :=
  match b with
  | false => match hasSl ti.zero with
    | true => dStore ti (ownS y h).2 x (ownS y h).1
    | false => dStore ti h x y
  | true => match ti.kind with
    | .slice e => match T e with
      | some te => decide (0 < te.size) && dStore ti { h with vecs := snocV h.vecs (.live 0 e te.size 0 (fun _ _ => .any)) } x (.vec (lenV h.vecs) 0)
      | none => true
    | _ => dStore ti h x y
def elT (ty : TypeId) : Option TI := match T ty with
  | some ti => match ti.kind with
    | .slice e => T e
    | _ => none
  | none => none
def elS (ty : TypeId) : TypeId := match T ty with
  | some ti => match ti.kind with
    | .slice e => e
    | _ => 0
  | none => 0
def dBuiltin (b : Builtin) (tys : List TypeId) (args : List SV) : Bool :=
  match b, tys, args with
  | .len, [ty], [x] => match T ty with
    | some ti => dLen ti h x
    | none => true
  | .append, [ty, ty'], [s, x] => match elT T ty with
    | some te => dAppend (elS T ty) te s x h
    | none => true
  | .clear, [ty], [x] => match elT T ty with
    | some te => dClear te x h
    | none => true
  | .copy, [ty, ty'], [d, s] => match elT T ty with
    | some te => dCopy te d s h
    | none => true
  | _, _, _ => true
def dCallN (n : Option (TypeId × Nat)) : Bool := match n with
  | none => true
  | some (_, sz) => decide (0 < sz)
def dOp (o : Oper) : Bool :=
  match o.op with
  | .move x => dMove T o.type x
  | .assign x => dMove T o.type x
  | .build ty ps => match T ty with
    | some ti => match ti.kind with
      | .array _ e => match T e with
        | some te => dBuild ti te.size (evP t ps.toList)
        | none => true
      | _ => dBuild ti 0 (evP t ps.toList)
    | none => true
  | .buildSlice ty len ps => match elT T ty with
    | some te => dBuildSlice te len (evP t ps.toList)
    | none => true
  | .load ty x => match T ty with
    | some ti => dLoad ti h (ev t x)
    | none => true
  | .store ty x y => match T ty with
    | some ti => dStoreN T h ti (ev t x) (isNilSl y) (ev t y)
    | none => true
  | .binOp op ty x y _ => dBin3 op (isNilSl y) (ev t x) (ev t y)
  | .makeSlice ty l c => match elT T ty with
    | some te => dMake te (ev t l) (ev t c)
    | none => true
  | .slice ty x lo hi mx => match T ty with
    | some ti => match ti.kind with
      | .slice e => match T e with
        | some te => dSl te ti (ev t x) (evO t lo) (evO t hi) (evO t mx) h
        | none => true
      | .array n e => match T e with
        | some te => dSlA n te (ev t x) (evO t lo) (evO t hi) (evO t mx)
        | none => true
      | _ => true
    | none => true
  | .fieldAddr ty x k => match T ty with
    | some ti => dField ti (ev t x) k
    | none => true
  | .indexAddr ty x y => match T ty with
    | some ti => match ti.kind with
      | .slice e => match T e with
        | some te => dIndex ti te.size h (ev t x) (ev t y)
        | none => true
      | .array _ e => match T e with
        | some te => dIndex ti te.size h (ev t x) (ev t y)
        | none => true
      | _ => true
    | none => true
  | .extract x k => dExtract (ev t x) k
  | .next x _ => dNext h (ev t x)
  | .entry x => dEntry h (ev t x)
  | .call c => match c.callee with
    | .value f => dCallN (lastN T c.args.toList c.argTypes.toList)
    | .builtin b => dBuiltin T h b c.argTypes.toList (evL t c.args.toList)
    | _ => true
  | .field ty x k => match T ty with
    | some ti => dFld ti (ev t x) k
    | none => true
  | .index ty x y => match T ty with
    | some ti => match ti.kind with
      | .array n e => match T e with
        | some te => dIdx n te (ev t x) (ev t y)
        | none => true
      | _ => true
    | none => true
  | _ => true
def noF (o : Oper) : Bool :=
  match o.op with
  | .binOp op ty x y _ => isNilSl y && nfNil h (ev t x)
  | _ => false
def pureO (o : Oper) : Bool :=
  match o.op with
  | .move x => !isNilSl x
  | .assign x => !isNilSl x
  | .pick _ _ _ | .build _ _ | .load _ _ | .nilCheck _ | .binOp _ _ _ _ _ | .unOp _ _ _ | .convert _ _ _ | .makeInterface _ _ | .makeFunc _ _ _ | .slice _ _ _ _ _ | .fieldAddr _ _ _ | .indexAddr _ _ _ | .typeAssert _ _ _ _ | .extract _ _ | .field _ _ _ | .index _ _ _ | .lookup _ _ _ _ => true
  | .call c => match c.callee with
    | .builtin .len => true
    | .builtin .max => true
    | .builtin .min => true
    | _ => false
  | _ => false
end

section
variable {T : Nat → Option TI} {F : Nat → Bool} {t : List SV} {h : HS}
theorem rMove_not {ty : TypeId} {x : Operand} (hx : isNilSl x = false) : rMove T t h ty x = .val True (ev t x) h := by
  unfold rMove
  split
  · simp [isNilSl] at hx
  · rfl
theorem dMove_ok {ty : TypeId} {x : Operand} (hd : dMove T ty x = true) : cnd (rMove T t h ty x) := by
  unfold dMove at hd
  split at hd
  · rename_i hx
    rw [isNilSl_eq hx]
    unfold rMove
    split
    · split
      · rename_i ht
        split
        · rename_i he; simpa [cnd, ht, he] using hd
        · trivial
      · trivial
    · trivial
  · rename_i hx; rw [rMove_not hx]; trivial
theorem skipAnd_c {p : Prop} {r : Res} (hp : p) (hr : cnd r) : cnd (skipAnd p r) := by
  unfold skipAnd; split
  · exact ⟨hp, hr⟩
  · trivial
theorem dStoreN_ok {ti : TI} {x y : SV} {b : Bool} (hd : dStoreN T h ti x b y = true) : cnd (rStoreN T h ti x b y) := by
  unfold dStoreN at hd; unfold rStoreN
  cases b with
  | false =>
    simp only at hd ⊢
    unfold rStoreO
    cases hs : hasSl ti.zero with
    | true => rw [hs] at hd; exact dStore_ok hd
    | false => rw [hs] at hd; exact dStore_ok hd
  | true =>
    simp only at hd ⊢
    split
    · rename_i hk
      simp only [hk] at hd
      split
      · rename_i he
        simp only [he, Bool.and_eq_true, decide_eq_true_eq] at hd
        exact skipAnd_c hd.1 (dStore_ok hd.2)
      · trivial
    · rename_i hk
      split at hd
      · rename_i e hk2; exact (hk _ hk2).elim
      · exact dStore_ok hd
theorem elT_some {ty e : TypeId} {ti : TI} (h1 : T ty = some ti) (h2 : ti.kind = .slice e) : elT T ty = T e ∧ elS T ty = e := by
  unfold elT elS; rw [h1]; simp only [h2]; exact ⟨trivial, trivial⟩
theorem dBuiltin_ok {b : Builtin} {tys : List TypeId} {args : List SV} (hd : dBuiltin T h b tys args = true) : cnd (rBuiltin T h b tys args) := by
  unfold rBuiltin
  split
  · simp only [dBuiltin] at hd
    split
    · rename_i ht; simp only [ht] at hd; exact dLen_ok hd
    · trivial
  · simp only [dBuiltin] at hd
    split
    · split
      · rename_i ht
        obtain ⟨e1, e2⟩ := elT_some ht rfl
        rw [e1, e2] at hd
        split
        · rename_i he; simp only [he] at hd; exact dAppend_ok hd
        · trivial
      · trivial
    · trivial
  · simp only [dBuiltin] at hd
    split
    · rename_i ht
      obtain ⟨e1, e2⟩ := elT_some ht rfl
      rw [e1] at hd
      split
      · rename_i he; simp only [he] at hd; exact dClear_ok hd
      · trivial
    · trivial
  · simp only [dBuiltin] at hd
    split
    · rename_i ht
      obtain ⟨e1, e2⟩ := elT_some ht rfl
      rw [e1] at hd
      split
      · rename_i he; simp only [he] at hd; exact dCopy_ok hd
      · trivial
    · trivial
  · unfold rMax; repeat' split
    all_goals trivial
  · unfold rMin; repeat' split
    all_goals trivial
  · trivial
theorem rBuiltin_s {b : Builtin} {tys : List TypeId} {args : List SV} (hb : b = .len ∨ b = .max ∨ b = .min) : same h (rBuiltin T h b tys args) := by
  unfold rBuiltin
  rcases hb with rfl | rfl | rfl
  · repeat' split
    all_goals first | exact rLen_s | trivial | contradiction
  · split <;> first | contradiction | (unfold rMax; repeat' split) | skip
    all_goals first | rfl | trivial
  · split <;> first | contradiction | (unfold rMin; repeat' split) | skip
    all_goals first | rfl | trivial
theorem rCall_c {f : SV} {args : List SV} : cnd (rCall F h f args) := by
  unfold rCall; repeat' split
  all_goals trivial
theorem dCallN_ok {n : Option (TypeId × Nat)} {f : SV} {args : List SV} (hd : dCallN n = true) : cnd (rCallN F h n f args) := by
  unfold rCallN
  split
  · exact rCall_c
  · simp only [dCallN, decide_eq_true_eq] at hd
    split
    · split
      · exact hd
      · trivial
    · trivial
theorem rBoxO_c {o : Option TI} {e : TypeId} {y : SV} : cnd (rBoxO h o e y) := by
  have hb : ∀ (y : SV) (h : HS), cnd (rBox e y h) := fun y h => by unfold rBox; split <;> trivial
  unfold rBoxO; repeat' split
  all_goals exact hb _ _
theorem rLookup_c {tk tv : TI} {ok : Bool} {x y : SV} : cnd (rLookup tk tv ok x y h) ∧ same h (rLookup tk tv ok x y h) := by
  unfold rLookup rLookB gLook; repeat' split
  all_goals first | exact ⟨trivial, rfl⟩ | exact ⟨trivial, trivial⟩
theorem mLk_c {ok : Bool} {x y : SV} {o : Option TI} : cnd (mLk T ok x y h o) ∧ same h (mLk T ok x y h o) := by
  unfold mLk; split
  · unfold mLk2; split
    · exact rLookup_c
    · exact ⟨trivial, trivial⟩
  · exact ⟨trivial, trivial⟩
theorem mUp_c {x y z : SV} {o : Option TI} : cnd (mUp T x y z h o) := by
  unfold mUp; split
  · unfold mUp2; split
    · unfold rUpdate rUpdB; repeat' split
      all_goals trivial
    · trivial
  · trivial
theorem mMk_c {o : Option TI} : cnd (mMk T h o) := by
  unfold mMk; split
  · unfold mMk2; split
    · unfold rMakeMap mkMp; split <;> trivial
    · trivial
  · trivial
theorem rFunc_c {fn : Fn} {a b : List SV} : cnd (rFunc h fn a b) ∧ same h (rFunc h fn a b) := by
  unfold rFunc; repeat' split
  all_goals first | exact ⟨trivial, rfl⟩ | exact ⟨trivial, trivial⟩
theorem rAssert_c {ti : TI} {ty : TypeId} {x : SV} {ok : Bool} : cnd (rAssert ti ty x ok h) ∧ same h (rAssert ti ty x ok h) := by
  unfold rAssert; repeat' split
  all_goals first | exact ⟨trivial, rfl⟩ | exact ⟨trivial, trivial⟩
theorem rUn_c {op : UnOp} {x : SV} : cnd (rUn op x h) ∧ same h (rUn op x h) := by
  unfold rUn; split <;> first | exact ⟨trivial, rfl⟩ | exact ⟨trivial, trivial⟩
theorem rConv_c {ti : TI} {x : SV} : cnd (rConv ti x h) ∧ same h (rConv ti x h) := by
  unfold rConv; split <;> first | exact ⟨trivial, rfl⟩ | exact ⟨trivial, trivial⟩
theorem rIface_c {ti : TI} {ty : TypeId} {x : SV} : cnd (rIface ti ty x h) ∧ same h (rIface ti ty x h) := by
  unfold rIface; split <;> first | exact ⟨trivial, rfl⟩ | exact ⟨trivial, trivial⟩
theorem rNil_c {x : SV} : cnd (rNil h x) ∧ same h (rNil h x) := by
  unfold rNil; split <;> first | exact ⟨trivial, rfl⟩ | exact ⟨trivial, trivial⟩
theorem rPick_c {a b c : SV} : cnd (rPick h a b c) ∧ same h (rPick h a b c) := by
  unfold rPick; split <;> first | exact ⟨trivial, rfl⟩ | exact ⟨trivial, trivial⟩
theorem rExtract_s {x : SV} {i : Nat} : same h (rExtract x i h) := by
  unfold rExtract; split <;> first | rfl | trivial

theorem dOp_ok {o : Oper} (hd : dOp T t h o = true) : cnd (opRes T F t h o) := by
  obtain ⟨dst, op, type, pos, aft, guard⟩ := o
  cases op <;> simp only [opRes] <;> simp only [dOp] at hd
  case move x => exact dMove_ok hd
  case assign x => exact dMove_ok hd
  case pick => exact rPick_c.1
  case nilCheck => exact rNil_c.1
  case alloc =>
    split
    · unfold rAlloc; trivial
    · trivial
  case box => exact rBoxO_c
  case build =>
    split
    · rename_i ht
      simp only [ht] at hd
      split
      · rename_i hk
        simp only [hk] at hd
        split
        · rename_i he; simp only [he] at hd; exact dBuild_ok hd
        · trivial
      · rename_i hk
        split at hd
        · rename_i hk2; exact (hk _ _ hk2).elim
        · exact dBuild_ok hd
    · trivial
  case buildSlice =>
    split
    · rename_i ht
      obtain ⟨e1, e2⟩ := elT_some ht rfl
      rw [e1] at hd
      split
      · rename_i he; simp only [he] at hd; exact dBuildSlice_ok hd
      · trivial
    · trivial
  case load =>
    split
    · rename_i ht; simp only [ht] at hd; exact dLoad_ok hd
    · trivial
  case store =>
    split
    · rename_i ht; simp only [ht] at hd; exact dStoreN_ok hd
    · trivial
  case binOp => exact rBin3_c hd
  case unOp => exact rUn_c.1
  case convert =>
    split
    · exact rConv_c.1
    · trivial
  case makeInterface =>
    split
    · exact rIface_c.1
    · trivial
  case makeFunc => exact rFunc_c.1
  case makeSlice =>
    split
    · rename_i ht
      obtain ⟨e1, e2⟩ := elT_some ht rfl
      rw [e1] at hd
      split
      · rename_i he; simp only [he] at hd; exact dMake_ok hd
      · trivial
    · trivial
  case slice =>
    split
    · rename_i ht
      simp only [ht] at hd
      split
      · rename_i hk
        simp only [hk] at hd
        split
        · rename_i he; simp only [he] at hd; exact dSl_ok hd
        · trivial
      · rename_i hk
        simp only [hk] at hd
        split
        · rename_i he; simp only [he] at hd; exact dSlA_ok hd
        · trivial
      · trivial
    · trivial
  case fieldAddr =>
    split
    · rename_i ht; simp only [ht] at hd; exact dField_ok hd
    · trivial
  case indexAddr =>
    split
    · rename_i ht
      simp only [ht] at hd
      split
      · rename_i hk
        simp only [hk] at hd
        split
        · rename_i he; simp only [he] at hd; exact dIndex_ok hd
        · trivial
      · rename_i hk
        simp only [hk] at hd
        split
        · rename_i he; simp only [he] at hd; exact dIndex_ok hd
        · trivial
      · trivial
    · trivial
  case typeAssert =>
    split
    · exact rAssert_c.1
    · trivial
  case extract => exact dExtract_ok hd
  case call =>
    split
    · rename_i hc; simp only [hc] at hd; exact dCallN_ok hd
    · rename_i hc; simp only [hc] at hd; exact dBuiltin_ok hd
    · trivial
  case panic => unfold rPanic; split <;> trivial
  case makeMap ty n => cases n <;> first | exact mMk_c | trivial
  case lookup => exact mLk_c.1
  case range =>
    split
    · exact rRange_c
    · trivial
  case next x b => cases b <;> first | exact dNext_ok hd | trivial
  case entry => exact dEntry_ok hd
  case mapUpdate => exact mUp_c
  case insert => exact mUp_c
  case field =>
    unfold mFd
    split
    · rename_i ht; simp only [ht] at hd; exact dFld_ok hd
    · trivial
  case index =>
    split
    · rename_i ht
      simp only [ht] at hd
      split
      · rename_i hk
        simp only [hk] at hd
        split
        · rename_i he; simp only [he] at hd; exact dIdx_ok hd
        · trivial
      · trivial
    · trivial
  all_goals trivial
theorem noF_ok {o : Oper} (hd : noF t h o = true) : nfk (opRes T F t h o) := by
  obtain ⟨dst, op, type, pos, aft, guard⟩ := o
  cases op <;> simp only [noF] at hd <;> (try (cases hd; done))
  simp only [opRes]
  rw [Bool.and_eq_true] at hd
  unfold rBin3
  rw [hd.1]
  exact nfNil_ok hd.2
theorem pure_s {o : Oper} (hp : pureO o = true) : same h (opRes T F t h o) := by
  obtain ⟨dst, op, type, pos, aft, guard⟩ := o
  cases op <;> simp only [pureO] at hp <;> (try (cases hp; done)) <;> simp only [opRes]
  case move x => rw [rMove_not (by simpa using hp)]; rfl
  case assign x => rw [rMove_not (by simpa using hp)]; rfl
  case pick => exact rPick_c.2
  case nilCheck => exact rNil_c.2
  case build =>
    repeat' split
    all_goals first | exact rBuild_same | trivial
  case load =>
    split
    · exact rLoad_s
    · trivial
  case binOp => exact rBin3_s
  case unOp => exact rUn_c.2
  case convert =>
    split
    · exact rConv_c.2
    · trivial
  case makeInterface =>
    split
    · exact rIface_c.2
    · trivial
  case makeFunc => exact rFunc_c.2
  case slice =>
    repeat' split
    all_goals first | exact rSl_s | exact rSlA_s | trivial
  case fieldAddr =>
    split
    · exact rField_s
    · trivial
  case indexAddr =>
    repeat' split
    all_goals first | exact rIndex_s | trivial
  case typeAssert =>
    split
    · exact rAssert_c.2
    · trivial
  case extract => exact rExtract_s
  case call c =>
    obtain ⟨callee, args, tys⟩ := c
    simp only at hp
    split at hp
    · exact rBuiltin_s (.inl rfl)
    · exact rBuiltin_s (.inr (.inl rfl))
    · exact rBuiltin_s (.inr (.inr rfl))
    · cases hp
  case lookup => exact mLk_c.2
  case field =>
    unfold mFd
    split
    · exact rFld_same
    · trivial
  case index =>
    repeat' split
    all_goals first | exact rIdx_s | trivial
end
end Go.Eng
end

/- The symbolic machine as a program: a run is reckoned, loops round by round. -/
section
namespace Go.Eng
open Go.RowKit
set_option linter.unusedVariables false

def eqL (f : SV → SV → Bool) : List SV → List SV → Bool
  | [], [] => true
  | x :: l, y :: k => f x y && eqL f l k
  | _, _ => false
def svEq : Nat → SV → SV → Bool
  | 0, _, _ => false
  | n + 1, x, y => match x, y with
    | .any, .any => true
    | .int k a, .int k' b => decide (k = k') && decide (a = b)
    | .bool a, .bool b => a == b
    | .ptr a b, .ptr c d => decide (a = c) && decide (b = d)
    | .nilp, .nilp => true
    | .nils a b, .nils c d => decide (a = c) && decide (b = d)
    | .vec a b, .vec c d => decide (a = c) && decide (b = d)
    | .vptr a b c d e, .vptr a' b' c' d' e' => decide (a = a') && decide (b = b') && decide (c = c') && decide (d = d') && decide (e = e')
    | .vcut a b c d e x, .vcut a' b' c' d' e' x' => decide (a = a') && decide (b = b') && decide (c = c') && decide (d = d') && decide (e = e') && (x == x')
    | .bsl a b c, .bsl a' b' c' => decide (a = a') && decide (b = b') && decide (c = c')
    | .mapp a, .mapp b => decide (a = b)
    | .func g l, .func g' l' => decide (g = g') && eqL (svEq n) l l'
    | .nilf, .nilf => true
    | .nili, .nili => true
    | .iface a v, .iface b u => decide (a = b) && svEq n v u
    | .agg l, .agg l' => eqL (svEq n) l l'
    | .tup l, .tup l' => eqL (svEq n) l l'
    | .yield a, .yield b => decide (a = b)
    | .meth g l, .meth g' l' => decide (g = g') && eqL (svEq n) l l'
    | _, _ => false
theorem eqL_ok {f : SV → SV → Bool} (hf : ∀ x y, f x y = true → x = y) : ∀ {l k : List SV}, eqL f l k = true → l = k
  | [], [], _ => rfl
  | x :: l, y :: k, h => by
    simp only [eqL, Bool.and_eq_true] at h
    rw [hf _ _ h.1, eqL_ok hf h.2]
  | [], _ :: _, h => by simp [eqL] at h
  | _ :: _, [], h => by simp [eqL] at h
theorem svEq_ok : ∀ (n : Nat) (x y : SV), svEq n x y = true → x = y
  | 0, _, _, h => by simp [svEq] at h
  | n + 1, x, y, h => by
    have ih := svEq_ok n
    unfold svEq at h
    split at h <;> first
      | rfl
      | (cases h; done)
      | (try simp only [Bool.and_eq_true, decide_eq_true_eq, beq_iff_eq] at h
         simp only [SV.int.injEq, SV.bool.injEq, SV.ptr.injEq, SV.nils.injEq, SV.vec.injEq, SV.vptr.injEq, SV.vcut.injEq, SV.bsl.injEq, SV.mapp.injEq, SV.func.injEq, SV.iface.injEq, SV.agg.injEq, SV.tup.injEq, SV.yield.injEq, SV.meth.injEq]
         first
          | exact h
          | exact ⟨h.1.1.1.1, h.1.1.1.2, h.1.1.2, h.1.2, h.2⟩
          | exact ⟨h.1.1.1.1.1, h.1.1.1.1.2, h.1.1.1.2, h.1.1.2, h.1.2, h.2⟩
          | exact ⟨h.1.1, h.1.2, h.2⟩
          | exact ⟨h.1, eqL_ok ih h.2⟩
          | exact ⟨h.1, ih _ _ h.2⟩
          | exact eqL_ok ih h)

abbrev RnB : Type 1 := Ctx → Nat → List It → List SV → List Fr → HS → (Out → HS → Bool) → Bool
def Ctx.dfr (C : Ctx) (l : List Nat) : Ctx := { C with D := some l }

def dResL (T : Nat → Option TI) (t : List SV) (h : HS) : List ResultVar → Bool
  | [] => true
  | .tmp _ :: l => dResL T t h l
  | .cell a ty :: l => match T ty with
    | some ti => dLoad ti h (nth t a) && dResL T t h l
    | none => true
theorem dResL_ok {T : Nat → Option TI} {t : List SV} {h : HS} : ∀ {l : List ResultVar} {p : Prop} {vs : List SV}, dResL T t h l = true → resL T t h l = some (p, vs) → p
  | [], p, vs, _, h => by simp only [resL, Option.some.injEq, Prod.mk.injEq] at h; exact h.1 ▸ trivial
  | .tmp i :: l, p, vs, hd, hr => by
    simp only [resL] at hr
    simp only [dResL] at hd
    split at hr
    · rename_i h1; simp only [Option.some.injEq, Prod.mk.injEq] at hr; exact hr.1 ▸ dResL_ok hd h1
    · cases hr
  | .cell a ty :: l, p, vs, hd, hr => by
    simp only [resL] at hr
    simp only [dResL] at hd
    split at hr
    · rename_i ti ht
      simp only [ht, Bool.and_eq_true] at hd
      split at hr
      · rename_i q v h' p' vs' h1 h2
        simp only [Option.some.injEq, Prod.mk.injEq] at hr
        have := dLoad_ok hd.1
        rw [h1] at this
        exact hr.1 ▸ ⟨this, dResL_ok hd.2 h2⟩
      · cases hr
    · cases hr
def dResK (T : Nat → Option TI) (h : HS) : List ResultVar → List SV → Bool
  | [], _ => true
  | .tmp _ :: l, _ :: ts => dResK T h l ts
  | .cell _ ty :: l, x :: ts => match T ty with
    | some ti => dLoad ti h x && dResK T h l ts
    | none => true
  | _ :: _, [] => true
theorem dResK_ok {T : Nat → Option TI} {h : HS} : ∀ {l : List ResultVar} {ts : List SV} {p : Prop} {vs : List SV}, dResK T h l ts = true → resK T h l ts = some (p, vs) → p
  | [], ts, p, vs, _, h => by simp only [resK, Option.some.injEq, Prod.mk.injEq] at h; exact h.1 ▸ trivial
  | .tmp i :: l, x :: ts, p, vs, hd, hr => by
    simp only [resK] at hr
    simp only [dResK] at hd
    split at hr
    · rename_i h1; simp only [Option.some.injEq, Prod.mk.injEq] at hr; exact hr.1 ▸ dResK_ok hd h1
    · cases hr
  | .cell a ty :: l, x :: ts, p, vs, hd, hr => by
    simp only [resK] at hr
    simp only [dResK] at hd
    split at hr
    · rename_i ti ht
      simp only [ht, Bool.and_eq_true] at hd
      split at hr
      · rename_i q v h' p' vs' h1 h2
        simp only [Option.some.injEq, Prod.mk.injEq] at hr
        have := dLoad_ok hd.1
        rw [h1] at this
        exact hr.1 ▸ ⟨this, dResK_ok hd.2 h2⟩
      · cases hr
    · cases hr
  | .tmp i :: l, [], p, vs, hd, hr => by simp [resK] at hr
  | .cell a ty :: l, [], p, vs, hd, hr => by simp [resK] at hr
def noInvB : List It → Bool
  | [] => true
  | .inv _ _ _ _ _ :: _ => false
  | .endR _ :: _ => false
  | .code _ :: k => noInvB k
  | .blk _ :: k => noInvB k
  | .reg _ _ :: k => noInvB k
  | .inRng _ :: k => noInvB k
  | .endRng _ :: k => noInvB k
  | .beginR :: k => noInvB k
  | .aga _ :: k => noInvB k
  | .scp _ :: k => noInvB k
theorem noInvB_ok : ∀ {k : List It}, noInvB k = true → noInv k
  | [], _ => by simp only [noInv]
  | .inv _ _ _ _ _ :: _, h => by simp [noInvB] at h
  | .endR _ :: _, h => by simp [noInvB] at h
  | .code _ :: k, h => by simp only [noInvB] at h; simp only [noInv]; exact noInvB_ok h
  | .blk _ :: k, h => by simp only [noInvB] at h; simp only [noInv]; exact noInvB_ok h
  | .reg _ _ :: k, h => by simp only [noInvB] at h; simp only [noInv]; exact noInvB_ok h
  | .inRng _ :: k, h => by simp only [noInvB] at h; simp only [noInv]; exact noInvB_ok h
  | .endRng _ :: k, h => by simp only [noInvB] at h; simp only [noInv]; exact noInvB_ok h
  | .beginR :: k, h => by simp only [noInvB] at h; simp only [noInv]; exact noInvB_ok h
  | .aga _ :: k, h => by simp only [noInvB] at h; simp only [noInv]; exact noInvB_ok h
  | .scp _ :: k, h => by simp only [noInvB] at h; simp only [noInv]; exact noInvB_ok h

def panB (D : Option (List Nat)) (Q : Out → HS → Bool) (t : List SV) (v : SV) (h : HS) : Bool :=
  match D with
  | none => Q (.pan v) h
  | some l => Q (.fin (some v) (keepN t l)) h
def outB (S : List SV → HS → Bool) (X : List SV → SV → HS → Bool) (t : List SV) (dst : Option Nat) (o : Out) (h : HS) : Bool :=
  match o with
  | .ret v => S (put t dst v) h
  | .pan v => X t v h
  | _ => false
def stopB (D : Option (List Nat)) (Q : Out → HS → Bool) (k : List It) (t : List SV) (h : HS) : Bool :=
  match D with
  | none => false
  | some _ => Q (.stop k t) h
section
variable (C : Ctx) (R : RnB)
def popB (v : SV) (fs : List Fr) (h : HS) (Q : Out → HS → Bool) : Bool :=
  match fs with
  | [] => Q (.ret v) h
  | ⟨fid, .reg ops (i :: idx) :: k, t⟩ :: fs => match getO ops.toList i with
    | some o => R C fid (.reg ops idx :: k) (put t o.dst v) fs h Q
    | none => false
  | ⟨fid, .inRng nm :: k, t⟩ :: fs => R C fid (.endRng nm :: k) t fs h Q
  | _ => false
def popRB (v : SV) (fs : List Fr) (h : HS) (Q : Out → HS → Bool) : Bool :=
  match fs with
  | ⟨fid, .reg ops (i :: idx) :: k, t⟩ :: fs => match getO ops.toList i with
    | some o => R C fid (.reg ops idx :: k) (put t o.dst v) fs h Q
    | none => false
  | [] => match C.D, C.rd with
    | none, true => Q (.rnd v) h
    | _, _ => false
  | _ => false
def endRB (b : Blk) (nm : Nat) (jump : Option Code) (fs : List Fr) (h : HS) (Q : Out → HS → Bool) : Bool :=
  match b with
  | .loop _ _ fid t params assign body => popRB C R (.bool jump.isNone) fs { h with blks := setB h.blks nm (.loop (if jump.isNone then .ready else .done) jump fid t params assign body) } Q
  | _ => false
def beginRB (x : Option Nat) (fid : Nat) (k : List It) (t : List SV) (fs : List Fr) (h : HS) (Q : Out → HS → Bool) : Bool :=
  match x with
  | some nm => match getB h.blks nm with
    | .loop .ready pend fid' t' params assign body => R C fid k t fs { h with blks := setB h.blks nm (.loop .busy pend fid' t' params assign body) } Q
    | _ => false
  | none => false
def endRngB (b : Blk) (nm fid : Nat) (k : List It) (t : List SV) (fs : List Fr) (h : HS) (Q : Out → HS → Bool) : Bool :=
  match b with
  | .loop .ready none _ _ _ _ _ => R C fid k t fs { h with blks := setB h.blks nm .dead } Q
  | .loop .done none _ _ _ _ _ => R C fid k t fs { h with blks := setB h.blks nm .dead } Q
  | .loop .done (some c) _ _ _ _ _ => R C fid (.code c :: k) t fs { h with blks := setB h.blks nm .dead } Q
  | _ => false
def retB (x : Option Nat) (jump : Code) (fs : List Fr) (h : HS) (Q : Out → HS → Bool) (els : Bool) : Bool :=
  match x with
  | none => els
  | some nm => endRB C R (getB h.blks nm) nm (some jump) fs h Q
def leaveB (D : Option (List Nat)) (fid : Nat) (t : List SV) (fs : List Fr) (h : HS) (Q : Out → HS → Bool) (fn : Option Func) : Bool :=
  match D with
  | none => match fn with
    | some fn => match resL C.T t h fn.results.toList with
      | some (p, vs) => dResL C.T t h fn.results.toList && popB C R (oneR vs) fs h Q
      | none => false
    | none => false
  | some l => Q (.fin none (keepN t l)) h
def condB (x : SV) (fid : Nat) (a b : Code) (k : List It) (t : List SV) (fs : List Fr) (h : HS) (Q : Out → HS → Bool) : Bool :=
  match x with
  | .bool true => R C fid (.code a :: k) t fs h Q
  | .bool false => R C fid (.code b :: k) t fs h Q
  | _ => false
def exitB (id : Nat) (k0 : List It) (k : Option (List It)) (fid : Nat) (t : List SV) (fs : List Fr) (h : HS) (Q : Out → HS → Bool) : Bool :=
  match k with
  | some k => R C fid k t fs h Q
  | none => retB C R (rnd k0) (.exit id) fs h Q false
def rngGoB (D : Option (List Nat)) (fn : Option Func) (g : Nat) (args : List SV) (nm fid : Nat) (k : List It) (t : List SV) (fs : List Fr) (h : HS) (Q : Out → HS → Bool) : Bool :=
  match fn with
  | some fn => match fn.body with
    | some c => match D with
      | none => R C g [.code c] (catS args (anys (fn.ntmps - lenS args))) (⟨fid, .inRng nm :: k, t⟩ :: fs) h Q
      | some _ => R C.off g [.code c] (catS args (anys (fn.ntmps - lenS args))) [] h (outB (fun t' h' => R C fid (.endRng nm :: k) t' fs h' Q) (panB C.D Q) t none)
    | none => false
  | none => false
def rngB (f : SV) (params : Array Nat) (assign body : Code) (fid : Nat) (k : List It) (t : List SV) (fs : List Fr) (h : HS) (Q : Out → HS → Bool) : Bool :=
  match f with
  | .func g caps => C.F g && ((rnd k).isNone && rngGoB C R C.D (C.FN g) g (.yield (lenB h.blks) :: caps) (lenB h.blks) fid k t fs { h with blks := snocB h.blks (.loop .ready none fid t params assign body) } Q)
  | _ => false
def roundB (D : Option (List Nat)) (ok : Bool) (nm rf : Nat) (rt : List SV) (assign body : Code) (fid : Nat) (ops : Array Oper) (i : Nat) (idx : List Nat) (k : List It) (t : List SV) (fs : List Fr) (h : HS) (Q : Out → HS → Bool) : Bool :=
  match C.rs, D with
  | false, none => ok && R C rf [.code assign, .beginR, .code body, .endR nm] rt (⟨fid, .reg ops (i :: idx) :: k, t⟩ :: fs) h Q
  | _, _ => false
def inlB (D : Option (List Nat)) (fn : Option Func) (g : Nat) (args : List SV) (fid : Nat) (ops : Array Oper) (i : Nat) (idx : List Nat) (dst : Option Nat) (k : List It) (t : List SV) (fs : List Fr) (h : HS) (Q : Out → HS → Bool) : Bool :=
  match fn with
  | some fn => match fn.body with
    | some c => match D with
      | none => R C g [.code c] (catS args (anys (fn.ntmps - lenS args))) (⟨fid, .reg ops (i :: idx) :: k, t⟩ :: fs) h Q
      | some _ => R C.off g [.code c] (catS args (anys (fn.ntmps - lenS args))) [] h (outB (fun t' h' => R C fid (.reg ops idx :: k) t' fs h' Q) (panB C.D Q) t dst)
    | none => false
  | none => false

/- A function that defers one call. -/
def resultB (fn : Func) (K : Out → HS → Bool) (ts : List SV) (p : Option SV) (h : HS) : Bool :=
  match p with
  | none => match resK C.T h fn.results.toList ts with
    | some (q, vs) => dResK C.T h fn.results.toList ts && K (.ret (oneR vs)) h
    | none => false
  | some v => K (.pan v) h
def rcvEndB (K : Option SV → HS → Bool) (o : Out) (h : HS) : Bool :=
  match o with
  | .fin none _ => K none h
  | _ => false
def rcvOpB (p : Option SV) (K : Option SV → HS → Bool) (g : Nat) (o : Option Oper) (ops : Array Oper) (idx : List Nat) (k : List It) (t : List SV) (h : HS) : Bool :=
  match o with
  | some ⟨dst, .call ⟨.builtin .recover, ⟨[]⟩, _⟩, _, _, _, none⟩ => noInvB k && R (C.dfr []) g (.reg ops idx :: k) (put t dst (gotS p)) [] h (rcvEndB K)
  | _ => false
def rcvB (p : Option SV) (K : Option SV → HS → Bool) (g : Nat) (o : Out) (h : HS) : Bool :=
  match o with
  | .stop (.reg ops (i :: idx) :: k) t => rcvOpB C R p K g (getO ops.toList i) ops idx k t h
  | _ => false
def defB (g : Nat) (args : List SV) (p : Option SV) (h : HS) (K : Option SV → HS → Bool) : Bool :=
  match C.FN g with
  | some fn => match fn.body with
    | some c => fn.results.toList.isEmpty && R (C.dfr []) g [.code c] (catS args (anys (fn.ntmps - lenS args))) [] h (rcvB C R p K g)
    | none => false
  | none => false
def endB (fn : Func) (K : Out → HS → Bool) (g' : Nat) (caps : List SV) (o : Out) (h : HS) : Bool :=
  match o with
  | .fin p ts => defB C R g' caps p h (resultB C fn K ts)
  | _ => false
def dfrGoB (fn : Func) (K : Out → HS → Bool) (g : Nat) (f : SV) (ops : Array Oper) (idx : List Nat) (dst : Option Nat) (k : List It) (t : List SV) (h : HS) : Bool :=
  match f with
  | .func g' caps => C.F g' && (noInvB k && R (C.dfr (slots fn.results.toList)) g (.reg ops idx :: k) (put t dst .any) [] h (endB C R fn K g' caps))
  | _ => false
def dfrOpB (fn : Func) (K : Out → HS → Bool) (g : Nat) (o : Option Oper) (ops : Array Oper) (idx : List Nat) (k : List It) (t : List SV) (h : HS) : Bool :=
  match o with
  | some ⟨dst, .defer ⟨.value f, ⟨[]⟩, _⟩, _, _, _, none⟩ => dfrGoB C R fn K g (ev t f) ops idx dst k t h
  | _ => false
def dfrQB (fn : Func) (K : Out → HS → Bool) (g : Nat) (o : Out) (h : HS) : Bool :=
  match o with
  | .stop (.reg ops (i :: idx) :: k) t => dfrOpB C R fn K g (getO ops.toList i) ops idx k t h
  | .fin p ts => resultB C fn K ts p h
  | _ => false
def dfrB (g : Nat) (args : List SV) (h : HS) (K : Out → HS → Bool) : Bool :=
  match C.FN g with
  | some fn => match fn.body with
    | some c => R (C.dfr (slots fn.results.toList)) g [.code c] (catS args (anys (fn.ntmps - lenS args))) [] h (dfrQB C R fn K g)
    | none => false
  | none => false

def goB (il : Bool) (g : Nat) (args : List SV) (fid : Nat) (ops : Array Oper) (i : Nat) (idx : List Nat) (dst : Option Nat) (k : List It) (t : List SV) (fs : List Fr) (h : HS) (Q : Out → HS → Bool) : Bool :=
  match il with
  | true => inlB C R C.D (C.FN g) g args fid ops i idx dst k t fs h Q
  | false => dfrB C R g args h (outB (fun t' h' => R C fid (.reg ops idx :: k) t' fs h' Q) (panB C.D Q) t dst)
def allN (f : Nat → Bool) : Nat → Bool
  | 0 => true
  | n + 1 => f n && allN f n
def anyN (f : Nat → Bool) : Nat → Bool
  | 0 => false
  | n + 1 => f n || anyN f n
theorem allN_ok {f : Nat → Bool} : ∀ {n : Nat}, allN f n = true → ∀ i, i < n → f i = true
  | 0, _, i, hi => by omega
  | n + 1, h, i, hi => by
    simp only [allN, Bool.and_eq_true] at h
    by_cases e : i = n
    · subst e; exact h.1
    · exact allN_ok h.2 i (by omega)
theorem anyN_ok {f : Nat → Bool} : ∀ {n : Nat}, anyN f n = true → ∃ i, i < n ∧ f i = true
  | 0, h => by cases h
  | n + 1, h => by
    simp only [anyN, Bool.or_eq_true] at h
    rcases h with h | h
    · exact ⟨n, by omega, h⟩
    · obtain ⟨i, h1, h2⟩ := anyN_ok h; exact ⟨i, by omega, h2⟩
def execB (nf d : Bool) (r : Res) (fid : Nat) (ops : Array Oper) (i : Nat) (idx : List Nat) (dst : Option Nat) (k : List It) (t : List SV) (fs : List Fr) (h : HS) (Q : Out → HS → Bool) : Bool :=
  match r with
  | .val p v h' => d && R C fid (.reg ops idx :: k) (put t dst v) fs h' Q
  | .skip p h' => d && R C fid (.reg ops idx :: k) (put t dst .any) fs h' Q
  | .fork p v u h' => (nf || R C fid (.reg ops idx :: k) (put t dst v) fs h' Q) && R C fid (.reg ops idx :: k) (put t dst u) fs h' Q
  | .pan v => panB C.D Q t v h
  | .call g args => goB C R (C.inl g) g args fid ops i idx dst k t fs h Q
  | .callN p g args h' => d && goB C R (C.inl g) g args fid ops i idx dst k t fs h' Q
  | .pick c n p v g u h' => d && (allN (fun i => !p i || R C fid (.reg ops idx :: k) (put t dst (v i)) fs (g i) Q) n && (anyN p n || R C fid (.reg ops idx :: k) (put t dst u) fs h' Q))
  | .round nm rf rt assign body => roundB C R C.D (C.FN rf).isSome nm rf rt assign body fid ops i idx k t fs h Q
  | .bad => stopB C.D Q (.reg ops (i :: idx) :: k) t h
def wantB (b want : Bool) (o : Oper) (fid : Nat) (ops : Array Oper) (i : Nat) (idx : List Nat) (k : List It) (t : List SV) (fs : List Fr) (h : HS) (Q : Out → HS → Bool) : Bool :=
  match b, want with
  | true, true => execB C R (noF t h o) (dOp C.T t h o) (opRes C.T C.F t h o) fid ops i idx o.dst k t fs h Q
  | false, false => execB C R (noF t h o) (dOp C.T t h o) (opRes C.T C.F t h o) fid ops i idx o.dst k t fs h Q
  | _, _ => R C fid (.reg ops idx :: k) (put t o.dst (.tup [])) fs h Q
def guardB (x : SV) (d : Nat) (want : Bool) (o : Oper) (fid : Nat) (ops : Array Oper) (i : Nat) (idx : List Nat) (k : List It) (t : List SV) (fs : List Fr) (h : HS) (Q : Out → HS → Bool) : Bool :=
  match x with
  | .bool true => wantB C R true want o fid ops i idx k (upd t d (.bool true)) fs h Q
  | .bool false => wantB C R false want o fid ops i idx k (upd t d (.bool false)) fs h Q
  | .tup [] => R C fid (.reg ops idx :: k) (put t o.dst (.tup [])) fs h Q
  | _ => false
def guard1B (oj : Option Oper) (want : Bool) (o : Oper) (fid : Nat) (ops : Array Oper) (i : Nat) (idx : List Nat) (k : List It) (t : List SV) (fs : List Fr) (h : HS) (Q : Out → HS → Bool) : Bool :=
  match oj with
  | some { dst := some d, .. } => guardB C R (nth t d) d want o fid ops i idx k t fs h Q
  | _ => false
def opB (o : Option Oper) (fid : Nat) (ops : Array Oper) (i : Nat) (idx : List Nat) (k : List It) (t : List SV) (fs : List Fr) (h : HS) (Q : Out → HS → Bool) : Bool :=
  match o with
  | some ⟨dst, op, ty, pos, aft, none⟩ => execB C R (noF t h ⟨dst, op, ty, pos, aft, none⟩) (dOp C.T t h ⟨dst, op, ty, pos, aft, none⟩) (opRes C.T C.F t h ⟨dst, op, ty, pos, aft, none⟩) fid ops i idx dst k t fs h Q
  | some ⟨dst, op, ty, pos, aft, some (j, want)⟩ => guard1B C R (getO ops.toList j) want ⟨dst, op, ty, pos, aft, some (j, want)⟩ fid ops i idx k t fs h Q
  | none => false

/- ### regions whose order is drawn -/
def reS1B (pu d : Bool) (r : Res) (dst : Option Nat) (t : List SV) : Bool :=
  match r with
  | .val _ v _ => pu && (d && match dst with
    | some s => svEq 8 v (nth t s)
    | none => true)
  | _ => false
def reWB (b want : Bool) (pu d : Bool) (r : Res) (dst : Option Nat) (t : List SV) : Bool :=
  match b, want with
  | true, true => reS1B pu d r dst t
  | false, false => reS1B pu d r dst t
  | _, _ => true
def reGB (x : SV) (want : Bool) (pu d : Bool) (r : Res) (dst : Option Nat) (t : List SV) : Bool :=
  match x with
  | .bool b => reWB b want pu d r dst t
  | .tup [] => true
  | _ => false
def reOB (ops : Array Oper) (t : List SV) (h : HS) (o : Option Oper) : Bool :=
  match o with
  | some ⟨dst, op, ty, pos, aft, none⟩ => reS1B (pureO ⟨dst, op, ty, pos, aft, none⟩) (dOp C.T t h ⟨dst, op, ty, pos, aft, none⟩) (opRes C.T C.F t h ⟨dst, op, ty, pos, aft, none⟩) dst t
  | some ⟨dst, op, ty, pos, aft, some (j, want)⟩ => match getO ops.toList j with
    | some { dst := some d, .. } => reGB (nth t d) want (pureO ⟨dst, op, ty, pos, aft, some (j, want)⟩) (dOp C.T t h ⟨dst, op, ty, pos, aft, some (j, want)⟩) (opRes C.T C.F t h ⟨dst, op, ty, pos, aft, some (j, want)⟩) dst t
    | _ => false
  | none => false
def reAB (ops : Array Oper) (t : List SV) (h : HS) : List Nat → Bool
  | [] => true
  | k :: l => reOB C ops t h (getO ops.toList k) && reAB ops t h l
variable (X : List SV → SV → HS → Bool) (Q : Out → HS → Bool)
def qGoB (pu d : Bool) (r : Res) (dst : Option Nat) (S : List SV → HS → Bool) (t : List SV) (h : HS) : Bool :=
  match r with
  | .val _ v _ => pu && (d && S (put t dst v) h)
  | _ => false
def lCallB (il : Bool) (g : Nat) (args : List SV) (dst : Option Nat) (S : List SV → HS → Bool) (t : List SV) (h : HS) : Bool :=
  match il with
  | true => match C.FN g with
    | some fn => match fn.body with
      | some c => R C.off g [.code c] (catS args (anys (fn.ntmps - lenS args))) [] h (outB S X t dst)
      | none => false
    | none => false
  | false => dfrB C R g args h (outB S X t dst)
def rndB (S : List SV → HS → Bool) (t : List SV) (dst : Option Nat) (o : Out) (h : HS) : Bool :=
  match o with
  | .rnd v => S (put t dst v) h
  | _ => false
def lGoB (d : Bool) (r : Res) (dst : Option Nat) (S : List SV → HS → Bool) (t : List SV) (h : HS) : Bool :=
  match r with
  | .val p v h' => d && S (put t dst v) h'
  | .skip p h' => d && S (put t dst .any) h'
  | .call g args => lCallB C R X (C.inl g) g args dst S t h
  | .callN p g args h' => d && lCallB C R X (C.inl g) g args dst S t h'
  | .round nm rf rt assign body => (C.FN rf).isSome && R C.rnd rf [.code assign, .beginR, .code body, .endR nm] rt [] h (rndB S t dst)
  | _ => false
def goPB (quiet : Bool) (o : Oper) (S : List SV → HS → Bool) (t : List SV) (h : HS) : Bool :=
  match quiet with
  | true => qGoB (pureO o) (dOp C.T t h o) (opRes C.T C.F t h o) o.dst S t h
  | false => lGoB C R X (dOp C.T t h o) (opRes C.T C.F t h o) o.dst S t h
def gateWB (b want : Bool) (quiet : Bool) (o : Oper) (S : List SV → HS → Bool) (t : List SV) (h : HS) : Bool :=
  match b, want with
  | true, true => goPB C R X quiet o S t h
  | false, false => goPB C R X quiet o S t h
  | _, _ => S (put t o.dst (.tup [])) h
def gateGB (x : SV) (d : Nat) (want : Bool) (quiet : Bool) (o : Oper) (S : List SV → HS → Bool) (t : List SV) (h : HS) : Bool :=
  match x with
  | .bool true => gateWB C R X true want quiet o S (upd t d (.bool true)) h
  | .bool false => gateWB C R X false want quiet o S (upd t d (.bool false)) h
  | .tup [] => S (put t o.dst (.tup [])) h
  | _ => false
def gateB (ops : Array Oper) (quiet : Bool) (o : Option Oper) (S : List SV → HS → Bool) (t : List SV) (h : HS) : Bool :=
  match o with
  | some ⟨dst, op, ty, pos, aft, none⟩ => goPB C R X quiet ⟨dst, op, ty, pos, aft, none⟩ S t h
  | some ⟨dst, op, ty, pos, aft, some (j, want)⟩ => match getO ops.toList j with
    | some { dst := some d, .. } => gateGB C R X (nth t d) d want quiet ⟨dst, op, ty, pos, aft, some (j, want)⟩ S t h
    | _ => false
  | none => false
def thenB (ops : Array Oper) (re : List Nat) (S : List SV → HS → Bool) (t : List SV) (h : HS) : Bool := reAB C ops t h re && S t h
def planB (fid : Nat) (ops : Array Oper) (k : List It) (fs : List Fr) : Plan → List SV → HS → Bool
  | .done, t, h => R C fid k t fs h Q
  | .quiet i p, t, h => gateB C R X ops true (getO ops.toList i) (planB fid ops k fs p) t h
  | .loud i re p, t, h => gateB C R X ops false (getO ops.toList i) (thenB C ops re (planB fid ops k fs p)) t h
  | .both p q, t, h => planB fid ops k fs p t h && planB fid ops k fs q t h
def drawB (p : Option Plan) (fid : Nat) (ops : Array Oper) (k : List It) (t : List SV) (fs : List Fr) (h : HS) : Bool :=
  match p with
  | some p => planOk ops p && (keepOk ops C.D && planB C R (panB C.D Q) Q fid ops k fs p t h)
  | none => false
end

def codeB (R : RnB) (C : Ctx) (fid : Nat) (c : Code) (k : List It) (t : List SV) (fs : List Fr) (h : HS) (Q : Out → HS → Bool) : Bool :=
  match c with
  | .skip => R C fid k t fs h Q
  | .label _ => R C fid k t fs h Q
  | .seq a b => R C fid (.code a :: .code b :: k) t fs h Q
  | .cond c a b => condB C R (ev t c) fid a b k t fs h Q
  | .block id c => R C fid (.code c :: .blk id :: k) t fs h Q
  | .loop body => R C fid (.code body :: .aga body :: k) t fs h Q
  | .scope body => R C fid (.code body :: .scp body :: k) t fs h Q
  | .exit id => exitB C R id k (exitI id k) fid t fs h Q
  | .rangeFunc f params assign body => rngB C R (ev t f) params assign body fid k t fs h Q
  | .ret => retB C R (rnd k) .ret fs h Q (leaveB C R C.D fid t fs h Q (C.FN fid))
  | .region _ ops false => R C fid (.reg ops (upto ops.toList 0) :: k) t fs h Q
  | .region id ops true => drawB C R Q (C.plan fid id) fid ops k t fs h
  | _ => false
def stepB (R : RnB) : RnB := fun C fid k t fs h Q =>
  match k with
  | [] => leaveB C R C.D fid t fs h Q (C.FN fid)
  | .code c :: k => codeB R C fid c k t fs h Q
  | .blk _ :: k => R C fid k t fs h Q
  | .aga body :: k => R C fid (.code body :: .aga body :: k) t fs h Q
  | .scp _ :: k => R C fid k t fs h Q
  | .reg ops [] :: k => R C fid k t fs h Q
  | .reg ops (i :: idx) :: k => opB C R (getO ops.toList i) fid ops i idx k t fs h Q
  | .endRng nm :: k => endRngB C R (getB h.blks nm) nm fid k t fs h Q
  | .beginR :: k => beginRB C R (rnd k) fid k t fs h Q
  | .endR nm :: _ => endRB C R (getB h.blks nm) nm none fs h Q
  | _ => false
def runB : Nat → RnB := Nat.rec (fun _ _ _ _ _ _ _ => false) (fun _ R => stepB R)
theorem runB_succ (n : Nat) : runB (n + 1) = stepB (runB n) := rfl
end Go.Eng
end

/- What is reckoned is true of the symbolic machine. -/
section
namespace Go.Eng
open Go.RowKit
set_option linter.unusedVariables false

structure CtxE (C : Ctx) : Prop where
  ok : CtxOk C
  G : ∀ g, C.G g = none
theorem CtxE.off {C : Ctx} (h : CtxE C) : CtxE C.off := ⟨⟨h.ok.T, h.ok.F, h.ok.FN, h.ok.G, h.ok.mix⟩, h.G⟩
theorem CtxE.rnd {C : Ctx} (h : CtxE C) : CtxE C.rnd := ⟨⟨h.ok.T, h.ok.F, h.ok.FN, h.ok.G, h.ok.mix⟩, h.G⟩
theorem CtxE.dfr {C : Ctx} (h : CtxE C) (l : List Nat) : CtxE (C.dfr l) := ⟨⟨h.ok.T, h.ok.F, h.ok.FN, h.ok.G, h.ok.mix⟩, h.G⟩
def Snd (n : Nat) (R : RnB) : Prop := ∀ C, CtxE C → ∀ fid k t fs h (Q : Out → HS → Bool) (Q' : Out → HS → Prop), (∀ o h, Q o h = true → Q' o h) → R C fid k t fs h Q = true → run C n fid k t fs h Q'

section
variable {n : Nat} {C : Ctx} {R : RnB} {Q : Out → HS → Bool} {Q' : Out → HS → Prop}
theorem panB_ok {D : Option (List Nat)} {t : List SV} {v : SV} {h : HS} (hQ : ∀ o h, Q o h = true → Q' o h) (hb : panB D Q t v h = true) : panQ D Q' t v h := by
  unfold panB at hb; unfold panQ
  cases D with
  | none => exact hQ _ _ hb
  | some l => exact hQ _ _ hb
theorem stopB_ok {D : Option (List Nat)} {k : List It} {t : List SV} {h : HS} (hQ : ∀ o h, Q o h = true → Q' o h) (hb : stopB D Q k t h = true) : stopQ D Q' k t h := by
  unfold stopB at hb; unfold stopQ
  cases D with
  | none => cases hb
  | some l => exact hQ _ _ hb
theorem outB_ok {S : List SV → HS → Bool} {S' : List SV → HS → Prop} {X : List SV → SV → HS → Bool} {X' : List SV → SV → HS → Prop} {t : List SV} {dst : Option Nat} (hS : ∀ t h, S t h = true → S' t h) (hX : ∀ t v h, X t v h = true → X' t v h) (o : Out) (h : HS)
    (hb : outB S X t dst o h = true) : outK S' X' t dst o h := by
  unfold outB at hb; unfold outK
  cases o with
  | ret v => exact hS _ _ hb
  | pan v => exact hX _ _ _ hb
  | fin _ _ => cases hb
  | stop _ _ => cases hb
  | rnd _ => cases hb
variable (hR : Snd n R) (hC : CtxE C) (hQ : ∀ o h, Q o h = true → Q' o h)
include hR hC hQ
theorem popB_ok {v : SV} {fs : List Fr} {h : HS} (hb : popB C R v fs h Q = true) : popS (run C n) v fs h Q' := by
  unfold popB at hb; unfold popS
  split at hb
  · exact hQ _ _ hb
  · split at hb
    · rename_i ho; simp only [ho]; exact hR C hC _ _ _ _ _ _ _ hQ hb
    · cases hb
  · exact hR C hC _ _ _ _ _ _ _ hQ hb
  · cases hb
theorem popRB_ok {v : SV} {fs : List Fr} {h : HS} (hb : popRB C R v fs h Q = true) : popR C (run C n) v fs h Q' := by
  unfold popRB at hb; unfold popR
  split at hb
  · split at hb
    · rename_i ho; simp only [ho]; exact hR C hC _ _ _ _ _ _ _ hQ hb
    · cases hb
  · split at hb
    · rename_i h1 h2; simp only [h1, h2]; exact hQ _ _ hb
    · cases hb
  · cases hb
theorem endRB_ok {b : Blk} {nm : Nat} {jump : Option Code} {fs : List Fr} {h : HS} (hb : endRB C R b nm jump fs h Q = true) : endRS C (run C n) b nm jump fs h Q' := by
  unfold endRB at hb; unfold endRS
  split at hb
  · exact popRB_ok hR hC hQ hb
  · cases hb
theorem beginRB_ok {x : Option Nat} {fid : Nat} {k : List It} {t : List SV} {fs : List Fr} {h : HS} (hb : beginRB C R x fid k t fs h Q = true) : beginRS (run C n) x fid k t fs h Q' := by
  unfold beginRB at hb; unfold beginRS
  split at hb
  · split at hb
    · rename_i hbl; simp only [hbl]; exact hR C hC _ _ _ _ _ _ _ hQ hb
    · cases hb
  · cases hb
theorem endRngB_ok {b : Blk} {nm fid : Nat} {k : List It} {t : List SV} {fs : List Fr} {h : HS} (hb : endRngB C R b nm fid k t fs h Q = true) : endRngS (run C n) b nm fid k t fs h Q' := by
  unfold endRngB at hb; unfold endRngS
  split at hb
  · exact hR C hC _ _ _ _ _ _ _ hQ hb
  · exact hR C hC _ _ _ _ _ _ _ hQ hb
  · exact hR C hC _ _ _ _ _ _ _ hQ hb
  · cases hb
theorem retB_ok {x : Option Nat} {jump : Code} {fs : List Fr} {h : HS} {els : Bool} {els' : Prop} (he : els = true → els') (hb : retB C R x jump fs h Q els = true) : retS C (run C n) x jump fs h Q' els' := by
  unfold retB at hb; unfold retS
  split at hb
  · exact he hb
  · exact endRB_ok hR hC hQ hb
theorem leaveB_ok {D : Option (List Nat)} {fid : Nat} {t : List SV} {fs : List Fr} {h : HS} {fn : Option Func} (hb : leaveB C R D fid t fs h Q fn = true) : leaveS C (run C n) D fid t fs h Q' fn := by
  unfold leaveB at hb; unfold leaveS
  split at hb
  · split at hb
    · split at hb
      · rename_i hres
        rw [Bool.and_eq_true] at hb
        simp only [hres]
        exact ⟨dResL_ok hb.1 hres, popB_ok hR hC hQ hb.2⟩
      · cases hb
    · cases hb
  · exact hQ _ _ hb
theorem condB_ok {x : SV} {fid : Nat} {a b : Code} {k : List It} {t : List SV} {fs : List Fr} {h : HS} (hb : condB C R x fid a b k t fs h Q = true) : condS (run C n) x fid a b k t fs h Q' := by
  unfold condB at hb; unfold condS
  split at hb
  · exact ⟨fun _ => hR C hC _ _ _ _ _ _ _ hQ hb, fun e => by cases e⟩
  · exact ⟨(fun e => by cases e), fun _ => hR C hC _ _ _ _ _ _ _ hQ hb⟩
  · cases hb
theorem exitB_ok {id : Nat} {k0 : List It} {k : Option (List It)} {fid : Nat} {t : List SV} {fs : List Fr} {h : HS} (hb : exitB C R id k0 k fid t fs h Q = true) : exitS C (run C n) id k0 k fid t fs h Q' := by
  unfold exitB at hb; unfold exitS
  split at hb
  · exact hR C hC _ _ _ _ _ _ _ hQ hb
  · exact retB_ok hR hC hQ (fun e => by cases e) hb
theorem rngGoB_ok {D : Option (List Nat)} {fn : Option Func} {g : Nat} {args : List SV} {nm fid : Nat} {k : List It} {t : List SV} {fs : List Fr} {h : HS} (hb : rngGoB C R D fn g args nm fid k t fs h Q = true) : rngGo C (run C n) (run C.off n) D fn g args nm fid k t fs h Q' := by
  unfold rngGoB at hb; unfold rngGo
  cases fn with
  | none => cases hb
  | some fn =>
    simp only at hb ⊢
    cases hbd : fn.body with
    | none => rw [hbd] at hb; cases hb
    | some c =>
      rw [hbd] at hb
      cases D with
      | none => exact hR C hC _ _ _ _ _ _ _ hQ hb
      | some l => exact hR C.off hC.off _ _ _ _ _ _ _ (fun o h hh => outB_ok (fun t h hh => hR C hC _ _ _ _ _ _ _ hQ hh) (fun t v h hh => panB_ok hQ hh) o h hh) hb
theorem rngB_ok {f : SV} {params : Array Nat} {assign body : Code} {fid : Nat} {k : List It} {t : List SV} {fs : List Fr} {h : HS} (hb : rngB C R f params assign body fid k t fs h Q = true) : rngS C (run C n) (run C.off n) f params assign body fid k t fs h Q' := by
  unfold rngB at hb; unfold rngS
  split at hb
  · rw [Bool.and_eq_true, Bool.and_eq_true] at hb
    exact ⟨hb.1, by simpa using hb.2.1, rngGoB_ok hR hC hQ hb.2.2⟩
  · cases hb
theorem roundB_ok {D : Option (List Nat)} {ok : Bool} {nm rf : Nat} {rt : List SV} {assign body : Code} {fid : Nat} {ops : Array Oper} {i : Nat} {idx : List Nat} {dst : Option Nat} {k : List It} {t : List SV} {fs : List Fr} {h : HS} (hb : roundB C R D ok nm rf rt assign body fid ops i idx k t fs h Q = true) :
    roundS C (run C n) C.rs D ok nm rf rt assign body fid ops i idx dst k t fs h Q' := by
  unfold roundB at hb; unfold roundS
  split at hb
  · rename_i hrs; rw [Bool.and_eq_true] at hb; rw [hrs]; exact ⟨hb.1, hR C hC _ _ _ _ _ _ _ hQ hb.2⟩
  · cases hb
theorem inlB_ok {D : Option (List Nat)} {fn : Option Func} {g : Nat} {args : List SV} {fid : Nat} {ops : Array Oper} {i : Nat} {idx : List Nat} {dst : Option Nat} {k : List It} {t : List SV} {fs : List Fr} {h : HS} (hb : inlB C R D fn g args fid ops i idx dst k t fs h Q = true) :
    inlS C (run C n) (run C.off n) D fn g args fid ops i idx dst k t fs h Q' := by
  unfold inlB at hb; unfold inlS
  cases fn with
  | none => cases hb
  | some fn =>
    simp only at hb ⊢
    cases hbd : fn.body with
    | none => rw [hbd] at hb; cases hb
    | some c =>
      rw [hbd] at hb
      cases D with
      | none => exact hR C hC _ _ _ _ _ _ _ hQ hb
      | some l => exact hR C.off hC.off _ _ _ _ _ _ _ (fun o h hh => outB_ok (fun t h hh => hR C hC _ _ _ _ _ _ _ hQ hh) (fun t v h hh => panB_ok hQ hh) o h hh) hb
omit hR hC hQ in
theorem resultB_ok {K : Out → HS → Bool} {K' : Out → HS → Prop} (hK : ∀ o h, K o h = true → K' o h) {l : List Nat} {fn : Func} {ts : List SV} {p : Option SV} {h : HS} (hb : resultB C fn K ts p h = true) : resultQ (C.dfr l) fn K' ts p h := by
  unfold resultB at hb; unfold resultQ
  split at hb
  · split at hb
    · rename_i hr
      rw [Bool.and_eq_true] at hb
      have hr' : resK (C.dfr l).T h fn.results.toList ts = _ := hr
      simp only [hr']
      exact ⟨dResK_ok hb.1 hr, hK _ _ hb.2⟩
    · cases hb
  · exact hK _ _ hb
omit hQ in
theorem defB_ok {K : Option SV → HS → Bool} {K' : Option SV → HS → Prop} (hK : ∀ p h, K p h = true → K' p h) {g : Nat} {args : List SV} {p : Option SV} {h : HS} (hb : defB C R g args p h K = true) : DefS C.P g args p h K' := by
  unfold defB at hb
  split at hb
  · rename_i fn hfn
    split at hb
    · rename_i c hc
      rw [Bool.and_eq_true] at hb
      have hres : fn.results = #[] := by
        have := hb.1
        rw [List.isEmpty_iff] at this
        exact Array.toList_eq_nil_iff.1 this
      refine defS_of_run (C := C.dfr []) (hC.dfr []).ok (g := g) hfn hc hres rfl n n (hR (C.dfr []) (hC.dfr []) _ _ _ _ _ _ _ (fun o h hh => ?_) hb.2)
      unfold rcvB at hh; unfold rcvQ
      split at hh
      · unfold rcvOpB at hh; unfold rcvOp
        split at hh
        · rename_i ho
          rw [Bool.and_eq_true] at hh
          simp only [ho]
          refine ⟨noInvB_ok hh.1, hR (C.dfr []) (hC.dfr []) _ _ _ _ _ _ _ (fun o h hh => ?_) hh.2⟩
          unfold rcvEndB at hh; unfold rcvEnd
          split at hh
          · exact hK _ _ hh
          · cases hh
        · cases hh
      · cases hh
    · cases hb
  · cases hb
omit hQ in
theorem dfrB_ok {K : Out → HS → Bool} {K' : Out → HS → Prop} (hK : ∀ o h, K o h = true → K' o h) {g : Nat} {args : List SV} {h : HS} (hb : dfrB C R g args h K = true) : CallsS C.P g args h K' := by
  unfold dfrB at hb
  split at hb
  · rename_i fn hfn
    split at hb
    · rename_i c hc
      refine calls_of_defer (C := C.dfr (slots fn.results.toList)) (hC.dfr _).ok (g := g) (fn := fn) hfn hc rfl n n (hR _ (hC.dfr _) _ _ _ _ _ _ _ (fun o h hh => ?_) hb)
      unfold dfrQB at hh; unfold dfrQ
      split at hh
      · unfold dfrOpB at hh; unfold dfrOp
        split at hh
        · rename_i ho
          simp only [ho]
          unfold dfrGoB at hh; unfold dfrGo
          split at hh
          · rename_i hev
            simp only [hev]
            rw [Bool.and_eq_true, Bool.and_eq_true] at hh
            refine ⟨hh.1, noInvB_ok hh.2.1, hR _ (hC.dfr _) _ _ _ _ _ _ _ (fun o h hh => ?_) hh.2.2⟩
            unfold endB at hh; unfold endQ
            split at hh
            · exact defB_ok hR hC (fun p h hh => resultB_ok hK hh) hh
            · cases hh
          · cases hh
        · cases hh
      · exact resultB_ok hK hh
      · cases hh
    · cases hb
  · cases hb
theorem goB_ok {g : Nat} {args : List SV} {fid : Nat} {ops : Array Oper} {i : Nat} {idx : List Nat} {dst : Option Nat} {k : List It} {t : List SV} {fs : List Fr} {h : HS} (hb : goB C R (C.inl g) g args fid ops i idx dst k t fs h Q = true) :
    goS C (run C n) (run C.off n) (C.G g) (C.inl g) g args fid ops i idx dst k t fs h Q' := by
  rw [hC.G g]
  unfold goB at hb; unfold goS
  split at hb
  · rename_i hi; simp only [hi]; exact inlB_ok hR hC hQ hb
  · rename_i hi
    simp only [hi]
    exact dfrB_ok hR hC (fun o h hh => outB_ok (fun t h hh => hR C hC _ _ _ _ _ _ _ hQ hh) (fun t v h hh => panB_ok hQ hh) o h hh) hb
theorem execB_ok {nf d : Bool} {r : Res} (hnf : nf = true → nfk r) (hd : d = true → cnd r) {fid : Nat} {ops : Array Oper} {i : Nat} {idx : List Nat} {dst : Option Nat} {k : List It} {t : List SV} {fs : List Fr} {h : HS} (hb : execB C R nf d r fid ops i idx dst k t fs h Q = true) :
    execS C (run C n) (run C.off n) r fid ops i idx dst k t fs h Q' := by
  unfold execB at hb; unfold execS
  split at hb
  · rw [Bool.and_eq_true] at hb; exact ⟨hd hb.1, hR C hC _ _ _ _ _ _ _ hQ hb.2⟩
  · rw [Bool.and_eq_true] at hb; exact ⟨hd hb.1, hR C hC _ _ _ _ _ _ _ hQ hb.2⟩
  · rw [Bool.and_eq_true, Bool.or_eq_true] at hb
    refine ⟨fun hp => ?_, hR C hC _ _ _ _ _ _ _ hQ hb.2⟩
    rcases hb.1 with h1 | h1
    · exact (hnf h1 hp).elim
    · exact hR C hC _ _ _ _ _ _ _ hQ h1
  · exact panB_ok hQ hb
  · exact goB_ok hR hC hQ hb
  · rw [Bool.and_eq_true] at hb; exact ⟨hd hb.1, goB_ok hR hC hQ hb.2⟩
  · rw [Bool.and_eq_true, Bool.and_eq_true] at hb
    refine ⟨hd hb.1, fun i hi hp => ?_, fun hn => ?_⟩
    · have := allN_ok hb.2.1 i hi
      rw [hp] at this
      exact hR C hC _ _ _ _ _ _ _ hQ this
    · have := hb.2.2
      rw [Bool.or_eq_true] at this
      rcases this with h1 | h1
      · obtain ⟨i, q1, q2⟩ := anyN_ok h1
        rw [hn i q1] at q2
        cases q2
      · exact hR C hC _ _ _ _ _ _ _ hQ h1
  · exact roundB_ok hR hC hQ hb
  · exact stopB_ok hQ hb
theorem wantB_ok {b want : Bool} {o : Oper} {fid : Nat} {ops : Array Oper} {i : Nat} {idx : List Nat} {k : List It} {t : List SV} {fs : List Fr} {h : HS} (hb : wantB C R b want o fid ops i idx k t fs h Q = true) :
    wantS C (run C n) (run C.off n) b want o fid ops i idx k t fs h Q' := by
  unfold wantB at hb; unfold wantS
  cases b <;> cases want <;> simp only at hb ⊢
  · exact execB_ok hR hC hQ noF_ok dOp_ok hb
  · exact hR C hC _ _ _ _ _ _ _ hQ hb
  · exact hR C hC _ _ _ _ _ _ _ hQ hb
  · exact execB_ok hR hC hQ noF_ok dOp_ok hb
theorem opB_ok {o : Option Oper} {fid : Nat} {ops : Array Oper} {i : Nat} {idx : List Nat} {k : List It} {t : List SV} {fs : List Fr} {h : HS} (hb : opB C R o fid ops i idx k t fs h Q = true) : opS C (run C n) (run C.off n) o fid ops i idx k t fs h Q' := by
  unfold opB at hb; unfold opS
  split at hb
  · exact execB_ok hR hC hQ noF_ok dOp_ok hb
  · unfold guard1B at hb; unfold guard1
    split at hb
    · rename_i hj
      simp only [hj]
      unfold guardB at hb; unfold guardS
      split at hb
      · rename_i hx; simp only [hx]; exact ⟨fun _ => wantB_ok hR hC hQ hb, fun e => by cases e⟩
      · rename_i hx; simp only [hx]; exact ⟨(fun e => by cases e), fun _ => wantB_ok hR hC hQ hb⟩
      · rename_i hx; simp only [hx]; exact hR C hC _ _ _ _ _ _ _ hQ hb
      · cases hb
    · cases hb
  · cases hb

/- ### regions whose order is drawn -/
omit hR hC hQ in
theorem val_q {o : Oper} {t : List SV} {h : HS} {p : Prop} {v : SV} {h' : HS} (hr : opRes C.T C.F t h o = .val p v h') (hp : pureO o = true) (hd : dOp C.T t h o = true) : ∃ p', resQ C.G (opRes C.T C.F t h o) h = some (p', v) ∧ p' := by
  have h1 := dOp_ok (F := C.F) hd
  have h2 := pure_s (T := C.T) (F := C.F) (t := t) (h := h) hp
  rw [hr] at h1 h2 ⊢
  exact ⟨p ∧ h' = h, rfl, h1, h2⟩
omit hR hC hQ in
theorem reS1B_ok {o : Oper} {t : List SV} {h : HS} (hb : reS1B (pureO o) (dOp C.T t h o) (opRes C.T C.F t h o) o.dst t = true) : reS1 (resQ C.G (opRes C.T C.F t h o) h) o.dst t := by
  unfold reS1B at hb
  split at hb
  · rename_i p v h' hr
    rw [Bool.and_eq_true, Bool.and_eq_true] at hb
    obtain ⟨p', e1, e2⟩ := val_q hr hb.1 hb.2.1
    rw [e1]
    unfold reS1
    have h3 := hb.2.2
    cases hd : o.dst with
    | some d => rw [hd] at h3; exact ⟨e2, svEq_ok _ _ _ h3⟩
    | none => exact e2
  · cases hb
omit hR hC hQ in
theorem reAB_ok {ops : Array Oper} {t : List SV} {h : HS} : ∀ {l : List Nat}, reAB C ops t h l = true → reA C ops t h l
  | [], _ => by simp only [reA]
  | k :: l, hb => by
    simp only [reAB, Bool.and_eq_true] at hb
    simp only [reA]
    refine ⟨?_, reAB_ok hb.2⟩
    have h1 := hb.1
    unfold reOB at h1; unfold reO
    split at h1
    · rename_i dst op ty pos aft ho
      simp only [ho]
      exact reS1B_ok (o := ⟨dst, op, ty, pos, aft, none⟩) h1
    · rename_i dst op ty pos aft j want ho
      simp only [ho]
      split at h1
      · rename_i hj
        simp only [hj]
        unfold reGB at h1; unfold reG
        split at h1
        · rename_i b hx
          simp only [hx]
          unfold reWB at h1; unfold reW
          cases b <;> cases want <;> simp only at h1 ⊢
          · exact reS1B_ok (o := ⟨dst, op, ty, pos, aft, some (j, false)⟩) h1
          · exact reS1B_ok (o := ⟨dst, op, ty, pos, aft, some (j, true)⟩) h1
        · rename_i hx; simp only [hx]
        · cases h1
      · cases h1
    · cases h1
omit hQ in
theorem lCallB_ok {X : List SV → SV → HS → Bool} {X' : List SV → SV → HS → Prop} (hX : ∀ t v h, X t v h = true → X' t v h) {S : List SV → HS → Bool} {S' : List SV → HS → Prop} (hS : ∀ t h, S t h = true → S' t h) {g : Nat} {args : List SV} {dst : Option Nat} {t : List SV} {h : HS}
    (hb : lCallB C R X (C.inl g) g args dst S t h = true) : lCall C (run C.off n) X' (C.G g) (C.inl g) g args dst S' t h := by
  rw [hC.G g]
  unfold lCallB at hb; unfold lCall
  split at hb
  · rename_i hi
    simp only [hi]
    unfold nestS
    split at hb
    · rename_i hfn
      simp only [hfn]
      split at hb
      · rename_i hbd
        simp only [hbd]
        exact hR C.off hC.off _ _ _ _ _ _ _ (fun o h hh => outB_ok hS hX o h hh) hb
      · cases hb
    · cases hb
  · rename_i hi
    simp only [hi]
    exact dfrB_ok hR hC (fun o h hh => outB_ok hS hX o h hh) hb
omit hQ in
theorem goPB_ok {X : List SV → SV → HS → Bool} {X' : List SV → SV → HS → Prop} (hX : ∀ t v h, X t v h = true → X' t v h) {S : List SV → HS → Bool} {S' : List SV → HS → Prop} (hS : ∀ t h, S t h = true → S' t h) {quiet : Bool} {o : Oper} {t : List SV} {h : HS}
    (hb : goPB C R X quiet o S t h = true) : goP C (run C.off n) X' quiet o S' t h := by
  unfold goPB at hb; unfold goP
  cases quiet with
  | true =>
    simp only at hb ⊢
    unfold qGoB at hb
    split at hb
    · rename_i p v h' hr
      rw [Bool.and_eq_true, Bool.and_eq_true] at hb
      obtain ⟨p', e1, e2⟩ := val_q hr hb.1 hb.2.1
      rw [e1]
      exact ⟨e2, hS _ _ hb.2.2⟩
    · cases hb
  | false =>
    simp only at hb ⊢
    have hd := dOp_ok (T := C.T) (F := C.F) (t := t) (h := h) (o := o)
    unfold lGoB at hb; unfold lGo
    generalize opRes C.T C.F t h o = r at hb hd ⊢
    cases r <;> simp only at hb ⊢
    case val => rw [Bool.and_eq_true] at hb; exact ⟨hd hb.1, hS _ _ hb.2⟩
    case skip => rw [Bool.and_eq_true] at hb; exact ⟨hd hb.1, hS _ _ hb.2⟩
    case call => exact lCallB_ok hR hC hX hS hb
    case callN => rw [Bool.and_eq_true] at hb; exact ⟨hd hb.1, lCallB_ok hR hC hX hS hb.2⟩
    case round =>
      rw [Bool.and_eq_true] at hb
      refine rounds_of_run (C := C.rnd) hC.rnd.ok rfl rfl (fun o h' hq => ?_) n hb.1 (hR C.rnd hC.rnd _ _ _ _ _ _ _ (fun o h hh => hh) hb.2)
      unfold rndB at hq
      split at hq
      · exact ⟨_, rfl, hS _ _ hq⟩
      · cases hq
    all_goals cases hb
omit hQ in
theorem gateB_ok {X : List SV → SV → HS → Bool} {X' : List SV → SV → HS → Prop} (hX : ∀ t v h, X t v h = true → X' t v h) {S : List SV → HS → Bool} {S' : List SV → HS → Prop} (hS : ∀ t h, S t h = true → S' t h) {ops : Array Oper} {quiet : Bool} {o : Option Oper} {t : List SV} {h : HS}
    (hb : gateB C R X ops quiet o S t h = true) : gate C (run C.off n) X' ops quiet o S' t h := by
  have hw : ∀ b want o t, gateWB C R X b want quiet o S t h = true → gateW C (run C.off n) X' b want quiet o S' t h := fun b want o t hb => by
    unfold gateWB at hb; unfold gateW
    cases b <;> cases want <;> simp only at hb ⊢
    · exact goPB_ok hR hC hX hS hb
    · exact hS _ _ hb
    · exact hS _ _ hb
    · exact goPB_ok hR hC hX hS hb
  unfold gateB at hb; unfold gate
  split at hb
  · exact goPB_ok hR hC hX hS hb
  · split at hb
    · rename_i hj
      simp only [hj]
      unfold gateGB at hb; unfold gateG
      split at hb
      · rename_i hx; simp only [hx]; exact ⟨fun _ => hw _ _ _ _ hb, fun e => by cases e⟩
      · rename_i hx; simp only [hx]; exact ⟨(fun e => by cases e), fun _ => hw _ _ _ _ hb⟩
      · rename_i hx; simp only [hx]; exact hS _ _ hb
      · cases hb
    · cases hb
  · cases hb
theorem planB_ok {fid : Nat} {ops : Array Oper} {k : List It} {fs : List Fr} : ∀ {p : Plan} {t : List SV} {h : HS}, planB C R (panB C.D Q) Q fid ops k fs p t h = true → planS C (run C n) (run C.off n) (panQ C.D Q') Q' fid ops k fs p t h
  | .done, t, h, hb => by simp only [planB] at hb; simp only [planS]; exact hR C hC _ _ _ _ _ _ _ hQ hb
  | .quiet i p, t, h, hb => by simp only [planB] at hb; simp only [planS]; exact gateB_ok hR hC (fun t v h hh => panB_ok hQ hh) (fun t h hh => planB_ok hh) hb
  | .loud i re p, t, h, hb => by
    simp only [planB] at hb
    simp only [planS]
    refine gateB_ok hR hC (fun t v h hh => panB_ok hQ hh) (fun t h hh => ?_) hb
    unfold thenB at hh
    rw [Bool.and_eq_true] at hh
    exact ⟨reAB_ok hh.1, planB_ok hh.2⟩
  | .both p q, t, h, hb => by
    simp only [planB, Bool.and_eq_true] at hb
    simp only [planS]
    exact ⟨planB_ok hb.1, planB_ok hb.2⟩
theorem drawB_ok {p : Option Plan} {fid : Nat} {ops : Array Oper} {k : List It} {t : List SV} {fs : List Fr} {h : HS} (hb : drawB C R Q p fid ops k t fs h = true) : drawS C (run C n) (run C.off n) Q' p fid ops k t fs h := by
  unfold drawB at hb; unfold drawS
  split at hb
  · rw [Bool.and_eq_true, Bool.and_eq_true] at hb
    exact ⟨⟨hb.1, hb.2.1⟩, planB_ok hR hC hQ hb.2.2⟩
  · cases hb
theorem codeB_ok {fid : Nat} {c : Code} {k : List It} {t : List SV} {fs : List Fr} {h : HS} (hb : codeB R C fid c k t fs h Q = true) : run C (n + 1) fid (.code c :: k) t fs h Q' := by
  unfold codeB at hb
  split at hb
  · simp only [run]; exact hR C hC _ _ _ _ _ _ _ hQ hb
  · simp only [run]; exact hR C hC _ _ _ _ _ _ _ hQ hb
  · simp only [run]; exact hR C hC _ _ _ _ _ _ _ hQ hb
  · simp only [run]; exact condB_ok hR hC hQ hb
  · simp only [run]; exact hR C hC _ _ _ _ _ _ _ hQ hb
  · simp only [run]; exact .inr (hR C hC _ _ _ _ _ _ _ hQ hb)
  · simp only [run]; exact hR C hC _ _ _ _ _ _ _ hQ hb
  · simp only [run]; exact exitB_ok hR hC hQ hb
  · simp only [run]; exact rngB_ok hR hC hQ hb
  · simp only [run]; exact retB_ok hR hC hQ (fun e => leaveB_ok hR hC hQ e) hb
  · simp only [run]; exact hR C hC _ _ _ _ _ _ _ hQ hb
  · simp only [run]; exact drawB_ok hR hC hQ hb
  · cases hb
end
theorem stepB_ok {n : Nat} {R : RnB} (hR : Snd n R) : Snd (n + 1) (stepB R) := by
  intro C hC fid k t fs h Q Q' hQ hb
  unfold stepB at hb
  split at hb
  · simp only [run]; exact leaveB_ok hR hC hQ hb
  · exact codeB_ok hR hC hQ hb
  · simp only [run]; exact hR C hC _ _ _ _ _ _ _ hQ hb
  · simp only [run]; exact hR C hC _ _ _ _ _ _ _ hQ hb
  · simp only [run]; exact hR C hC _ _ _ _ _ _ _ hQ hb
  · simp only [run]; exact hR C hC _ _ _ _ _ _ _ hQ hb
  · simp only [run]; exact opB_ok hR hC hQ hb
  · simp only [run]; exact endRngB_ok hR hC hQ hb
  · simp only [run]; exact beginRB_ok hR hC hQ hb
  · simp only [run]; exact endRB_ok hR hC hQ hb
  · cases hb
theorem runB_ok : ∀ n, Snd n (runB n)
  | 0 => fun C hC fid k t fs h Q Q' hQ hb => by cases hb
  | n + 1 => by rw [runB_succ]; exact stepB_ok (runB_ok n)
/-- A call that is reckoned. -/
theorem calls_of_runB {C : Ctx} (hC : CtxE C) (hD : C.off = C) {g : Nat} {fn : Func} {c : Code} (hf : C.FN g = some fn) (hb : fn.body = some c) {args : List SV} {h : HS} {Q : Out → HS → Bool} (n : Nat)
    (hrun : runB n C g [.code c] (catS args (anys (fn.ntmps - lenS args))) [] h Q = true) : CallsS C.P g args h (fun o h' => Q o h' = true) :=
  calls_of_run hC.ok hD hf hb n (runB_ok n C hC _ _ _ _ _ _ _ (fun _ _ e => e) hrun)
end Go.Eng
end

/- Contracts over an empty heap, used over any heap: own slices are lent as rows, own blocks as cells that are read; a slice that comes back new is an own one. -/
section
namespace Go.Eng
open Go.RowKit
set_option linter.unusedVariables false

def iv : SV → Int
  | .int _ x => x
  | _ => 0
/-- The numbers of a row. -/
def ivf (f : Nat → Nat → SV) : Nat → Nat → Int := fun i j => iv (f i j)
theorem ivf_lit (k : IntKind) (z : Nat → Nat → Int) : ivf (fun i j => .int k (z i j)) = z := rfl
def IntR (n sz : Nat) (f : Nat → Nat → SV) : Prop := ∀ i j, i < n → j < sz → f i j = .int .i64 (iv (f i j))
/-- Numbers of one kind. -/
def IntK (k : IntKind) (n sz : Nat) (f : Nat → Nat → SV) : Prop := ∀ i j, i < n → j < sz → f i j = .int k (iv (f i j))
def Sc : SV → Prop
  | .any => True
  | .int _ _ => True
  | .bool _ => True
  | .str _ => True
  | .nilp => True
  | .nils _ _ => True
  | .nilf => True
  | .nili => True
  | .func _ [] => True
  | _ => False
def ScL : List SV → Prop
  | [] => True
  | x :: l => Sc x ∧ ScL l
/-- Numbers and bools, alone or in a struct. -/
def Fl1 : SV → Prop
  | .agg l => ScL l
  | x => Sc x
def FlL : List SV → Prop
  | [] => True
  | x :: l => Fl1 x ∧ FlL l
def Fl : SV → Prop
  | .tup l => FlL l
  | x => Fl1 x
def mapF (F : SV → SV) : List SV → List SV
  | [] => []
  | x :: l => F x :: mapF F l
def frzV (F : SV → SV) (ver : Nat) : Vc → SV
  | .live ver' _ sz n f => if ver = ver' then .row n sz (fun i j => F (f i j)) else .any
  | .dead => .any
def frzB (F : SV → SV) (off : Nat) : Blk → SV
  | .live _ cells => .rptr (lenS cells - off) (fun j => F (nth cells (off + j)))
  | _ => .any
def frzC (F : SV → SV) (ver sz lo n : Nat) : Vc → SV
  | .live ver' _ sz' _ f => if ver = ver' then if sz = sz' then .row n sz (fun i j => F (f (lo + i) j)) else .any else .any
  | .dead => .any
def frzF : Nat → HS → SV → SV
  | 0, _, x => x
  | k + 1, h, .vec id ver => frzV (frzF k h) ver (getV h.vecs id)
  | k + 1, h, .vcut id ver sz lo n _ => frzC (frzF k h) ver sz lo n (getV h.vecs id)
  | k + 1, h, .ptr nm off => frzB (frzF k h) off (getB h.blks nm)
  | k + 1, h, .agg l => .agg (mapF (frzF k h) l)
  | _ + 1, _, .nils _ sz => .row 0 sz (fun _ _ => .any)
  | _ + 1, _, x => x
def frzA (h : HS) : List SV → List SV
  | [] => []
  | x :: l => frzF 4 h x :: frzA h l

theorem mapF_eq (F : SV → SV) (l : List SV) : mapF F l = l.map F := by induction l <;> simp [mapF, *]
theorem frzA_eq (h : HS) (l : List SV) : frzA h l = l.map (frzF 4 h) := by induction l <;> simp [frzA, *]
theorem Sc.den {E E' : Env} {w w' : World} {x : SV} {v : Value} (h : Sc x) (hd : Den E w x v) : Den E' w' x v := by
  cases hd <;> first
    | exact .any _
    | exact .int _ _
    | exact .bool _
    | exact .str _
    | exact .nilp
    | exact .nils ‹_›
    | exact .nilf
    | exact .nili
    | exact (False.elim h)
    | (rename_i caps vs hs hd; cases caps with
        | nil => exact .func vs hs (fun i x u hx => by simp at hx)
        | cons _ _ => exact (False.elim h))
theorem ScL_get : ∀ {l : List SV}, ScL l → ∀ (i : Nat) (x : SV), l[i]? = some x → Sc x
  | [], _, i, x, h => by simp at h
  | y :: l, hs, 0, x, h => by simp at h; subst h; exact hs.1
  | y :: l, hs, i + 1, x, h => ScL_get hs.2 i x (by simpa using h)
theorem FlL_get : ∀ {l : List SV}, FlL l → ∀ (i : Nat) (x : SV), l[i]? = some x → Fl1 x
  | [], _, i, x, h => by simp at h
  | y :: l, hs, 0, x, h => by simp at h; subst h; exact hs.1
  | y :: l, hs, i + 1, x, h => FlL_get hs.2 i x (by simpa using h)
theorem Fl1.den {E E' : Env} {w w' : World} {x : SV} {v : Value} (h : Fl1 x) (hd : Den E w x v) : Den E' w' x v := by
  cases x with
  | agg l =>
    cases hd with | agg vs hs h1 hd =>
    exact .agg vs hs h1 (fun i x u hx hu => (ScL_get h i x hx).den (hd i x u hx hu))
  | _ => exact Sc.den h hd
theorem Fl.den {E E' : Env} {w w' : World} {x : SV} {v : Value} (h : Fl x) (hd : Den E w x v) : Den E' w' x v := by
  cases x with
  | tup l =>
    cases hd
    rename_i vs hs hd
    exact .tup vs hs (fun i x u hx hu => (FlL_get h i x hx).den (hd i x u hx hu))
  | agg l => exact Fl1.den h hd
  | _ => exact Sc.den h hd

/-- The ghost of a callee to which own slices and blocks are lent. -/
def Env.lent (E : Env) : Env := { nb := 0, rho := E.rho, nv := 0, val := E.val, own := fun b => match E.own b with | some .other => some .other | _ => none }
theorem lent_rel {E : Env} {h : HS} {w : World} (hr : RelH E h w) : RelH E.lent ⟨[], []⟩ w :=
  ⟨rfl, rfl, fun nm ty c h => by simp [getB] at h, fun id a b c d e h => by simp [getV] at h, fun b t hb => (by
    simp only [Env.lent] at hb
    split at hb
    · rename_i ho; exact hr.own b _ ho
    · cases hb), fun nm st pend fid t params assign body hb => by simp [getB] at hb, fun nm m hb => by simp [getB] at hb⟩
theorem lent_own {E : Env} {b : Nat} {t : Tag} (h : E.own b = some t) (ht : t ≠ .other) : E.lent.own b = none := by
  simp only [Env.lent, h]
  cases t <;> first | rfl | exact absurd rfl ht
theorem lent_turn {E : Env} {w : World} {x : SV} {v : Value} (hd : Den E w x v) (hb : Bd 0 0 x) : Den E.lent w x v :=
  hd.turn hb (fun nm hn => by simp [Env.lent] at hn) (fun id ver y hi => by simp [Env.lent] at hi) (fun b _ ho => by simp [Env.lent, ho])

/-- Frozen: seen from a ghost in which what is own is foreign. -/
theorem frzF_den {E : Env} {h : HS} {w : World} (hr : RelH E h w) : ∀ (k : Nat) {x : SV} {v : Value}, Den E w x v → Bd 0 0 (frzF k h x) → Den E.lent w (frzF k h x) v
  | 0, x, v, hd, hb => lent_turn hd hb
  | k + 1, x, v, hd, hb => by
    have ih := @frzF_den E h w hr k
    cases hd with
    | @vec id ver a n cap hi hv =>
      simp only [frzF] at hb ⊢
      cases hg : getV h.vecs id with
      | dead => exact .any _
      | live ver' ty sz n' f =>
        rw [hg] at hb
        simp only [frzV] at hb ⊢
        split
        · rename_i e
          subst e
          rw [if_pos rfl] at hb
          simp only [Bd] at hb
          obtain ⟨h0, ⟨a', cap', h2, h3⟩, h4⟩ := hr.vec id ver ty sz n' f hg
          rw [hv] at h2
          cases h2
          rcases h3 with ⟨_, rfl, rfl⟩ | ⟨b, o, cur, rfl, k2, k3, k4, k5, k6, k7, k8⟩
          · exact .rowZ _ _
          · have hlt : ∀ i j, i < n → j < sz → i * sz + j < n * sz := fun i j hi hj => by
              have := Nat.mul_le_mul_right sz (Nat.succ_le_of_lt hi)
              rw [Nat.succ_mul] at this
              omega
            have hle : o + n * sz ≤ cur.size := Nat.le_trans (Nat.add_le_add_left (Nat.mul_le_mul_right sz k2) _) k5
            have hget : ∀ i j, i < n → j < sz → cur[o + (i * sz + j)]? = some (cur.getD (o + (i * sz + j)) undef) := fun i j hi hj => by
              have := hlt i j hi hj
              have h2 : o + (i * sz + j) < cur.size := by omega
              simp [Array.getD, h2]
            refine .row ⟨b, o, none⟩ cap (fun i j => cur.getD (o + (i * sz + j)) undef) (hr.own _ _ k6) (lent_own k6 (by intro e; cases e)) k2 (fun i j hi hj => ?_) (fun i j hi hj => k7 _ _ (hlt i j hi hj) (hget i j hi hj)) (fun i j hi hj => ih (k8 i j _ hi hj (hget i j hi hj)) (hb i j hi hj))
            rw [Addr.add_lit]
            have h2 : o + (i * sz + j) < cur.size := by have := hlt i j hi hj; omega
            simp [World.cell?, k4, h2, Array.getD]
        · exact .any _
    | @vcut id ver sz lo n x a a9 N cap hi hv hn hc ha9 h09 hA9 hB9 =>
      simp only [frzF] at hb ⊢
      cases hg : getV h.vecs id with
      | dead => exact .any _
      | live ver' ty sz' N' f =>
        rw [hg] at hb
        simp only [frzC] at hb ⊢
        split
        rotate_left
        · exact .any _
        rename_i e
        subst e
        rw [if_pos rfl] at hb
        split
        rotate_left
        · exact .any _
        rename_i e
        subst e
        rw [if_pos rfl] at hb
        simp only [Bd] at hb
        obtain ⟨h0, ⟨a', cap', h2, h3⟩, h4⟩ := hr.vec id ver ty sz N' f hg
        rw [hv] at h2
        cases h2
        rcases h3 with ⟨_, rfl, rfl⟩ | ⟨b, o, cur, rfl, k2, k3, k4, k5, k6, k7, k8⟩
        · obtain rfl : n = 0 := by omega
          exact .rowZ _ _
        · by_cases hM : (if x = true then lo + n else cap) = lo
          · have : n = 0 := by cases x <;> simp at hM <;> omega
            subst this
            exact .rowZ _ _
          · rw [ha9 hM]
            have hlt : ∀ i j, i < n → j < sz → (lo + i) * sz + j < N * sz := fun i j hi hj => by
              have := Nat.mul_le_mul_right sz (show lo + i + 1 ≤ N by omega)
              rw [Nat.succ_mul] at this
              omega
            have hle : o + N * sz ≤ cur.size := Nat.le_trans (Nat.add_le_add_left (Nat.mul_le_mul_right sz k2) _) k5
            have hget : ∀ i j, i < n → j < sz → cur[o + ((lo + i) * sz + j)]? = some (cur.getD (o + ((lo + i) * sz + j)) undef) := fun i j hi hj => by
              have := hlt i j hi hj
              have h2 : o + ((lo + i) * sz + j) < cur.size := by omega
              simp [Array.getD, h2]
            have hA : (⟨b, o, none⟩ : Addr).add (lo * sz) = ⟨b, o + lo * sz, none⟩ := by rw [Addr.add_lit]
            simp only [Option.map_some, hA]
            refine .row ⟨b, o + lo * sz, none⟩ _ (fun i j => cur.getD (o + ((lo + i) * sz + j)) undef) (hr.own _ _ k6) (lent_own k6 (by intro e; cases e)) (by cases x <;> simp <;> omega) (fun i j hi hj => ?_) (fun i j hi hj => k7 _ _ (hlt i j hi hj) (hget i j hi hj)) (fun i j hi hj => ih (k8 (lo + i) j _ (by omega) hj (hget i j hi hj)) (hb i j hi hj))
            have e : o + lo * sz + (i * sz + j) = o + ((lo + i) * sz + j) := by rw [Nat.add_mul]; omega
            rw [Addr.add_lit, ← hget i j hi hj, ← e]
            simp [World.cell?, k4]
    | @ptr nm off hn =>
      simp only [frzF] at hb ⊢
      cases hg : getB h.blks nm with
      | dead => exact .any _
      | loop => exact .any _
      | mp => exact .any _
      | live ty cells =>
        rw [hg] at hb
        simp only [frzB, Bd] at hb ⊢
        obtain ⟨cs, a1, a2, a3, a4⟩ := hr.blk nm ty cells hg
        rw [lenS_eq] at hb ⊢
        have hsz := a2.1
        have hget : ∀ j, j < cells.length - off → cs[off + j]? = some (cs.getD (off + j) undef) := fun j hj => by
          have h2 : off + j < cs.size := by omega
          simp [Array.getD, h2]
        refine .rptr ⟨E.rho nm, off, none⟩ (fun j => cs.getD (off + j) undef) (hr.own _ _ a4) (lent_own a4 (by intro e; cases e)) (fun j hj => ?_) (fun j hj => a3 _ _ (hget j hj)) (fun j hj => ih (a2.nth _) (hb j hj))
        rw [Addr.add_lit]
        have h2 : off + j < cs.size := by omega
        simp [World.cell?, a1, h2, Array.getD]
    | @agg l vs hs h1 hd =>
      simp only [frzF, mapF_eq, Bd] at hb ⊢
      refine .agg vs (by simpa using hs) h1 (fun i x u hx hu => ?_)
      have hbx := BdL_get hb i x hx
      rw [List.getElem?_map] at hx
      cases hl : l[i]? with
      | none => simp [hl] at hx
      | some z =>
        simp [hl] at hx
        subst hx
        exact ih (hd i z u hl hu) hbx
    | any v => exact lent_turn (.any v) hb
    | int a b => exact lent_turn (.int a b) hb
    | bool a => exact lent_turn (.bool a) hb
    | str a => exact lent_turn (.str a) hb
    | nilp => exact lent_turn .nilp hb
    | nils h => exact .rowZ _ _
    | rptr a b c d e f g => exact lent_turn (.rptr a b c d e f g) hb
    | row a b c d e f g i j => exact lent_turn (.row a b c d e f g i j) hb
    | rowZ a b => exact lent_turn (.rowZ a b) hb
    | vptr a b => exact lent_turn (.vptr a b) hb
    | bsl a b => exact lent_turn (.bsl a b) hb
    | mapp a => exact lent_turn (.mapp a) hb
    | func a b c => exact lent_turn (.func a b c) hb
    | meth a b c => exact lent_turn (.meth a b c) hb
    | nilf => exact lent_turn .nilf hb
    | iface a => exact lent_turn (.iface a) hb
    | nili => exact lent_turn .nili hb
    | tup a b c => exact lent_turn (.tup a b c) hb
    | yield a => exact lent_turn (.yield a) hb
theorem frzA_den {E : Env} {h : HS} {w : World} (hr : RelH E h w) {args : List SV} {vals : Array Value} (hd : DenA E w args vals) (hb : BdL 0 0 (frzA h args)) : DenA E.lent w (frzA h args) vals := by
  refine ⟨by simpa [frzA_eq] using hd.1, fun i x u hx hu => ?_⟩
  have hcl := BdL_get hb i x hx
  rw [frzA_eq, List.getElem?_map] at hx
  cases hl : args[i]? with
  | none => simp [hl] at hx
  | some z =>
    simp [hl] at hx
    subst hx
    exact frzF_den hr 4 (hd.2 i z u hl hu) hcl
/-- What the callee leaves: all that was. -/
theorem lent_back {E : Env} {h : HS} {w : World} (hr : RelH E h w) {E' : Env} {w' : World} (hx : Ext E.lent w E' w') : (∀ b, b < w.heap.size → w'.heap[b]? = w.heap[b]?) ∧ Ext E w E w' := by
  have hkeep : ∀ b, b < w.heap.size → w'.heap[b]? = w.heap[b]? := fun b hb => by
    by_cases ho : E.lent.own b = none
    · exact (hx.keep b hb ho).2
    · have : E.lent.own b = some .other := by
        revert ho
        simp only [Env.lent]
        split <;> simp
      exact (hx.oth b this).2
  exact ⟨hkeep, ext_of_grow hr.own hx.os hx.tape hx.output hx.size hkeep⟩
/-- What the callee owns is new. -/
theorem lent_new {E E' : Env} {w w' : World} (hx : Ext E.lent w E' w') {b : Nat} {t : Tag} (ho : E'.own b = some t) (ht : t ≠ .other) : w.heap.size ≤ b := by
  rcases Nat.lt_or_ge b w.heap.size with h | h
  · exfalso
    by_cases hn : E.lent.own b = none
    · have := (hx.keep b h hn).1
      rw [ho] at this; cases this
    · have h2 : E.lent.own b = some .other := by
        revert hn
        simp only [Env.lent]
        split <;> simp
      have := (hx.oth b h2).1
      rw [ho] at this; cases this; exact ht rfl
  · exact h

/-- Two ways to say the same. -/
structure SameD (x y : SV) : Prop where
  out : ∀ E w v, Den E w x v → Den E w y v
theorem SameD.rfl' (x : SV) : SameD x x := ⟨fun _ _ _ h => h⟩
/- ### results with slices of the callee's own: rows, for who calls -/
def VcR (ver n sz : Nat) (f : Nat → Nat → SV) : Vc → Prop
  | .live ver' _ sz' n' f' => ver' = ver ∧ sz' = sz ∧ n' = n ∧ ∀ i j, i < n → j < sz → f' i j = f i j ∧ Sc (f i j)
  | .dead => False
def CutR (ver lo n sz : Nat) (f : Nat → Nat → SV) : Vc → Prop
  | .live ver' _ sz' n' f' => ver' = ver ∧ sz' = sz ∧ ∀ i j, i < n → j < sz → f' (lo + i) j = f i j ∧ Sc (f i j)
  | .dead => False
def RowIs (h : HS) (n sz : Nat) (f : Nat → Nat → SV) : SV → Prop
  | .vec id ver => VcR ver n sz f (getV h.vecs id)
  | .vcut id ver sz' lo n' _ => sz' = sz ∧ n' = n ∧ CutR ver lo n sz f (getV h.vecs id)
  | _ => False
def fz0 (h : HS) (u : SV) : SV → Prop
  | .row n sz f => RowIs h n sz f u
  | v => u = v ∧ Sc v
def fzL (h : HS) : List SV → List SV → Prop
  | [], [] => True
  | u :: us, v :: vs => fz0 h u v ∧ fzL h us vs
  | _, _ => False
def fzA (h : HS) (vs : List SV) : SV → Prop
  | .agg us => fzL h us vs
  | _ => False
def fz1 (h : HS) (u : SV) : SV → Prop
  | .agg vs => fzA h vs u
  | v => fz0 h u v
def fz1L (h : HS) : List SV → List SV → Prop
  | [], [] => True
  | u :: us, v :: vs => fz1 h u v ∧ fz1L h us vs
  | _, _ => False
def fzU (h : HS) (vs : List SV) : SV → Prop
  | .tup us => fz1L h us vs
  | _ => False
def FzT (h : HS) (u : SV) : SV → Prop
  | .tup vs => fzU h vs u
  | v => fz1 h u v
theorem fzL_get {h' : HS} {us vs : List SV} (h : fzL h' us vs) : us.length = vs.length ∧ ∀ (i : Nat) (u v : SV), us[i]? = some u → vs[i]? = some v → fz0 h' u v := by
  induction us generalizing vs with
  | nil => cases vs with
    | nil => exact ⟨rfl, fun i u v h => by simp at h⟩
    | cons _ _ => exact h.elim
  | cons x us ih => cases vs with
    | nil => exact h.elim
    | cons y vs =>
      obtain ⟨h1, h2⟩ := ih h.2
      refine ⟨by simp [h1], fun i u v hu hv => ?_⟩
      cases i with
      | zero => simp at hu hv; subst hu hv; exact h.1
      | succ i => exact h2 i u v (by simpa using hu) (by simpa using hv)
theorem fz1L_get {h' : HS} {us vs : List SV} (h : fz1L h' us vs) : us.length = vs.length ∧ ∀ (i : Nat) (u v : SV), us[i]? = some u → vs[i]? = some v → fz1 h' u v := by
  induction us generalizing vs with
  | nil => cases vs with
    | nil => exact ⟨rfl, fun i u v h => by simp at h⟩
    | cons _ _ => exact h.elim
  | cons x us ih => cases vs with
    | nil => exact h.elim
    | cons y vs =>
      obtain ⟨h1, h2⟩ := ih h.2
      refine ⟨by simp [h1], fun i u v hu hv => ?_⟩
      cases i with
      | zero => simp at hu hv; subst hu hv; exact h.1
      | succ i => exact h2 i u v (by simpa using hu) (by simpa using hv)
section
variable {E E' : Env} {h' : HS} {w' : World} (hr : RelH E' h' w') (hn : ∀ b id, E'.own b = some (.vec id) → E.own b = none)
include hr hn
theorem rowIs_den {n sz : Nat} {f : Nat → Nat → SV} {u : SV} {val : Value} (h : RowIs h' n sz f u) (hd : Den E' w' u val) : Den E w' (.row n sz f) val := by
  unfold RowIs at h
  split at h
  · rename_i id ver
    cases hg : getV h'.vecs id with
    | dead => rw [hg] at h; exact h.elim
    | live ver' ty sz' n' f' =>
      rw [hg] at h
      obtain ⟨rfl, rfl, rfl, hf⟩ := h
      cases hd
      rename_i a n1 cap1 hi hval
      obtain ⟨h0', ⟨a', cap', h2, h3⟩, _⟩ := hr.vec id _ _ _ _ _ hg
      rw [hval] at h2
      cases h2
      rcases h3 with ⟨_, rfl, rfl⟩ | ⟨b, o, cur, rfl, k2, k3, k4, k5, k6, k7, k8⟩
      · exact .rowZ _ _
      · have hle := Nat.le_trans (Nat.add_le_add_left (Nat.mul_le_mul_right sz' k2) o) k5
        have hget : ∀ i j, i < n' → j < sz' → cur[o + (i * sz' + j)]? = some (cur.getD (o + (i * sz' + j)) undef) := fun i j hi hj => by
          have := idx_lt hi hj
          simp [Array.getD, show o + (i * sz' + j) < cur.size by omega]
        refine .row ⟨b, o, none⟩ cap1 (fun i j => cur.getD (o + (i * sz' + j)) undef) (hr.own _ _ k6) (hn _ _ k6) k2 (fun i j hi hj => ?_) (fun i j hi hj => k7 _ _ (idx_lt hi hj) (hget i j hi hj)) (fun i j hi hj => ?_)
        · rw [Addr.add_lit]
          have := idx_lt hi hj
          have h2 : o + (i * sz' + j) < cur.size := by omega
          simp [World.cell?, k4, h2, Array.getD]
        · obtain ⟨q1, q2⟩ := hf i j hi hj
          have := k8 i j _ hi hj (hget i j hi hj)
          rw [q1] at this
          exact q2.den this
  · rename_i id ver sz1 lo n1 x1
    obtain ⟨rfl, rfl, h⟩ := h
    cases hg : getV h'.vecs id with
    | dead => rw [hg] at h; exact h.elim
    | live ver' ty sz' n' f' =>
      rw [hg] at h
      obtain ⟨rfl, rfl, hf⟩ := h
      obtain ⟨a1, a2, N1, cap1, rfl, hid, hval, hnn, hc1, ha, h0, hA, hB⟩ := hd.vcut_inv
      obtain ⟨h0', ⟨a', cap', h2, h3⟩, _⟩ := hr.vec id _ _ _ _ _ hg
      rw [hval] at h2
      cases h2
      rcases h3 with ⟨_, rfl, rfl⟩ | ⟨b, o, cur, rfl, k2, k3, k4, k5, k6, k7, k8⟩
      · obtain rfl : n1 = 0 := by omega
        exact .rowZ _ _
      · by_cases hM : (if x1 = true then lo + n1 else cap1) = lo
        · have : n1 = 0 := by cases x1 <;> simp at hM <;> omega
          subst this
          exact .rowZ _ _
        · rw [ha hM]
          have hA' : (⟨b, o, none⟩ : Addr).add (lo * sz') = ⟨b, o + lo * sz', none⟩ := by rw [Addr.add_lit]
          simp only [Option.map_some, hA']
          have hle := Nat.le_trans (Nat.add_le_add_left (Nat.mul_le_mul_right sz' k2) o) k5
          have hlt : ∀ i j, i < n1 → j < sz' → (lo + i) * sz' + j < n' * sz' := fun i j hi hj => idx_lt (by omega) hj
          have hget : ∀ i j, i < n1 → j < sz' → cur[o + ((lo + i) * sz' + j)]? = some (cur.getD (o + ((lo + i) * sz' + j)) undef) := fun i j hi hj => by
            have := hlt i j hi hj
            simp [Array.getD, show o + ((lo + i) * sz' + j) < cur.size by omega]
          refine .row ⟨b, o + lo * sz', none⟩ _ (fun i j => cur.getD (o + ((lo + i) * sz' + j)) undef) (hr.own _ _ k6) (hn _ _ k6) (by cases x1 <;> simp <;> omega) (fun i j hi hj => ?_) (fun i j hi hj => k7 _ _ (hlt i j hi hj) (hget i j hi hj)) (fun i j hi hj => ?_)
          · have e : o + lo * sz' + (i * sz' + j) = o + ((lo + i) * sz' + j) := by rw [Nat.add_mul]; omega
            rw [Addr.add_lit, ← hget i j hi hj, ← e]
            simp [World.cell?, k4]
          · obtain ⟨q1, q2⟩ := hf i j hi hj
            have := k8 (lo + i) j _ (by omega) hj (hget i j hi hj)
            rw [q1] at this
            exact q2.den this
  · exact h.elim
theorem fz0_den {u v : SV} {val : Value} (h : fz0 h' u v) (hd : Den E' w' u val) : Den E w' v val := by
  unfold fz0 at h
  split at h
  · exact rowIs_den hr hn h hd
  · obtain ⟨rfl, h2⟩ := h
    exact h2.den hd
theorem fz1_den {u v : SV} {val : Value} (h : fz1 h' u v) (hd : Den E' w' u val) : Den E w' v val := by
  unfold fz1 at h
  split at h
  · unfold fzA at h
    split at h
    · obtain ⟨l1, l2⟩ := fzL_get h
      cases hd with
      | agg vals hs h1 hd =>
      refine .agg vals (by omega) h1 (fun i x u hx hu => ?_)
      have hil := (List.getElem?_eq_some_iff.1 hx).1
      exact fz0_den hr hn (l2 i _ _ (List.getElem?_eq_getElem (by omega)) hx) (hd i _ u (List.getElem?_eq_getElem (by omega)) hu)
    · exact h.elim
  · exact fz0_den hr hn h hd
theorem fzT_den {u v : SV} {val : Value} (h : FzT h' u v) (hd : Den E' w' u val) : Den E w' v val := by
  unfold FzT at h
  split at h
  · unfold fzU at h
    split at h
    · obtain ⟨l1, l2⟩ := fz1L_get h
      cases hd with
      | tup vals hs hd =>
      refine .tup vals (by omega) (fun i x u hx hu => ?_)
      have hil := (List.getElem?_eq_some_iff.1 hx).1
      exact fz1_den hr hn (l2 i _ _ (List.getElem?_eq_getElem (h := by omega)) hx) (hd i _ u (List.getElem?_eq_getElem (h := by omega)) hu)
    · exact h.elim
  · exact fz1_den hr hn h hd
end
/-- What a function does with rows and numbers, over an empty heap: numbers come back. -/
def Base (P : Program) (g : Nat) (base : List SV → Option (Prop × SV)) : Prop :=
  ∀ args p v, base args = some (p, v) → p → BdL 0 0 args ∧ CallsS P g args ⟨[], []⟩ (fun o h' => ∃ u, o = .ret u ∧ ((Fl u ∧ SameD u v) ∨ FzT h' u v))
def lendR (r : Option (Prop × SV)) (h : HS) : Option (Prop × SV × HS) := match r with
  | some (p, v) => some (p, v, h)
  | none => none
def lendS (base : List SV → Option (Prop × SV)) : Spec := fun args h => lendR (base (frzA h args)) h

theorem lend_ok {P : Program} {g : Nat} {base : List SV → Option (Prop × SV)} (hb : Base P g base) : ∀ args h p v h1, lendS base args h = some (p, v, h1) → p → CallsS P g args h fun o h' => o = .ret v ∧ h' = h1 := by
  intro args h0 p v h1 hq hp E w vals hr hd
  unfold lendS lendR at hq
  split at hq
  rotate_left
  · cases hq
  rename_i p' v' hbase
  cases hq
  obtain ⟨b1, b3⟩ := hb _ _ _ hbase hp
  refine (b3 E.lent w vals (lent_rel hr) (frzA_den hr hd b1)).mono ?_
  rintro e w' ⟨o, h', E', ⟨u, rfl, hres⟩, hr', hx, hout⟩
  obtain ⟨hkeep, hx2⟩ := lent_back hr hx
  refine ⟨.ret v, _, E, ⟨rfl, rfl⟩, hr.quiet hx2 hkeep, hx2, ?_⟩
  cases e with
  | returned val =>
    rcases hres with ⟨hfl, hsd⟩ | hfz
    · exact hsd.out _ _ _ (hfl.den hout)
    · exact fzT_den hr' (fun b id hb => by
        have := lent_new hx hb (by intro e; cases e)
        cases ho : E.own b with
        | none => rfl
        | some t => have := hr.own b t ho; omega) hfz hout
  | panicked _ => exact hout.elim
  | outgrown => exact hout.elim

/- ### one new slice among the results -/
def VcIs (ver : Nat) (ty : TypeId) (n sz : Nat) (f : Nat → Nat → SV) : Vc → Prop
  | .live ver' ty' sz' n' f' => ver' = ver ∧ ty' = ty ∧ sz' = sz ∧ n' = n ∧ ∀ i j, i < n → j < sz → f' i j = f i j ∧ Sc (f i j)
  | .dead => False
def IsVec (h : HS) (ty : TypeId) (n sz : Nat) (f : Nat → Nat → SV) : SV → Prop
  | .vec id ver => VcIs ver ty n sz f (getV h.vecs id)
  | _ => False
def OwnL (h : HS) (ty : TypeId) : List SV → List SV → Prop
  | u :: us, .row n sz f :: vs => IsVec h ty n sz f u ∧ us = vs ∧ FlL vs
  | u :: us, v :: vs => u = v ∧ Fl1 v ∧ OwnL h ty us vs
  | _, _ => False
def OwnT (h : HS) (ty : TypeId) : SV → SV → Prop
  | .tup us, .tup vs => OwnL h ty us vs
  | u, .row n sz f => IsVec h ty n sz f u
  | _, _ => False
def takeL (M : Nat) (ty : TypeId) : List SV → List SV × Vc
  | [] => ([], .dead)
  | .row n sz f :: l => (.vec M 0 :: l, .live 0 ty sz n f)
  | x :: l => (x :: (takeL M ty l).1, (takeL M ty l).2)
def takeT (M : Nat) (ty : TypeId) : SV → SV × Vc
  | .row n sz f => (.vec M 0, .live 0 ty sz n f)
  | .tup l => (.tup (takeL M ty l).1, (takeL M ty l).2)
  | x => (x, .dead)
def BaseO (P : Program) (g : Nat) (ty : TypeId) (base : List SV → Option (Prop × SV)) : Prop :=
  ∀ args p v, base args = some (p, v) → p → BdL 0 0 args ∧ CallsS P g args ⟨[], []⟩ (fun o h' => ∃ u, o = .ret u ∧ OwnT h' ty u v)
def lendRO (ty : TypeId) (r : Option (Prop × SV)) (h : HS) : Option (Prop × SV × HS) := match r with
  | some (p, v) => some (p, (takeT (lenV h.vecs) ty v).1, { h with vecs := snocV h.vecs (takeT (lenV h.vecs) ty v).2 })
  | none => none
def lendO (ty : TypeId) (base : List SV → Option (Prop × SV)) : Spec := fun args h => lendRO ty (base (frzA h args)) h

theorem ownL_get {h : HS} {ty : TypeId} : ∀ {us vs : List SV}, OwnL h ty us vs → ∃ pre post u n sz f, us = pre ++ u :: post ∧ IsVec h ty n sz f u ∧ FlL pre ∧ FlL post ∧ ∀ M, takeL M ty vs = (pre ++ .vec M 0 :: post, .live 0 ty sz n f) := by
  intro us vs
  fun_induction OwnL h ty us vs with
  | case1 u us n sz f vs => rintro ⟨h1, rfl, h2⟩; exact ⟨[], us, u, n, sz, f, rfl, h1, trivial, h2, fun M => rfl⟩
  | case2 u us v vs hne ih =>
    rintro ⟨rfl, h1, h2⟩
    obtain ⟨pre, post, u', n, sz, f, rfl, k1, k2, k3, k4⟩ := ih h2
    exact ⟨u :: pre, post, u', n, sz, f, rfl, k1, ⟨h1, k2⟩, k3, fun M => by cases u <;> first | (simp [takeL, k4 M]; done) | exact (hne _ _ _ rfl).elim⟩
  | case3 => intro h; exact h.elim

/-- The slice that came back becomes an own one. -/
theorem adopt_ok {E E' : Env} {h0 h' : HS} {w w' : World} (hr : RelH E h0 w) (hx : Ext E.lent w E' w') (hr' : RelH E' h' w') {ty : TypeId} {n sz : Nat} {f : Nat → Nat → SV} {u : SV} {val : Value} (hv : IsVec h' ty n sz f u) (hd : Den E' w' u val) :
    ∃ E2, RelH E2 { h0 with vecs := snocV h0.vecs (.live 0 ty sz n f) } w' ∧ Ext E w E2 w' ∧ Den E2 w' (.vec (lenV h0.vecs) 0) val := by
  obtain ⟨hkeep, hx2⟩ := lent_back hr hx
  unfold IsVec at hv
  split at hv
  rotate_left
  · exact hv.elim
  rename_i id ver
  cases hd
  rename_i a n1 cap1 hi hval
  cases hg : getV h'.vecs id with
  | dead => rw [hg] at hv; exact hv.elim
  | live ver' ty' sz' n' f' =>
    rw [hg] at hv
    obtain ⟨rfl, rfl, rfl, rfl, hf⟩ := hv
    obtain ⟨h0', ⟨a', cap', h2, h3⟩, _⟩ := hr'.vec id _ _ _ _ _ hg
    rw [hval] at h2
    cases h2
    rcases h3 with ⟨hA0, rfl, rfl⟩ | ⟨b, o, cur, rfl, k2, k3, k4, k5, k6, k7, k8⟩
    · exact ⟨E.newVA a, (hr.quiet hx2 hkeep).newVecA _ _ h0' _ a hA0, hx2.trans (ext_newVA E w' a), .vec (by simp only [Env.newVA, hr.nv]; omega) (by simp [Env.newVA, hr.nv])⟩
    · obtain ⟨r1, r2⟩ := hr.adoptO (o := o) hx2 hkeep h0' (f := f) (lent_new hx k6 (by intro e; cases e)) (hr'.own _ _ k6) k2 k3 k4 k5 k7 (fun i j u hi hj hu => by
        obtain ⟨q1, q2⟩ := hf i j hi hj
        have := k8 i j u hi hj hu
        rw [q1] at this
        exact q2.den this)
      exact ⟨_, r1, r2, .vec (by simp only [Env.adopt, hr.nv]; omega) (by simp [Env.adopt, hr.nv])⟩

theorem lendO_ok {P : Program} {g : Nat} {ty : TypeId} {base : List SV → Option (Prop × SV)} (hb : BaseO P g ty base) : ∀ args h p v h1, lendO ty base args h = some (p, v, h1) → p → CallsS P g args h fun o h' => o = .ret v ∧ h' = h1 := by
  intro args h0 p v h1 hq hp E w vals hr hd
  unfold lendO lendRO at hq
  split at hq
  rotate_left
  · cases hq
  rename_i p' v' hbase
  cases hq
  obtain ⟨b1, b3⟩ := hb _ _ _ hbase hp
  refine (b3 E.lent w vals (lent_rel hr) (frzA_den hr hd b1)).mono ?_
  rintro e w' ⟨o, h', E', ⟨u, rfl, hown⟩, hr', hx, hout⟩
  cases e with
  | panicked _ => exact hout.elim
  | outgrown => exact hout.elim
  | returned val =>
    simp only at hout
    unfold OwnT at hown
    split at hown
    · rename_i us vs
      obtain ⟨pre, post, u, n, sz, f, rfl, k1, k2, k3, k4⟩ := ownL_get hown
      cases hout
      rename_i tv hts htd
      have hmid : ∃ y, tv[pre.length]? = some y := by
        have : pre.length < tv.size := by rw [hts]; simp
        exact ⟨tv[pre.length], by simp [this]⟩
      obtain ⟨y, hy⟩ := hmid
      obtain ⟨E2, r1, r2, r3⟩ := adopt_ok hr hx hr' k1 (htd pre.length u y (by simp) hy)
      refine ⟨_, _, E2, ⟨rfl, rfl⟩, ?_, r2, ?_⟩
      · simp only [takeT, k4]; exact r1
      · simp only [takeT, k4]
        refine .tup tv (by rw [hts]; simp) (fun i x z hx hz => ?_)
        rcases Nat.lt_trichotomy i pre.length with hi | hi | hi
        · rw [List.getElem?_append_left hi] at hx
          exact (FlL_get k2 i x hx).den (htd i x z (by rw [List.getElem?_append_left hi]; exact hx) hz)
        · subst hi
          rw [hy] at hz
          cases hz
          simp at hx
          subst hx
          exact r3
        · obtain ⟨d, hd'⟩ : ∃ d, i = pre.length + (d + 1) := ⟨i - pre.length - 1, by omega⟩
          subst hd'
          rw [List.getElem?_append_right (by omega)] at hx
          have e : pre.length + (d + 1) - pre.length = d + 1 := by omega
          rw [e] at hx
          simp only [List.getElem?_cons_succ] at hx
          refine (FlL_get k3 d x hx).den (htd _ x z ?_ hz)
          rw [List.getElem?_append_right (by omega), e]
          simpa using hx
    · rename_i n sz f
      obtain ⟨E2, r1, r2, r3⟩ := adopt_ok hr hx hr' hown hout
      exact ⟨_, _, E2, ⟨rfl, rfl⟩, r1, r2, r3⟩
    · exact hown.elim
end Go.Eng
end

/- Facts for reckoning the machine out. -/
section
namespace Go.Eng
open Go.RowKit
set_option linter.unusedVariables false

def lookG : List (Nat × (List SV → Option (Prop × SV))) → Nat → Option (List SV → Option (Prop × SV))
  | [], _ => none
  | (k, f) :: l, g => if g = k then some f else lookG l g
def memN : List Nat → Nat → Bool
  | [], _ => false
  | k :: l, g => if g = k then true else memN l g

/-- n temporaries, some of them known. -/
def setL (n : Nat) : List (Nat × SV) → List SV
  | [] => anys n
  | (i, x) :: l => upd (setL n l) i x
def lookS (n : Nat) : List (Nat × SV) → Nat → SV
  | [], _ => .any
  | (i, x) :: l, j => if j = i then (if i < n then x else .any) else lookS n l j
theorem anys_len (n : Nat) : (anys n).length = n := by simp [anys_eq]
theorem setL_len (n : Nat) : ∀ (l : List (Nat × SV)), (setL n l).length = n
  | [] => anys_len n
  | (i, x) :: l => by simp [setL, upd_eq, setL_len n l]
theorem nth_anys (n j : Nat) : nth (anys n) j = .any := by
  rw [nth_eq, anys_eq]
  by_cases h : j < n
  · simp [List.getD, List.getElem?_replicate, h]
  · simp [List.getD, List.getElem?_replicate, h]
theorem nth_setL (n : Nat) : ∀ (l : List (Nat × SV)) (j : Nat), nth (setL n l) j = lookS n l j
  | [], j => nth_anys n j
  | (i, x) :: l, j => by
    simp only [setL, lookS, ← nth_setL n l j]
    rw [nth_eq, upd_eq, nth_eq]
    simp only [List.getD, List.getElem?_set]
    by_cases e : j = i
    · subst e
      by_cases hl : j < n
      · simp [hl, setL_len]
      · simp [hl, setL_len]
    · simp [e, Ne.symm e]
theorem upd_setL (n i : Nat) (v : SV) (l : List (Nat × SV)) : upd (setL n l) i v = setL n ((i, v) :: l) := rfl
def numb : Nat → List SV → List (Nat × SV) → List (Nat × SV)
  | _, [], acc => acc
  | i, x :: l, acc => numb (i + 1) l ((i, x) :: acc)
theorem numb_set : ∀ (l : List SV) (pre : List SV) (m : Nat) (acc : List (Nat × SV)), setL (pre.length + (l.length + m)) acc = pre ++ anys (l.length + m) →
    setL (pre.length + (l.length + m)) (numb pre.length l acc) = pre ++ (l ++ anys m)
  | [], pre, m, acc, h => by simpa [numb] using h
  | x :: l, pre, m, acc, h => by
    have h2 := numb_set l (pre ++ [x]) m ((pre.length, x) :: acc) (by
      have e : (pre ++ [x]).length + (l.length + m) = pre.length + ((x :: l).length + m) := by simp; omega
      rw [e]
      simp only [setL, h]
      rw [upd_eq, anys_eq, anys_eq]
      have : (x :: l).length + m = (l.length + m) + 1 := by simp; omega
      rw [this, List.replicate_succ, List.set_append_right _ _ (by simp)]
      simp)
    have e : (pre ++ [x]).length + (l.length + m) = pre.length + ((x :: l).length + m) := by simp; omega
    rw [e] at h2
    simp only [numb]
    have e2 : (pre ++ [x]).length = pre.length + 1 := by simp
    rw [e2] at h2
    simpa using h2
theorem cat_setL (l : List SV) (m : Nat) : catS l (anys m) = setL (lenS l + m) (numb 0 l []) := by
  have := numb_set l [] m [] (by simp [setL])
  rw [catS_eq, lenS_eq]
  simpa using this.symm

/-- One state says no more than another one: place by place. -/
def subAs (n : Nat) (l : List (Nat × SV)) : List (Nat × SV) → Prop
  | [] => True
  | (i, x) :: k => subX (lookS n l i) x ∧ subAs n l k
theorem subX_any (x : SV) : subX x .any := by simp [subX]
theorem subL_of : ∀ {l k : List SV}, l.length = k.length → (∀ j, subX (nth l j) (nth k j)) → subL l k
  | [], [], _, _ => trivial
  | x :: l, y :: k, h, hs => ⟨hs 0, subL_of (by simpa using h) (fun j => hs (j + 1))⟩
  | [], _ :: _, h, _ => by simp at h
  | _ :: _, [], h, _ => by simp at h
theorem subAs_get {n : Nat} {l : List (Nat × SV)} : ∀ {k : List (Nat × SV)}, subAs n l k → ∀ j, subX (lookS n l j) (lookS n k j)
  | [], _, j => subX_any _
  | (i, x) :: k, h, j => by
    simp only [lookS]
    split
    · rename_i e
      subst e
      split
      · exact h.1
      · exact subX_any _
    · exact subAs_get h.2 j
theorem sub_setL {n : Nat} {l k : List (Nat × SV)} (h : subAs n l k) : subL (setL n l) (setL n k) :=
  subL_of (by simp [setL_len]) (fun j => by rw [nth_setL, nth_setL]; exact subAs_get h j)
def bdAs (L M : Nat) : List (Nat × SV) → Prop
  | [] => True
  | (_, x) :: k => Bd L M x ∧ bdAs L M k
theorem bd_anys (L M : Nat) : ∀ n, BdL L M (anys n)
  | 0 => trivial
  | n + 1 => ⟨trivial, bd_anys L M n⟩
theorem bd_upd {L M : Nat} {x : SV} (hx : Bd L M x) : ∀ {l : List SV} {i : Nat}, BdL L M l → BdL L M (upd l i x)
  | [], i, h => by cases i <;> exact h
  | y :: l, 0, h => ⟨hx, h.2⟩
  | y :: l, i + 1, h => ⟨h.1, bd_upd hx h.2⟩
theorem bd_setL {L M n : Nat} : ∀ {k : List (Nat × SV)}, bdAs L M k → BdL L M (setL n k)
  | [], _ => bd_anys L M n
  | (i, x) :: k, h => bd_upd h.1 (bd_setL h.2)
/-- A loop's state is met. -/
theorem sub_of {n : Nat} {l k : List (Nat × SV)} {h h' : HS} (hs : subAs n l k) (hb : subB h.blks h'.blks) (hv : subV h.vecs h'.vecs) (b1 : bdAs (lenB h'.blks) (lenV h'.vecs) k)
    (b2 : bdB2 (lenB h'.blks) (lenV h'.vecs) h'.blks) (b3 : bdV (lenB h'.blks) (lenV h'.vecs) h'.vecs) : SubM (setL n l) h (setL n k, h') :=
  .sub ⟨sub_setL hs, hb, hv, bd_setL b1, b2, b3⟩
/-- A loop: the states it can be in, one of them its first; each round leads to a state of lesser measure, or out. -/
theorem loop_of {R : Rn} {fid : Nat} {body : Code} {k : List It} {n : Nat} {l : List (Nat × SV)} {fs : List Fr} {h : HS} {Q : Out → HS → Prop} (ι : Type) (st : ι → List (Nat × SV)) (hs : ι → HS) (μ : ι → Nat)
    (hl : ∀ i, lenB (hs i).blks = lenB h.blks ∧ lenV (hs i).vecs = lenV h.vecs) (i0 : ι) (h0 : SubM (setL n l) h (setL n (st i0), hs i0))
    (hb : ∀ i, R fid (.code body :: .inv ι (fun i => (setL n (st i), hs i)) μ i body :: k) (setL n (st i)) fs (hs i) Q) : LoopOb R fid body k (setL n l) fs h Q :=
  .inl ⟨ι, fun i => (setL n (st i), hs i), μ, [], (fun _ h => by cases h), fun i => ⟨Nat.le_of_eq (hl i).1.symm, Nat.le_of_eq (hl i).2.symm⟩, ⟨i0, h0⟩, hb⟩
/-- The same; the states are told by the memory at the start. -/
theorem loop_ofH {R : Rn} {fid : Nat} {body : Code} {k : List It} {n : Nat} {l : List (Nat × SV)} {fs : List Fr} {h : HS} {Q : Out → HS → Prop} (ι : Type) (st : ι → List (Nat × SV)) (hs : HS → ι → HS) (μ : ι → Nat)
    (hl : ∀ i, lenB (hs h i).blks = lenB h.blks ∧ lenV (hs h i).vecs = lenV h.vecs) (i0 : ι) (h0 : SubM (setL n l) h (setL n (st i0), hs h i0))
    (hb : ∀ i, R fid (.code body :: .inv ι (fun i => (setL n (st i), hs h i)) μ i body :: k) (setL n (st i)) fs (hs h i) Q) : LoopOb R fid body k (setL n l) fs h Q :=
  .inl ⟨ι, fun i => (setL n (st i), hs h i), μ, [], (fun _ h => by cases h), fun i => ⟨Nat.le_of_eq (hl i).1.symm, Nat.le_of_eq (hl i).2.symm⟩, ⟨i0, h0⟩, hb⟩
/-- The same; there may be more names from round to round. -/
theorem loop_ofG {R : Rn} {fid : Nat} {body : Code} {k : List It} {n : Nat} {l : List (Nat × SV)} {fs : List Fr} {h : HS} {Q : Out → HS → Prop} (ι : Type) (st : ι → List (Nat × SV)) (hs : HS → ι → HS) (μ : ι → Nat)
    (hl : ∀ i, lenB h.blks ≤ lenB (hs h i).blks ∧ lenV h.vecs ≤ lenV (hs h i).vecs) (i0 : ι) (h0 : SubM (setL n l) h (setL n (st i0), hs h i0))
    (hb : ∀ i, R fid (.code body :: .inv ι (fun i => (setL n (st i), hs h i)) μ i body :: k) (setL n (st i)) fs (hs h i) Q) : LoopOb R fid body k (setL n l) fs h Q :=
  .inl ⟨ι, fun i => (setL n (st i), hs h i), μ, [], (fun _ h => by cases h), hl, ⟨i0, h0⟩, hb⟩
/-- A loop for which nil slices are made first. -/
theorem loop_mk {R : Rn} {fid : Nat} {body : Code} {k : List It} {n : Nat} {l : List (Nat × SV)} {fs : List Fr} {h : HS} {Q : Out → HS → Prop} (mk : List (TypeId × Nat)) (ι : Type) (st : ι → List (Nat × SV)) (hs : ι → HS) (μ : ι → Nat)
    (hmk : ∀ p, p ∈ mk → 0 < p.2) (hl : ∀ i, lenB (hs i).blks = lenB h.blks ∧ lenV (hs i).vecs = lenV h.vecs + mk.length) (i0 : ι) (h0 : SubM (setL n l) (mkH mk h) (setL n (st i0), hs i0))
    (hb : ∀ i, R fid (.code body :: .inv ι (fun i => (setL n (st i), hs i)) μ i body :: k) (setL n (st i)) fs (hs i) Q) : LoopOb R fid body k (setL n l) fs h Q :=
  .inl ⟨ι, fun i => (setL n (st i), hs i), μ, mk, hmk, fun i => ⟨Nat.le_of_eq (hl i).1.symm, Nat.le_of_eq (hl i).2.symm⟩, ⟨i0, h0⟩, hb⟩
theorem updA_1 (n : Nat) (l : List (Nat × SV)) (j : Nat) (x : SV) : updA (setL n l) [j] x = setL n ((j, x) :: l) := rfl
/-- The slice i1, which the slots js hold, goes by the name i0. -/
theorem sub_mv {n : Nat} {l : List (Nat × SV)} {h : HS} {s : List SV × HS} (i0 i1 j : Nat) {v0 ty0 sz0 n0 f0 v1 ty sz m f} (h0 : getV h.vecs i0 = .live v0 ty0 sz0 n0 f0) (h1 : getV h.vecs i1 = .live v1 ty sz m f) (hne : i0 ≠ i1) (hj : nth (setL n l) j = .vec i1 v1)
    (hs : SubM (setL n ((j, .vec i0 (v0 + 1)) :: l)) { h with vecs := setV (setV h.vecs i0 (.live (v0 + 1) ty sz m f)) i1 .dead } s) : SubM (setL n l) h s :=
  .mv i0 i1 [j] h0 h1 hne (fun j' hj' => by simp at hj'; subst hj'; exact hj) hs
/-- An own slice, held by cells of another one, that is given away. -/
theorem sub_fz {n : Nat} {l : List (Nat × SV)} {h : HS} {s : List SV × HS} (id ov : Nat) {v ty sz m f vo tyo szo no fo} (fo' : Nat → Nat → SV) (h0 : getV h.vecs id = .live v ty sz m f) (h1 : getV h.vecs ov = .live vo tyo szo no fo) (hne : ov ≠ id)
    (hf : ∀ i j, i < no → j < szo → fo' i j = fo i j ∨ (fo i j = .vec id v ∧ fo' i j = .row m sz f)) (hs : SubM (setL n l) { h with vecs := setV (setV h.vecs id .dead) ov (.live vo tyo szo no fo') } s) : SubM (setL n l) h s :=
  .fzV id ov [] h0 h1 hne (fun j hj => by cases hj) hf hs
/-- An own slice, held by cells of another one, goes by another name. -/
theorem sub_mvV {n : Nat} {l : List (Nat × SV)} {h : HS} {s : List SV × HS} (i0 i1 ov : Nat) {v0 ty0 sz0 n0 f0 v1 ty sz m f vo tyo szo no fo} (fo' : Nat → Nat → SV) (h0 : getV h.vecs i0 = .live v0 ty0 sz0 n0 f0) (h1 : getV h.vecs i1 = .live v1 ty sz m f) (h2 : getV h.vecs ov = .live vo tyo szo no fo) (hne : i0 ≠ i1) (ho0 : ov ≠ i0) (ho1 : ov ≠ i1)
    (hf : ∀ i j, i < no → j < szo → fo' i j = fo i j ∨ (fo i j = .vec i1 v1 ∧ fo' i j = .vec i0 (v0 + 1)))
    (hs : SubM (setL n l) { h with vecs := setV (setV (setV h.vecs i0 (.live (v0 + 1) ty sz m f)) i1 .dead) ov (.live vo tyo szo no fo') } s) : SubM (setL n l) h s :=
  .mvV i0 i1 ov fo' h0 h1 h2 hne ho0 ho1 hf hs
/-- An own slice, held by a slot, that is given away. -/
theorem sub_fz1 {n : Nat} {l : List (Nat × SV)} {h : HS} {s : List SV × HS} (id j : Nat) {v ty sz m f} (h0 : getV h.vecs id = .live v ty sz m f) (hj : nth (setL n l) j = .vec id v)
    (hs : SubM (setL n ((j, .row m sz f) :: l)) { h with vecs := setV h.vecs id .dead } s) : SubM (setL n l) h s :=
  .fz id [j] h0 (fun j' hj' => by simp at hj'; subst hj'; exact hj) hs
/-- An own slice, held by a cell of an own block, that is given away. -/
theorem sub_fzB {n : Nat} {l : List (Nat × SV)} {h : HS} {s : List SV × HS} (id nm k : Nat) {v ty sz m f bty cells} (h0 : getV h.vecs id = .live v ty sz m f) (h1 : getB h.blks nm = .live bty cells) (hk : nth cells k = .vec id v)
    (hs : SubM (setL n l) { blks := setB h.blks nm (.live bty (upd cells k (.row m sz f))), vecs := setV h.vecs id .dead } s) : SubM (setL n l) h s :=
  .fzB id nm k h0 h1 hk hs
theorem Bd_nth {L M : Nat} : ∀ {l : List SV}, BdL L M l → ∀ j, Bd L M (nth l j)
  | [], _, j => by cases j <;> exact trivial
  | x :: l, h, 0 => h.1
  | x :: l, h, j + 1 => Bd_nth h.2 j
theorem Bd_nthT {L M n : Nat} {l : List SV} (h : BdL L M l) : (∀ j, j < n → Bd L M (nth l j)) = True := eq_true fun j _ => Bd_nth h j
attribute [irreducible] setL
end Go.Eng
end

/- A call that is handed a part of what is owned: its contract over that part alone, by names of its own. -/
section
namespace Go.Eng
open Go.RowKit
set_option linter.unusedVariables false

mutual
/-- Other names. -/
def renS (b v : Nat → Nat) : SV → SV
  | .any => .any
  | .int k n => .int k n
  | .bool x => .bool x
  | .str s => .str s
  | .ptr nm off => .ptr (b nm) off
  | .nilp => .nilp
  | .nils e sz => .nils e sz
  | .rptr sz f => .rptr sz (fun j => renS b v (f j))
  | .row n sz f => .row n sz (fun i j => renS b v (f i j))
  | .vec id ver => .vec (v id) ver
  | .vptr id ver sz i off => .vptr (v id) ver sz i off
  | .func g caps => .func g (renL b v caps)
  | .nilf => .nilf
  | .iface t x => .iface t (renS b v x)
  | .nili => .nili
  | .agg l => .agg (renL b v l)
  | .tup l => .tup (renL b v l)
  | .yield nm => .yield (b nm)
  | .meth g first => .meth g (renL b v first)
  | .vcut id ver sz lo n x => .vcut (v id) ver sz lo n x
  | .bsl nm off n => .bsl (b nm) off n
  | .mapp nm => .mapp (b nm)
def renL (b v : Nat → Nat) : List SV → List SV
  | [] => []
  | x :: l => renS b v x :: renL b v l
end
theorem renL_eq (b v : Nat → Nat) (l : List SV) : renL b v l = l.map (renS b v) := by
  induction l with
  | nil => simp [renL]
  | cons x l ih => simp [renL, ih]
def renK (b v : Nat → Nat) : Blk → Blk
  | .live ty c => .live ty (renL b v c)
  | .dead => .dead
  | .loop st pend fid t params assign body => .loop st pend fid (renL b v t) params assign body
  | .mp m => .mp m
def renC (b v : Nat → Nat) : Vc → Vc
  | .live ver ty sz n f => .live ver ty sz n (fun i j => renS b v (f i j))
  | .dead => .dead
def renO (b v : Nat → Nat) : Out → Out
  | .ret x => .ret (renS b v x)
  | .pan x => .pan (renS b v x)
  | .fin p ts => .fin (p.map (renS b v)) (renL b v ts)
  | .stop k t => .stop k (renL b v t)
  | .rnd x => .rnd (renS b v x)

section
variable {E E0 : Env} {w : World} {b v : Nat → Nat} {L M : Nat}
/-- From the small names to the great ones. -/
theorem Den.ren {x : SV} {u : Value} (hd : Den E0 w x u) (hb : Bd L M x) (h1 : ∀ nm, nm < L → nm < E0.nb → b nm < E.nb ∧ E.rho (b nm) = E0.rho nm) (h2 : ∀ id ver y, id < M → id < E0.nv → E0.val id ver = some y → v id < E.nv ∧ E.val (v id) ver = some y)
    (h3 : ∀ k, k < w.heap.size → E0.own k = none → E.own k = none) : Den E w (renS b v x) u := by
  induction hd with
  | any u => rw [renS]; exact .any u
  | int k n => rw [renS]; exact .int k n
  | bool x => rw [renS]; exact .bool x
  | str s => rw [renS]; exact .str s
  | @ptr nm off hn => simp only [Bd] at hb; rw [renS]; obtain ⟨q1, q2⟩ := h1 nm hb hn; rw [← q2]; exact .ptr q1
  | nilp => rw [renS]; exact .nilp
  | nils h => rw [renS]; exact .nils h
  | @rptr sz f A g hA ho hc h1' hd ih => simp only [Bd] at hb; rw [renS]; exact .rptr A g hA (h3 _ hA ho) hc h1' (fun j hj => ih j hj (hb j hj))
  | @row n sz f A cap g hA ho hn hc h1' hd ih => simp only [Bd] at hb; rw [renS]; exact .row A cap g hA (h3 _ hA ho) hn hc h1' (fun i j hi hj => ih i j hi hj (hb i j hi hj))
  | rowZ a cap => rw [renS]; exact .rowZ a cap
  | vec hi hv => simp only [Bd] at hb; rw [renS]; obtain ⟨q1, q2⟩ := h2 _ _ _ hb hi hv; exact .vec q1 q2
  | vptr hi hv => simp only [Bd] at hb; rw [renS]; obtain ⟨q1, q2⟩ := h2 _ _ _ hb hi hv; exact .vptr q1 q2
  | vcut hi hv hn hc ha h0 hA hB => simp only [Bd] at hb; rw [renS]; obtain ⟨q1, q2⟩ := h2 _ _ _ hb hi hv; exact .vcut q1 q2 hn hc ha h0 hA hB
  | @bsl nm off n cap hn hc => simp only [Bd] at hb; rw [renS]; obtain ⟨q1, q2⟩ := h1 nm hb hn; rw [← q2]; exact .bsl q1 hc
  | @mapp nm hn => simp only [Bd] at hb; rw [renS]; obtain ⟨q1, q2⟩ := h1 nm hb hn; rw [← q2]; exact .mapp q1
  | func vs hs hd ih =>
    simp only [Bd] at hb; rw [renS]
    refine .func vs (by rw [renL_eq]; simpa using hs) (fun i x u hx hu => ?_)
    rw [renL_eq, List.getElem?_map, Option.map_eq_some_iff] at hx
    obtain ⟨y, hy, rfl⟩ := hx
    exact ih i y u hy hu (BdL_get hb i y hy)
  | meth vs hs hd ih =>
    simp only [Bd] at hb; rw [renS]
    refine .meth vs (by rw [renL_eq]; simpa using hs) (fun i x u hx hu => ?_)
    rw [renL_eq, List.getElem?_map, Option.map_eq_some_iff] at hx
    obtain ⟨y, hy, rfl⟩ := hx
    exact ih i y u hy hu (BdL_get hb i y hy)
  | nilf => rw [renS]; exact .nilf
  | iface _ ih => simp only [Bd] at hb; rw [renS]; exact .iface (ih hb)
  | nili => rw [renS]; exact .nili
  | agg vs hs h1' hd ih =>
    simp only [Bd] at hb; rw [renS]
    refine .agg vs (by rw [renL_eq]; simpa using hs) h1' (fun i x u hx hu => ?_)
    rw [renL_eq, List.getElem?_map, Option.map_eq_some_iff] at hx
    obtain ⟨y, hy, rfl⟩ := hx
    exact ih i y u hy hu (BdL_get hb i y hy)
  | tup vs hs hd ih =>
    simp only [Bd] at hb; rw [renS]
    refine .tup vs (by rw [renL_eq]; simpa using hs) (fun i x u hx hu => ?_)
    rw [renL_eq, List.getElem?_map, Option.map_eq_some_iff] at hx
    obtain ⟨y, hy, rfl⟩ := hx
    exact ih i y u hy hu (BdL_get hb i y hy)
  | @yield nm hn => simp only [Bd] at hb; rw [renS]; obtain ⟨q1, q2⟩ := h1 nm hb hn; rw [← q2]; exact .yield q1

mutual
/-- And back. -/
theorem Den.unren (h1 : ∀ nm, nm < L → nm < E0.nb ∧ E0.rho nm = E.rho (b nm)) (h2 : ∀ id ver y, id < M → E.val (v id) ver = some y → id < E0.nv ∧ E0.val id ver = some y) (h3 : ∀ k, k < w.heap.size → E.own k = none → E0.own k = none) : ∀ (x : SV) (u : Value), Den E w (renS b v x) u → Bd L M x → Den E0 w x u
  | .any, u, _, _ => .any u
  | .int k n, u, h, _ => by rw [renS] at h; cases h; exact .int k n
  | .bool x, u, h, _ => by rw [renS] at h; cases h; exact .bool x
  | .str s, u, h, _ => by rw [renS] at h; cases h; exact .str s
  | .ptr nm off, u, h, hb => by rw [renS] at h; simp only [Bd] at hb; cases h; obtain ⟨q1, q2⟩ := h1 nm hb; rw [← q2]; exact .ptr q1
  | .nilp, u, h, _ => by rw [renS] at h; cases h; exact .nilp
  | .nils _ _, u, h, _ => by rw [renS] at h; cases h; exact .nils ‹_›
  | .rptr sz f, u, h, hb => by
    rw [renS] at h; simp only [Bd] at hb
    cases h with
    | rptr A g hA ho hc h1' hd => exact .rptr A g hA (h3 _ hA ho) hc h1' (fun j hj => Den.unren h1 h2 h3 (f j) _ (hd j hj) (hb j hj))
  | .row n sz f, u, h, hb => by
    rw [renS] at h; simp only [Bd] at hb
    cases h with
    | row A cap g hA ho hn hc h1' hd => exact .row A cap g hA (h3 _ hA ho) hn hc h1' (fun i j hi hj => Den.unren h1 h2 h3 (f i j) _ (hd i j hi hj) (hb i j hi hj))
    | rowZ a cap => exact .rowZ a cap
  | .vec id ver, u, h, hb => by
    rw [renS] at h; simp only [Bd] at hb
    cases h with
    | vec hi hv => obtain ⟨q1, q2⟩ := h2 _ _ _ hb hv; exact .vec q1 q2
  | .vptr id ver sz i off, u, h, hb => by
    rw [renS] at h; simp only [Bd] at hb
    cases h with
    | vptr hi hv => obtain ⟨q1, q2⟩ := h2 _ _ _ hb hv; exact .vptr q1 q2
  | .func g caps, u, h, hb => by
    rw [renS] at h; simp only [Bd] at hb
    cases h with
    | func vs hs hd => exact .func vs (by rw [renL_eq] at hs; simpa using hs) (Den.unrenL h1 h2 h3 caps vs (fun i x u hx hu => hd i x u hx hu) hb)
  | .nilf, u, h, _ => by rw [renS] at h; cases h; exact .nilf
  | .iface t x, u, h, hb => by
    rw [renS] at h; simp only [Bd] at hb
    cases h with
    | iface hv => exact .iface (Den.unren h1 h2 h3 x _ hv hb)
  | .nili, u, h, _ => by rw [renS] at h; cases h; exact .nili
  | .agg l, u, h, hb => by
    rw [renS] at h; simp only [Bd] at hb
    cases h with
    | agg vs hs h1' hd => exact .agg vs (by rw [renL_eq] at hs; simpa using hs) h1' (Den.unrenL h1 h2 h3 l vs (fun i x u hx hu => hd i x u hx hu) hb)
  | .tup l, u, h, hb => by
    rw [renS] at h; simp only [Bd] at hb
    cases h with
    | tup vs hs hd => exact .tup vs (by rw [renL_eq] at hs; simpa using hs) (Den.unrenL h1 h2 h3 l vs (fun i x u hx hu => hd i x u hx hu) hb)
  | .yield nm, u, h, hb => by rw [renS] at h; simp only [Bd] at hb; cases h; obtain ⟨q1, q2⟩ := h1 nm hb; rw [← q2]; exact .yield q1
  | .meth g first, u, h, hb => by
    rw [renS] at h; simp only [Bd] at hb
    cases h with
    | meth vs hs hd => exact .meth vs (by rw [renL_eq] at hs; simpa using hs) (Den.unrenL h1 h2 h3 first vs (fun i x u hx hu => hd i x u hx hu) hb)
  | .vcut id ver sz lo n x, u, h, hb => by
    rw [renS] at h; simp only [Bd] at hb
    cases h with
    | vcut hi hv hn hc ha h0 hA hB => obtain ⟨q1, q2⟩ := h2 _ _ _ hb hv; exact .vcut q1 q2 hn hc ha h0 hA hB
  | .bsl nm off n, u, h, hb => by
    rw [renS] at h; simp only [Bd] at hb
    cases h with
    | bsl hn hc => obtain ⟨q1, q2⟩ := h1 nm hb; rw [← q2]; exact .bsl q1 hc
  | .mapp nm, u, h, hb => by rw [renS] at h; simp only [Bd] at hb; cases h; obtain ⟨q1, q2⟩ := h1 nm hb; rw [← q2]; exact .mapp q1
theorem Den.unrenL (h1 : ∀ nm, nm < L → nm < E0.nb ∧ E0.rho nm = E.rho (b nm)) (h2 : ∀ id ver y, id < M → E.val (v id) ver = some y → id < E0.nv ∧ E0.val id ver = some y) (h3 : ∀ k, k < w.heap.size → E.own k = none → E0.own k = none) : ∀ (l : List SV) (vs : Array Value), (∀ (i : Nat) (x : SV) (u : Value), (renL b v l)[i]? = some x → vs[i]? = some u → Den E w x u) → BdL L M l → ∀ (i : Nat) (x : SV) (u : Value), l[i]? = some x → vs[i]? = some u → Den E0 w x u
  | [], vs, _, _, i, x, u, hx, _ => by simp at hx
  | y :: l, vs, h, hb, 0, x, u, hx, hu => by
    simp only [BdL] at hb
    simp at hx; subst hx
    exact Den.unren h1 h2 h3 y u (h 0 _ u (by rw [renL]; rfl) hu) hb.1
  | y :: l, vs, h, hb, i + 1, x, u, hx, hu => by
    simp only [BdL] at hb
    exact Den.unrenL h1 h2 h3 l (vs.extract 1 vs.size) (fun j x u hx hu => h (j + 1) x u (by rw [renL]; simpa using hx) (by rw [Array.getElem?_extract] at hu; split at hu <;> simp_all [Nat.add_comm])) hb.2 i x u (by simpa using hx) (by
      rw [Array.getElem?_extract]
      have := (Array.getElem?_eq_some_iff.1 hu).1
      rw [if_pos (by omega), Nat.add_comm]
      exact hu)
end
end

def nmN : List Nat → Nat → Nat
  | [], _ => 0
  | x :: _, 0 => x
  | _ :: l, n + 1 => nmN l n
def ixN : List Nat → Nat → Option Nat
  | [], _ => none
  | x :: l, k => if x = k then some 0 else (ixN l k).map (· + 1)
theorem ixN_some : ∀ {l : List Nat} {k i : Nat}, ixN l k = some i → i < l.length ∧ nmN l i = k
  | [], k, i, h => by simp [ixN] at h
  | x :: l, k, i, h => by
    simp only [ixN] at h
    split at h
    · rename_i e; cases h; exact ⟨by simp, e⟩
    · rw [Option.map_eq_some_iff] at h
      obtain ⟨j, hj, rfl⟩ := h
      obtain ⟨h1, h2⟩ := ixN_some hj
      exact ⟨by simp; omega, h2⟩
theorem nmN_mem : ∀ {l : List Nat} {i : Nat}, i < l.length → nmN l i ∈ l
  | [], i, h => by simp at h
  | x :: l, 0, _ => by simp [nmN]
  | x :: l, i + 1, h => by simp only [nmN]; exact List.mem_cons_of_mem _ (nmN_mem (by simpa using h))
theorem ixN_none : ∀ {l : List Nat} {k : Nat}, ixN l k = none → k ∉ l
  | [], k, _ => by simp
  | x :: l, k, h => by
    simp only [ixN] at h
    split at h
    · cases h
    · rename_i e
      simp only [Option.map_eq_none_iff] at h
      simp only [List.mem_cons, not_or]
      exact ⟨fun e' => e e'.symm, ixN_none h⟩
theorem ixN_notin : ∀ {l : List Nat} {k : Nat}, k ∉ l → ixN l k = none
  | [], k, _ => rfl
  | x :: l, k, h => by
    simp only [List.mem_cons, not_or] at h
    simp only [ixN]
    rw [if_neg (fun e => h.1 e.symm), ixN_notin h.2]
    rfl
theorem ixN_nm : ∀ {l : List Nat} {i : Nat}, l.Nodup → i < l.length → ixN l (nmN l i) = some i
  | [], i, _, h => by simp at h
  | x :: l, 0, _, _ => by simp [nmN, ixN]
  | x :: l, i + 1, hn, h => by
    simp only [List.nodup_cons] at hn
    have h' : i < l.length := by simpa using h
    have hm := nmN_mem h'
    show ixN (x :: l) (nmN l i) = some (i + 1)
    unfold ixN
    split
    · rename_i e; exact absurd (by rw [e]; exact hm) hn.1
    · rw [ixN_nm hn.2 h']; rfl
def putB (b v : Nat → Nat) : List Nat → List Blk → List Blk → List Blk
  | k :: bs, h, x :: l => putB b v bs (setB h k (renK b v x)) l
  | _, h, _ => h
def putV (b v : Nat → Nat) : List Nat → List Vc → List Vc → List Vc
  | k :: vs, h, x :: l => putV b v vs (setV h k (renC b v x)) l
  | _, h, _ => h
theorem lenB_put (b v : Nat → Nat) : ∀ (bs : List Nat) (h l : List Blk), lenB (putB b v bs h l) = lenB h
  | [], _, _ => by simp [putB]
  | _ :: _, _, [] => by simp [putB]
  | k :: bs, h, x :: l => by simp only [putB, lenB_put b v bs, lenB_set]
theorem lenV_put (b v : Nat → Nat) : ∀ (vs : List Nat) (h l : List Vc), lenV (putV b v vs h l) = lenV h
  | [], _, _ => by simp [putV]
  | _ :: _, _, [] => by simp [putV]
  | k :: vs, h, x :: l => by simp only [putV, lenV_put b v vs, lenV_set]
theorem getB_put (b v : Nat → Nat) : ∀ (bs : List Nat) (h l : List Blk), bs.Nodup → lenB l = bs.length → (∀ k, k ∈ bs → k < lenB h) → ∀ nm, getB (putB b v bs h l) nm = match ixN bs nm with | some i => renK b v (getB l i) | none => getB h nm
  | [], h, l, _, _, _, nm => by simp [putB, ixN]
  | _ :: _, _, [], _, hl, _, _ => by simp [lenB] at hl
  | k :: bs, h, x :: l, hn, hl, hlt, nm => by
    simp only [List.nodup_cons] at hn
    have ih := getB_put b v bs (setB h k (renK b v x)) l hn.2 (by simpa [lenB] using hl) (fun q hq => by rw [lenB_set]; exact hlt q (List.mem_cons_of_mem _ hq)) nm
    simp only [putB, ih, ixN]
    by_cases e : k = nm
    · subst e
      rw [ixN_notin hn.1, if_pos rfl]
      simp only [getB_set]
      rw [if_pos ⟨trivial, hlt k List.mem_cons_self⟩]
      simp [getB]
    · rw [if_neg e]
      cases hi : ixN bs nm with
      | none =>
        simp only [Option.map_none, getB_set]
        rw [if_neg (fun h => e h.1.symm)]
      | some i => simp [getB]
theorem getV_put (b v : Nat → Nat) : ∀ (vs : List Nat) (h l : List Vc), vs.Nodup → lenV l = vs.length → (∀ k, k ∈ vs → k < lenV h) → ∀ nm, getV (putV b v vs h l) nm = match ixN vs nm with | some i => renC b v (getV l i) | none => getV h nm
  | [], h, l, _, _, _, nm => by simp [putV, ixN]
  | _ :: _, _, [], _, hl, _, _ => by simp [lenV] at hl
  | k :: vs, h, x :: l, hn, hl, hlt, nm => by
    simp only [List.nodup_cons] at hn
    have ih := getV_put b v vs (setV h k (renC b v x)) l hn.2 (by simpa [lenV] using hl) (fun q hq => by rw [lenV_set]; exact hlt q (List.mem_cons_of_mem _ hq)) nm
    simp only [putV, ih, ixN]
    by_cases e : k = nm
    · subst e
      rw [ixN_notin hn.1, if_pos rfl]
      simp only [getV_set]
      rw [if_pos ⟨trivial, hlt k List.mem_cons_self⟩]
      simp [getV]
    · rw [if_neg e]
      cases hi : ixN vs nm with
      | none =>
        simp only [Option.map_none, getV_set]
        rw [if_neg (fun h => e h.1.symm)]
      | some i => simp [getV]
/-- The small heap is what lies under the names. -/
def matB (b v : Nat → Nat) : List Nat → List Blk → List Blk → Prop
  | k :: bs, h, x :: l => getB h k = renK b v x ∧ matB b v bs h l
  | [], _, [] => True
  | _, _, _ => False
def matV (b v : Nat → Nat) : List Nat → List Vc → List Vc → Prop
  | k :: vs, h, x :: l => getV h k = renC b v x ∧ matV b v vs h l
  | [], _, [] => True
  | _, _, _ => False
theorem matB_get {b v : Nat → Nat} : ∀ {bs : List Nat} {h l : List Blk}, matB b v bs h l → lenB l = bs.length ∧ ∀ i, i < bs.length → getB h (nmN bs i) = renK b v (getB l i)
  | [], _, [], _ => ⟨rfl, fun i hi => by simp at hi⟩
  | [], _, _ :: _, h => h.elim
  | _ :: _, _, [], h => h.elim
  | k :: bs, h, x :: l, hm => by
    obtain ⟨h1, h2⟩ := matB_get hm.2
    refine ⟨by simp [lenB, h1], fun i hi => ?_⟩
    cases i with
    | zero => exact hm.1
    | succ i => exact h2 i (by simpa using hi)
theorem matV_get {b v : Nat → Nat} : ∀ {vs : List Nat} {h l : List Vc}, matV b v vs h l → lenV l = vs.length ∧ ∀ i, i < vs.length → getV h (nmN vs i) = renC b v (getV l i)
  | [], _, [], _ => ⟨rfl, fun i hi => by simp at hi⟩
  | [], _, _ :: _, h => h.elim
  | _ :: _, _, [], h => h.elim
  | k :: vs, h, x :: l, hm => by
    obtain ⟨h1, h2⟩ := matV_get hm.2
    refine ⟨by simp [lenV, h1], fun i hi => ?_⟩
    cases i with
    | zero => exact hm.1
    | succ i => exact h2 i (by simpa using hi)
def bdO (L M : Nat) : Out → Prop
  | .ret x => Bd L M x
  | .pan x => Bd L M x
  | _ => True
def tagS (bs vs : List Nat) : Option Tag → Option Tag
  | some (.blk m) => match ixN bs m with
    | some i => some (.blk i)
    | none => some .other
  | some (.vec m) => match ixN vs m with
    | some i => some (.vec i)
    | none => some .other
  | some .other => some .other
  | none => none
def Env.small (E : Env) (bs vs : List Nat) : Env :=
  { nb := bs.length, rho := fun i => E.rho (nmN bs i), nv := vs.length, val := fun i ver => E.val (nmN vs i) ver, own := fun k => tagS bs vs (E.own k) }
def tagG (bs vs : List Nat) (old : Option Tag) (s : Option Tag) : Option Tag → Option Tag
  | some (.blk i) => if i < bs.length then some (.blk (nmN bs i)) else some .other
  | some (.vec i) => if i < vs.length then some (.vec (nmN vs i)) else some .other
  | some .other => match s with
    | some .other => old
    | _ => some .other
  | none => none
def Env.great (E E0 : Env) (bs vs : List Nat) : Env :=
  { nb := E.nb, rho := E.rho, nv := E.nv, val := fun id ver => match ixN vs id with | some i => E0.val i ver | none => E.val id ver, own := fun k => tagG bs vs (E.own k) (tagS bs vs (E.own k)) (E0.own k) }

theorem calls_ren {P : Program} {g : Nat} {args0 : List SV} {h0 h : HS} {K0 : Out → HS → Prop} (bs vs : List Nat) (hc : CallsS P g args0 h0 K0) (nb : bs.Nodup) (nv : vs.Nodup)
    (ba : BdL bs.length vs.length args0) (bB : bdB bs.length vs.length h0.blks) (bV : bdV bs.length vs.length h0.vecs)
    (hB : matB (nmN bs) (nmN vs) bs h.blks h0.blks) (hV : matV (nmN bs) (nmN vs) vs h.vecs h0.vecs) (hlB : ∀ k, k ∈ bs → k < lenB h.blks) (hlV : ∀ k, k ∈ vs → k < lenV h.vecs)
    (hK : ∀ o h', K0 o h' → lenB h'.blks = bs.length ∧ lenV h'.vecs = vs.length ∧ bdB bs.length vs.length h'.blks ∧ bdV bs.length vs.length h'.vecs ∧ bdO bs.length vs.length o) :
    CallsS P g (renL (nmN bs) (nmN vs) args0) h (fun o h' => ∃ o0 h0', K0 o0 h0' ∧ o = renO (nmN bs) (nmN vs) o0 ∧ h' = ⟨putB (nmN bs) (nmN vs) bs h.blks h0'.blks, putV (nmN bs) (nmN vs) vs h.vecs h0'.vecs⟩) := by
  intro E w vals hr hd
  obtain ⟨lB, gB⟩ := matB_get hB
  obtain ⟨lV, gV⟩ := matV_get hV
  have hnmb : ∀ i, i < bs.length → nmN bs i < E.nb := fun i hi => by rw [hr.nb]; exact hlB _ (nmN_mem hi)
  have hnmv : ∀ i, i < vs.length → nmN vs i < E.nv := fun i hi => by rw [hr.nv]; exact hlV _ (nmN_mem hi)
  have un := fun (x : SV) (u : Value) (hx : Den E w (renS (nmN bs) (nmN vs) x) u) (hb : Bd bs.length vs.length x) =>
    Den.unren (E := E) (E0 := E.small bs vs) (w := w) (b := nmN bs) (v := nmN vs) (L := bs.length) (M := vs.length) (fun nm hn => ⟨hn, rfl⟩) (fun id ver y hi hy => ⟨hi, hy⟩) (fun k _ hk => by simp [Env.small, hk, tagS]) x u hx hb
  have unL := fun (l : List SV) (us : Array Value) (hx : DenA E w (renL (nmN bs) (nmN vs) l) us) (hb : BdL bs.length vs.length l) => (show DenA (E.small bs vs) w l us from
    ⟨by rw [hx.1, renL_eq]; simp, Den.unrenL (E := E) (E0 := E.small bs vs) (w := w) (b := nmN bs) (v := nmN vs) (L := bs.length) (M := vs.length) (fun nm hn => ⟨hn, rfl⟩) (fun id ver y hi hy => ⟨hi, hy⟩) (fun k _ hk => by simp [Env.small, hk, tagS]) l us hx.2 hb⟩)
  have ownB : ∀ i, i < bs.length → ∀ k, E.own k = some (.blk (nmN bs i)) → (E.small bs vs).own k = some (.blk i) := fun i hi k hk => by simp [Env.small, hk, tagS, ixN_nm nb hi]
  have ownV : ∀ i, i < vs.length → ∀ k, E.own k = some (.vec (nmN vs i)) → (E.small bs vs).own k = some (.vec i) := fun i hi k hk => by simp [Env.small, hk, tagS, ixN_nm nv hi]
  have hr0 : RelH (E.small bs vs) h0 w := by
    refine ⟨by simp [Env.small, lB], by simp [Env.small, lV], ?_, ?_, ?_, ?_, ?_⟩
    · intro nm ty c hg
      have hlt : nm < bs.length := by rw [← lB]; exact getB_lt hg
      have hg' := gB nm hlt
      rw [hg] at hg'
      obtain ⟨cs, a1, a2, a3, a4⟩ := hr.blk _ _ _ hg'
      exact ⟨cs, a1, unL c cs a2 (bdB_get bB hg), a3, ownB nm hlt _ a4⟩
    · intro id ver ty sz n f hg
      have hlt : id < vs.length := by rw [← lV]; exact getV_lt hg
      have hg' := gV id hlt
      rw [hg] at hg'
      obtain ⟨c0, ⟨a, cap, k1, k2⟩, k3⟩ := hr.vec _ _ _ _ _ _ hg'
      refine ⟨c0, ⟨a, cap, k1, ?_⟩, k3⟩
      rcases k2 with hk | ⟨g1, o, cur, q1, q2, q3, q4, q5, q6, q7, q8⟩
      · exact .inl hk
      · exact .inr ⟨g1, o, cur, q1, q2, q3, q4, q5, ownV id hlt _ q6, q7, fun i j u hi hj hu => un _ _ (q8 i j u hi hj hu) (bdV_get bV hg i j hi hj)⟩
    · intro k t hk
      simp only [Env.small] at hk
      cases ho : E.own k with
      | none => rw [ho] at hk; simp [tagS] at hk
      | some t' => exact hr.own k t' ho
    · intro nm st pend fid t params assign body hg
      have hlt : nm < bs.length := by rw [← lB]; exact getB_ltL hg
      have hg' := gB nm hlt
      rw [hg] at hg'
      obtain ⟨tmps, db, a1, a2, a3⟩ := hr.lp _ _ _ _ _ _ _ _ hg'
      exact ⟨tmps, db, a1, unL t tmps a2 (bdB_getL bB hg), ownB nm hlt _ a3⟩
    · intro nm m hg
      have hlt : nm < bs.length := by rw [← lB]; exact getB_ltM hg
      have hg' := gB nm hlt
      rw [hg] at hg'
      obtain ⟨a2, a3⟩ := hr.mp _ _ hg'
      have hi := bdB_getM bB hg
      refine ⟨ownB nm hlt _ a2, ?_⟩
      rw [hi] at a3 ⊢
      exact a3
  refine (hc (E.small bs vs) w vals hr0 (unL args0 vals hd ba)).mono ?_
  rintro e w' ⟨o, h', E0', hk, hr', hx, hout⟩
  obtain ⟨k1, k2, k3, k4, k5⟩ := hK o h' hk
  have rho' : ∀ i, i < bs.length → E0'.rho i = E.rho (nmN bs i) := fun i hi => hx.rho i hi
  have hxG : Ext E w (E.great E0' bs vs) w' := by
    refine ⟨hx.os, hx.tape, hx.output, hx.size, Nat.le_refl _, Nat.le_refl _, fun _ _ => rfl, fun id ver x hi hv => ?_, fun k hk ho => ?_, fun k ho => ?_⟩
    · simp only [Env.great]
      split
      · rename_i i hi'
        obtain ⟨q1, q2⟩ := ixN_some hi'
        exact hx.val i ver x q1 (by simp only [Env.small, q2]; exact hv)
      · exact hv
    · obtain ⟨q1, q2⟩ := hx.keep k hk (by simp [Env.small, ho, tagS])
      exact ⟨by simp [Env.great, q1, tagG], q2⟩
    · obtain ⟨q1, q2⟩ := hx.oth k (by simp [Env.small, ho, tagS])
      exact ⟨by simp [Env.great, q1, tagG, ho, tagS], q2⟩
  have up := fun (x : SV) (u : Value) (hd : Den E0' w' x u) (hb : Bd bs.length vs.length x) =>
    Den.ren (E := E.great E0' bs vs) (E0 := E0') (b := nmN bs) (v := nmN vs) hd hb (fun nm hn _ => ⟨hnmb nm hn, (rho' nm hn).symm⟩) (fun id ver y hi _ hy => ⟨hnmv id hi, by simp only [Env.great, ixN_nm nv hi]; exact hy⟩) (fun k _ hk => by simp [Env.great, hk, tagG])
  have upL := fun (l : List SV) (us : Array Value) (hd : DenA E0' w' l us) (hb : BdL bs.length vs.length l) => (show DenA (E.great E0' bs vs) w' (renL (nmN bs) (nmN vs) l) us from
    ⟨by rw [hd.1, renL_eq]; simp, fun i x u hx hu => by
      rw [renL_eq, List.getElem?_map, Option.map_eq_some_iff] at hx
      obtain ⟨y, hy, rfl⟩ := hx
      exact up y u (hd.2 i y u hy hu) (BdL_get hb i y hy)⟩)
  have gown : ∀ i, i < bs.length → E0'.own (E0'.rho i) = some (.blk i) → (E.great E0' bs vs).own (E.rho (nmN bs i)) = some (.blk (nmN bs i)) := fun i hi ho => by
    rw [rho' i hi] at ho
    simp [Env.great, ho, tagG, hi]
  -- what is not handed over stays
  have foreign : ∀ k t, E.own k = some t → (match t with | .blk m => ixN bs m = none | .vec m => ixN vs m = none | .other => True) → w'.heap[k]? = w.heap[k]? ∧ (E.great E0' bs vs).own k = E.own k := fun k t ho ht => by
    have hs : (E.small bs vs).own k = some .other := by
      simp only [Env.small, ho]
      cases t with
      | blk m => simp only at ht; simp [tagS, ht]
      | vec m => simp only at ht; simp [tagS, ht]
      | other => rfl
    obtain ⟨q1, q2⟩ := hx.oth k hs
    have hs' : tagS bs vs (E.own k) = some .other := hs
    exact ⟨q2, by simp [Env.great, q1, tagG, hs']⟩
  refine ⟨renO (nmN bs) (nmN vs) o, _, E.great E0' bs vs, ⟨o, h', hk, rfl, rfl⟩, ?_, hxG, ?_⟩
  · have gBp := getB_put (nmN bs) (nmN vs) bs h.blks h'.blks nb k1 hlB
    have gVp := getV_put (nmN bs) (nmN vs) vs h.vecs h'.vecs nv k2 hlV
    refine ⟨by rw [lenB_put]; exact hr.nb, by rw [lenV_put]; exact hr.nv, ?_, ?_, ?_, ?_, ?_⟩
    · intro nm ty c hg
      rw [gBp] at hg
      split at hg
      · rename_i i hi
        obtain ⟨q1, q2⟩ := ixN_some hi
        subst q2
        cases hb : getB h'.blks i with
        | live ty' c' =>
          rw [hb] at hg
          simp only [renK, Blk.live.injEq] at hg
          obtain ⟨rfl, rfl⟩ := hg
          obtain ⟨cs, a1, a2, a3, a4⟩ := hr'.blk _ _ _ hb
          exact ⟨cs, by rw [rho' i q1] at a1; exact a1, upL c' cs a2 (bdB_get k3 hb), a3, gown i q1 a4⟩
        | dead => rw [hb] at hg; simp [renK] at hg
        | loop => rw [hb] at hg; simp [renK] at hg
        | mp => rw [hb] at hg; simp [renK] at hg
      · rename_i hn
        obtain ⟨cs, a1, a2, a3, a4⟩ := hr.blk _ _ _ hg
        obtain ⟨f1, f2⟩ := foreign _ _ a4 hn
        exact ⟨cs, f1.trans a1, a2.ext hxG, a3, f2.trans a4⟩
    · intro id ver ty sz n f hg
      rw [gVp] at hg
      split at hg
      · rename_i i hi
        obtain ⟨q1, q2⟩ := ixN_some hi
        subst q2
        cases hb : getV h'.vecs i with
        | live ver' ty' sz' n' f' =>
          rw [hb] at hg
          simp only [renC, Vc.live.injEq] at hg
          obtain ⟨rfl, rfl, rfl, rfl, rfl⟩ := hg
          obtain ⟨c0, ⟨a, cap, l1, l2⟩, l3⟩ := hr'.vec _ _ _ _ _ _ hb
          have hval : ∀ ver, (E.great E0' bs vs).val (nmN vs i) ver = E0'.val i ver := fun ver => by simp only [Env.great, ixN_nm nv q1]
          refine ⟨c0, ⟨a, cap, by rw [hval]; exact l1, ?_⟩, fun v' hv' => by rw [hval]; exact l3 v' hv'⟩
          rcases l2 with hk | ⟨g1, o, cur, p1, p2, p3, p4, p5, p6, p7, p8⟩
          · exact .inl hk
          · exact .inr ⟨g1, o, cur, p1, p2, p3, p4, p5, by simp [Env.great, p6, tagG, q1], p7, fun a j u hi hj hu => up _ _ (p8 a j u hi hj hu) (bdV_get k4 hb a j hi hj)⟩
        | dead => rw [hb] at hg; simp [renC] at hg
      · rename_i hn
        obtain ⟨c0, ⟨a, cap, l1, l2⟩, l3⟩ := hr.vec _ _ _ _ _ _ hg
        have hval : ∀ ver, (E.great E0' bs vs).val id ver = E.val id ver := fun ver => by simp only [Env.great, hn]
        exact ⟨c0, ⟨a, cap, by rw [hval]; exact l1, l2.ext hxG (fun g hg => foreign g _ hg hn)⟩, fun v' hv' => by rw [hval]; exact l3 v' hv'⟩
    · intro k t hk
      rcases Nat.lt_or_ge k w'.heap.size with h | h
      · exact h
      · exfalso
        have n0 : E0'.own k = none := by
          cases ho : E0'.own k with
          | none => rfl
          | some t' => have := hr'.own k t' ho; omega
        simp [Env.great, n0, tagG] at hk
    · intro nm st pend fid t params assign body hg
      rw [gBp] at hg
      split at hg
      · rename_i i hi
        obtain ⟨q1, q2⟩ := ixN_some hi
        subst q2
        cases hb : getB h'.blks i with
        | loop st' pend' fid' t' params' assign' body' =>
          rw [hb] at hg
          simp only [renK, Blk.loop.injEq] at hg
          obtain ⟨rfl, rfl, rfl, rfl, rfl, rfl, rfl⟩ := hg
          obtain ⟨tmps, db, a1, a2, a3⟩ := hr'.lp _ _ _ _ _ _ _ _ hb
          exact ⟨tmps, db, by rw [rho' i q1] at a1; exact a1, upL t' tmps a2 (bdB_getL k3 hb), gown i q1 a3⟩
        | dead => rw [hb] at hg; simp [renK] at hg
        | live => rw [hb] at hg; simp [renK] at hg
        | mp => rw [hb] at hg; simp [renK] at hg
      · rename_i hn
        exact (hr.lp _ _ _ _ _ _ _ _ hg).ext hxG (fun ho => ⟨rfl, foreign _ _ ho hn⟩)
    · intro nm m hg
      rw [gBp] at hg
      split at hg
      · rename_i i hi
        obtain ⟨q1, q2⟩ := ixN_some hi
        subst q2
        cases hb : getB h'.blks i with
        | mp m' =>
          rw [hb] at hg
          simp only [renK, Blk.mp.injEq] at hg
          subst hg
          obtain ⟨a2, a3⟩ := hr'.mp _ _ hb
          have hi := bdB_getM k3 hb
          rw [hi] at a3
          obtain ⟨es, a1, a4⟩ := a3
          refine ⟨gown i q1 a2, ?_⟩
          rw [hi]
          exact ⟨es, by rw [rho' i q1] at a1; exact a1, a4⟩
        | dead => rw [hb] at hg; simp [renK] at hg
        | live => rw [hb] at hg; simp [renK] at hg
        | loop => rw [hb] at hg; simp [renK] at hg
      · rename_i hn
        exact (hr.mp _ _ hg).ext hxG (fun ho => ⟨rfl, foreign _ _ ho hn⟩)
  · cases o with
    | ret x =>
      cases e with
      | returned val => exact up x val hout k5
      | panicked _ => exact hout.elim
      | outgrown => exact hout.elim
    | pan x =>
      cases e with
      | panicked chain => obtain ⟨val, h1, h2⟩ := hout; exact ⟨val, h1, up x val h2 k5⟩
      | returned _ => exact hout.elim
      | outgrown => exact hout.elim
    | fin p ts => cases e <;> exact hout.elim
    | stop k t => cases e <;> exact hout.elim
    | rnd v => cases e <;> exact hout.elim

/-- What comes back as an own slice, or as the first part of one, is the next version of it. -/
theorem calls_bump {P : Program} {g : Nat} {args : List SV} {h : HS} {K K' : Out → HS → Prop} (hc : CallsS P g args h K)
    (hk : ∀ o h', K o h' → ∃ id ver ty sz N n f, ((o = .ret (.vec id ver) ∧ n = N) ∨ ∃ x, o = .ret (.vcut id ver sz 0 n x)) ∧ getV h'.vecs id = .live ver ty sz N f ∧ K' (.ret (.vec id (ver + 1))) { h' with vecs := setV h'.vecs id (.live (ver + 1) ty sz n f) }) : CallsS P g args h K' := by
  intro E w vals hr hd
  refine (hc E w vals hr hd).mono ?_
  rintro e w' ⟨o, h', E', hK, hr', hx, hout⟩
  obtain ⟨id, ver, ty, sz, N, n, f, ho, hg, hK'⟩ := hk o h' hK
  obtain ⟨hsz, ⟨a, cap, k1, k2⟩, k3⟩ := hr'.vec _ _ _ _ _ _ hg
  have hnc : N ≤ cap := by
    rcases k2 with ⟨_, h1, h2⟩ | ⟨g1, o, cur, _, h2, _⟩ <;> omega
  rcases ho with ⟨rfl, rfl⟩ | ⟨x, rfl⟩
  · cases e with
    | panicked _ => exact hout.elim
    | outgrown => exact hout.elim
    | returned val =>
      cases hout
      rename_i a1 n1 cap1 hid hval
      rw [k1] at hval
      cases hval
      obtain ⟨q1, q2⟩ := cut_ok hr' hg k1 (Nat.le_refl n) hnc (Nat.le_refl cap)
      exact ⟨_, _, _, hK', q2, hx.trans q1, .vec (by simp only [Env.bump]; exact hid) (by simp [Env.bump])⟩
  · cases e with
    | panicked _ => exact hout.elim
    | outgrown => exact hout.elim
    | returned val =>
      obtain ⟨a1, a2, N1, cap1, rfl, hid, hval, hn, hc1, ha, h0, hA, hB⟩ := Den.vcut_inv hout
      rw [k1] at hval
      cases hval
      obtain rfl := h0 rfl
      simp only [Nat.zero_add] at hn
      obtain ⟨q1, q2⟩ := cut_ok hr' hg k1 (n := n) (c := if x then n else cap) hn (by cases x <;> simp <;> omega) (by cases x <;> simp <;> omega)
      refine ⟨_, _, _, hK', q2, hx.trans q1, ?_⟩
      have : (.slice a2 n ((if x = true then 0 + n else cap) - 0) : Value) = .slice a2 n (if x then n else cap) := by cases x <;> simp
      rw [this]
      exact .vec (by simp only [Env.bump]; exact hid) (by simp [Env.bump])
end Go.Eng
end
