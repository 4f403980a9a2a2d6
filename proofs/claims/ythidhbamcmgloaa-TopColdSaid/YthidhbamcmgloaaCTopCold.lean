/-
  TopCold: for every input the law returns true, and each argument reads afterwards as it read before. No condition.
-/
import Derived.Test.YthidhbamcmgloaaRows
import Derived.WalkKit
import Derived.Test.YthidhbamcmgloaaX5
set_option linter.unusedSimpArgs false
set_option linter.unusedVariables false
/- Conditions of results, reckoned. -/
section
namespace Go.Eng
open Go.RowKit
set_option linter.unusedVariables false

/-- What a result asks. -/
def cnd : Res → Prop
  | .val p _ _ => p
  | .skip p _ => p
  | .callN p _ _ _ => p
  | .pick c _ _ _ _ _ _ => c
  | _ => True
/-- Memory is what it was. -/
def same (h : HS) : Res → Prop
  | .val _ _ h' => h' = h
  | _ => True

/-- Of the two values it is the second. -/
def nfk : Res → Prop
  | .fork p _ _ _ => ¬ p
  | _ => True
def nfNil (h : HS) (a : SV) : Bool :=
  match a with
  | .row n _ _ => !decide (n = 0)
  | .vec id ver => match getV h.vecs id with
    | .live ver' _ _ n _ => decide (ver = ver') && !decide (n = 0)
    | .dead => true
  | .vcut id ver _ _ n _ => match getV h.vecs id with
    | .live ver' _ _ N _ => decide (ver = ver') && (!decide (n = 0) && !decide (N = 0))
    | .dead => true
  | _ => true
theorem nfNil_ok {ti : Option TI} {op : BinOp} {a : SV} {h : HS} (hd : nfNil h a = true) : nfk (rEqNil ti op a h) := by
  unfold rEqNil
  split
  · split
    · split <;> (try trivial)
      · simpa [nfk, nfNil] using hd
      · simpa [nfk, nfNil] using hd
      · unfold vNil
        split
        · rename_i hv; simp only [nfNil, hv, Bool.and_eq_true, decide_eq_true_eq, Bool.not_eq_true', decide_eq_false_iff_not] at hd; rw [hv]; intro hp; have := hp hd.1; simp only [nOf] at this; omega
        · trivial
      · unfold vNil
        split
        · rename_i hv; simp only [nfNil, hv, Bool.and_eq_true, decide_eq_true_eq, Bool.not_eq_true', decide_eq_false_iff_not] at hd; rw [hv]; intro hp; have := hp hd.1; simp only [nOf] at this; omega
        · trivial
      · unfold vNil
        split
        · rename_i hv; simp only [nfNil, hv, Bool.and_eq_true, decide_eq_true_eq, Bool.not_eq_true', decide_eq_false_iff_not] at hd; intro hp; have := hp hd.1; omega
        · trivial
      · unfold vNil
        split
        · rename_i hv; simp only [nfNil, hv, Bool.and_eq_true, decide_eq_true_eq, Bool.not_eq_true', decide_eq_false_iff_not] at hd; intro hp; have := hp hd.1; omega
        · trivial
    · trivial
  · trivial
def dBin (op : BinOp) (a b : SV) : Bool :=
  match op, a, b with
  | .quo, .int _ _, .int _ y => !decide (y = 0)
  | .rem, .int _ _, .int _ y => !decide (y = 0)
  | .shr, .int _ _, .int _ y => decide (0 ≤ y)
  | _, _, _ => true
theorem dBin_ok {op : BinOp} {a b : SV} {h : HS} (hd : dBin op a b = true) : cnd (rBin op a b h) := by
  unfold rBin
  split <;> (try split) <;> first | trivial | (simpa [cnd, dBin] using hd)
theorem neO_c {op : BinOp} {q : Bool} {h : HS} : cnd (neO op q h) ∧ same h (neO op q h) := by
  unfold neO; split <;> first | exact ⟨trivial, rfl⟩ | exact ⟨trivial, trivial⟩
theorem rBin_s {op : BinOp} {a b : SV} {h : HS} : same h (rBin op a b h) := by
  unfold rBin; split <;> (try split) <;> first | rfl | trivial
theorem rEqA_c {ti : Option TI} {op : BinOp} {l m : List SV} {h : HS} : cnd (rEqA ti op l m h) ∧ same h (rEqA ti op l m h) := by
  unfold rEqA; repeat' split
  all_goals first | exact neO_c | exact ⟨trivial, trivial⟩
theorem rEqB_c {ti : Option TI} {op : BinOp} {x y : Bool} {h : HS} : cnd (rEqB ti op x y h) ∧ same h (rEqB ti op x y h) := by
  unfold rEqB; repeat' split
  all_goals first | exact neO_c | exact ⟨trivial, trivial⟩
theorem rEqI_c {ti : Option TI} {op : BinOp} {q : Bool} {h : HS} : cnd (rEqI ti op q h) ∧ same h (rEqI ti op q h) := by
  unfold rEqI; repeat' split
  all_goals first | exact neO_c | exact ⟨trivial, trivial⟩
theorem rEqF_c {ti : Option TI} {op : BinOp} {q : Bool} {h : HS} : cnd (rEqF ti op q h) ∧ same h (rEqF ti op q h) := by
  unfold rEqF; repeat' split
  all_goals first | exact neO_c | exact ⟨trivial, trivial⟩
theorem rEqNil_c {ti : Option TI} {op : BinOp} {a : SV} {h : HS} : cnd (rEqNil ti op a h) ∧ same h (rEqNil ti op a h) := by
  unfold rEqNil vNil; repeat' split
  all_goals first | exact ⟨trivial, rfl⟩ | exact ⟨trivial, trivial⟩
theorem rBin2_c {ti : Option TI} {c : Bool} {op : BinOp} {a b : SV} {h : HS} (hd : dBin op a b = true) : cnd (rBin2 ti c op a b h) := by
  unfold rBin2; repeat' split
  all_goals first | exact dBin_ok hd | exact rEqA_c.1 | exact rEqB_c.1 | exact rEqI_c.1 | exact rEqF_c.1 | trivial
theorem rBin2_s {ti : Option TI} {c : Bool} {op : BinOp} {a b : SV} {h : HS} : same h (rBin2 ti c op a b h) := by
  unfold rBin2; repeat' split
  all_goals first | exact rBin_s | exact rEqA_c.2 | exact rEqB_c.2 | exact rEqI_c.2 | exact rEqF_c.2 | trivial
def dBin3 (op : BinOp) (nl : Bool) (a b : SV) : Bool := match nl with
  | true => true
  | false => dBin op a b
theorem rBin3_c {ti : Option TI} {c nl : Bool} {op : BinOp} {a b : SV} {h : HS} (hd : dBin3 op nl a b = true) : cnd (rBin3 ti c op nl a b h) := by
  unfold rBin3; split
  · exact rEqNil_c.1
  · exact rBin2_c hd
theorem rBin3_s {ti : Option TI} {c nl : Bool} {op : BinOp} {a b : SV} {h : HS} : same h (rBin3 ti c op nl a b h) := by
  unfold rBin3; split
  · exact rEqNil_c.2
  · exact rBin2_s

def dLoad (ti : TI) (h : HS) (addr : SV) : Bool :=
  match addr with
  | .ptr nm off => match getB h.blks nm with
    | .live _ cells => decide (off + ti.size ≤ lenS cells)
    | _ => true
  | .rptr sz f => decide (ti.size ≤ sz)
  | .vptr id ver sz i off => match getV h.vecs id with
    | .live ver' _ sz' n f => decide (ver = ver') && decide (sz = sz') && decide (i < n) && decide (off + ti.size ≤ sz)
    | .dead => true
  | _ => true
theorem dLoad_ok {ti : TI} {h : HS} {x : SV} (hd : dLoad ti h x = true) : cnd (rLoad ti h x) := by
  unfold dLoad at hd; unfold rLoad
  split
  · split
    · rename_i hb; simpa [cnd, hb] using hd
    · trivial
  · simpa [cnd] using hd
  · split
    · rename_i hb; simpa [cnd, hb, and_assoc] using hd
    · trivial
  · trivial
theorem rLoad_s {ti : TI} {h : HS} {x : SV} : same h (rLoad ti h x) := by
  unfold rLoad; repeat' split
  all_goals first | rfl | trivial
def dStore (ti : TI) (h : HS) (addr v : SV) : Bool :=
  match cellsOf v with
  | none => true
  | some l => match addr with
    | .ptr nm off => match getB h.blks nm with
      | .live ty cells => decide (lenS l = ti.size) && decide (off + ti.size ≤ lenS cells)
      | _ => true
    | .vptr id ver sz i off => match getV h.vecs id with
      | .live ver' ty sz' n f => decide (lenS l = ti.size) && decide (ver = ver') && decide (sz = sz') && decide (i < n) && decide (off + ti.size ≤ sz)
      | .dead => true
    | _ => true
theorem dStore_ok {ti : TI} {h : HS} {x y : SV} (hd : dStore ti h x y = true) : cnd (rStore ti h x y) := by
  unfold dStore at hd; unfold rStore
  split
  · trivial
  · rename_i hc
    simp only [hc] at hd
    split
    · split
      · rename_i hb; simpa [cnd, hb] using hd
      · trivial
    · split
      · rename_i hb; simpa [cnd, hb, and_assoc] using hd
      · trivial
    · trivial
def dField (ti : TI) (x : SV) (k : Nat) : Bool :=
  match ti.kind with
  | .struct offs => match nthO offs k with
    | some (o, _) => match x with
      | .rptr sz f => decide (o ≤ sz)
      | _ => true
    | none => true
  | _ => true
theorem dField_ok {ti : TI} {h : HS} {x : SV} {k : Nat} (hd : dField ti x k = true) : cnd (rField ti h x k) := by
  unfold dField at hd; unfold rField
  split
  · rename_i hk
    split
    · rename_i hn
      simp only [hk, hn] at hd
      split
      · trivial
      · simpa [cnd] using hd
      · trivial
      · trivial
    · trivial
  · trivial
theorem rField_s {ti : TI} {h : HS} {x : SV} {k : Nat} : same h (rField ti h x k) := by
  unfold rField; repeat' split
  all_goals first | rfl | trivial
def dIndex (ti : TI) (se : Nat) (h : HS) (x idx : SV) : Bool :=
  match ti.kind, x, idx with
  | .slice _, .row n sz f, .int _ i => decide (se = sz) && decide (0 ≤ i) && decide (i < (n : Int))
  | .slice _, .vec id ver, .int _ i => match getV h.vecs id with
    | .live ver' _ sz n _ => decide (ver = ver') && decide (se = sz) && decide (0 ≤ i) && decide (i < (n : Int))
    | .dead => true
  | .array n _, .ptr nm off, .int _ i => decide (0 ≤ i) && decide (i < (n : Int))
  | .slice _, .vcut id ver sz lo n _, .int _ i => match getV h.vecs id with
    | .live ver' _ sz' _ _ => decide (ver = ver') && decide (sz = sz') && decide (se = sz) && decide (0 ≤ i) && decide (i < (n : Int))
    | .dead => true
  | .slice _, .bsl nm off n, .int _ i => decide (se = 1) && decide (0 ≤ i) && decide (i < (n : Int))
  | _, _, _ => true
theorem dIndex_ok {ti : TI} {se : Nat} {h : HS} {x idx : SV} (hd : dIndex ti se h x idx = true) : cnd (rIndex ti se h x idx) := by
  unfold rIndex
  split
  · rename_i hk; simpa [cnd, dIndex, hk, and_assoc] using hd
  · rename_i hk
    split
    · rename_i hb; simpa [cnd, dIndex, hk, hb, and_assoc] using hd
    · trivial
  · rename_i hk; simpa [cnd, dIndex, hk, and_assoc] using hd
  · rename_i hk
    split
    · rename_i hb; simpa [cnd, dIndex, hk, hb, and_assoc] using hd
    · trivial
  · rename_i hk; simpa [cnd, dIndex, hk, and_assoc] using hd
  · trivial
theorem rIndex_s {ti : TI} {se : Nat} {h : HS} {x idx : SV} : same h (rIndex ti se h x idx) := by
  unfold rIndex; repeat' split
  all_goals first | rfl | trivial
theorem lenI_c {es : List (List Int × List Int)} {h : HS} {o : Option (Nat × Nat × List Nat)} : cnd (lenI es h o) ∧ same h (lenI es h o) := by
  unfold lenI; split <;> first | exact ⟨trivial, rfl⟩ | exact ⟨trivial, trivial⟩
def dLen (ti : TI) (h : HS) (x : SV) : Bool :=
  match ti.kind, x with
  | .slice _, .vec id ver => match getV h.vecs id with
    | .live ver' _ _ n _ => decide (ver = ver')
    | .dead => true
  | _, _ => true
theorem dLen_ok {ti : TI} {h : HS} {x : SV} (hd : dLen ti h x = true) : cnd (rLen ti h x) := by
  unfold rLen
  split <;> (try trivial)
  · rename_i hk
    split
    · rename_i hb; simpa [cnd, dLen, hk, hb] using hd
    · trivial
  · split <;> first | exact lenI_c.1 | trivial
theorem rLen_s {ti : TI} {h : HS} {x : SV} : same h (rLen ti h x) := by
  unfold rLen; repeat' split
  all_goals first | rfl | exact lenI_c.2 | trivial
def dFill (place : Nat → Option (Nat × Nat)) : List (Nat × SV) → List SV → Bool
  | [], cells => true
  | (i, x) :: r, cells => match place i, cellsOf x with
    | some (off, size), some l => decide (lenS l = size) && decide (off + size ≤ lenS cells) && dFill place r (over cells off l)
    | _, _ => true
theorem dFill_ok {place : Nat → Option (Nat × Nat)} : ∀ {ps : List (Nat × SV)} {cells : List SV} {p : Prop} {c : List SV}, dFill place ps cells = true → fillS place ps cells = some (p, c) → p
  | [], cells, p, c, _, h => by simp only [fillS, Option.some.injEq, Prod.mk.injEq] at h; exact h.1 ▸ trivial
  | (i, x) :: r, cells, p, c, hd, h => by
    simp only [fillS] at h
    simp only [dFill] at hd
    split at h
    · rename_i off size l h1 h2
      simp only [h1, h2, Bool.and_eq_true, decide_eq_true_eq] at hd
      split at h
      · rename_i p' c' h3
        simp only [Option.some.injEq, Prod.mk.injEq] at h
        exact h.1 ▸ ⟨hd.1, dFill_ok hd.2 h3⟩
      · cases h
    · cases h
def dBuild (ti : TI) (se : Nat) (ps : List (Nat × SV)) : Bool :=
  match ti.kind with
  | .struct offs => dFill (placeS offs) ps (zcs ti.zero)
  | .array _ _ => dFill (placeA se) ps (zcs ti.zero)
  | _ => true
theorem fin2_c {place : Nat → Option (Nat × Nat)} {ps : List (Nat × SV)} {cells : List SV} {h : HS} (hd : dFill place ps cells = true) : cnd (fin2 (fillS place ps cells) h) := by
  unfold fin2
  split
  · rename_i hf; exact dFill_ok hd hf
  · trivial
theorem dBuild_ok {ti : TI} {se : Nat} {ps : List (Nat × SV)} {h : HS} (hd : dBuild ti se ps = true) : cnd (rBuild ti se ps h) := by
  unfold dBuild at hd; unfold rBuild
  split
  · rename_i hk; rw [hk] at hd; exact fin2_c hd
  · rename_i hk; rw [hk] at hd; exact fin2_c hd
  · trivial
theorem rBuild_same {ti : TI} {se : Nat} {ps : List (Nat × SV)} {h : HS} : same h (rBuild ti se ps h) := by
  unfold rBuild fin2; repeat' split
  all_goals first | rfl | trivial
def dBuildSlice (te : TI) (len : Nat) (ps : List (Nat × SV)) : Bool :=
  match len, ps with
  | 0, [] => decide (0 < te.size)
  | _, _ => dFill (placeA te.size) ps (repZ (zcs te.zero) len) && decide (0 < te.size) && decide (0 < len) && decide (len * te.size ≤ 16777216)
theorem dBuildSlice_ok {e : TypeId} {te : TI} {len : Nat} {ps : List (Nat × SV)} {h : HS} (hd : dBuildSlice te len ps = true) : cnd (rBuildSlice e te len ps h) := by
  unfold rBuildSlice
  split
  · simpa [cnd, dBuildSlice] using hd
  · rename_i hne
    unfold dBuildSlice at hd
    split at hd
    · exact (hne rfl rfl).elim
    · simp only [Bool.and_eq_true, decide_eq_true_eq] at hd
      unfold fin3
      split
      · rename_i hf; exact ⟨dFill_ok hd.1.1.1 hf, hd.1.1.2, hd.1.2, hd.2⟩
      · trivial
def dExtract (x : SV) (i : Nat) : Bool := match x with
  | .tup l => decide (i < lenS l)
  | _ => true
theorem dExtract_ok {x : SV} {i : Nat} {h : HS} (hd : dExtract x i = true) : cnd (rExtract x i h) := by
  unfold rExtract; split
  · simpa [cnd, dExtract] using hd
  · trivial
def dSlice (ti : TI) (x : SV) (lo hi : Option SV) : Bool :=
  match ti.kind, x, lo, hi with
  | .slice _, .row n sz f, some (.int _ l), some (.int _ u) => decide (0 ≤ l) && decide (l ≤ u) && decide (u ≤ (n : Int))
  | .slice _, .row n sz f, some (.int _ l), none => decide (0 ≤ l) && decide (l ≤ (n : Int))
  | .slice _, .row n sz f, none, some (.int _ u) => decide (0 ≤ u) && decide (u ≤ (n : Int))
  | _, _, _, _ => true
theorem dSlice_ok {ti : TI} {x : SV} {lo hi : Option SV} {h : HS} (hd : dSlice ti x lo hi = true) : cnd (rSlice ti x lo hi h) := by
  unfold rSlice
  split
  · rename_i hk; simpa [cnd, dSlice, hk, and_assoc] using hd
  · rename_i hk; simpa [cnd, dSlice, hk, and_assoc] using hd
  · rename_i hk; simpa [cnd, dSlice, hk, and_assoc] using hd
  · trivial
def dSrc (h : HS) : SV → Bool
  | .vec id ver => match getV h.vecs id with
    | .live ver' _ _ _ _ => decide (ver = ver')
    | .dead => true
  | .vcut id ver sz lo n _ => match getV h.vecs id with
    | .live ver' _ sz' _ _ => decide (ver = ver') && decide (sz = sz')
    | .dead => true
  | .bsl nm off n => match getB h.blks nm with
    | .live _ cells => decide (off + n ≤ lenS cells)
    | _ => true
  | _ => true
theorem dSrc_ok {h : HS} {x : SV} {p : Prop} {q : Nat × Nat × (Nat → Nat → SV)} (hd : dSrc h x = true) (hs : srcOf h x = some (p, q)) : p := by
  unfold dSrc at hd
  unfold srcOf at hs
  split at hs
  · cases hs; trivial
  · unfold srcV at hs
    split at hs
    · rename_i hb; cases hs; simpa [hb] using hd
    · cases hs
  · unfold srcC at hs
    split at hs
    · rename_i hb; cases hs; simpa [hb] using hd
    · cases hs
  · unfold srcB at hs
    split at hs
    · rename_i hb; cases hs; simpa [hb] using hd
    · cases hs
  · cases hs; trivial
  · cases hs
def dAp (e : TypeId) (te : TI) (ver ver' e' sz n : Nat) (lo0 : Bool) (s : Option (Prop × Nat × Nat × (Nat → Nat → SV))) : Bool := match s with
  | some (_, m, sz', _) => decide (ver = ver') && decide (e = e') && decide (sz = te.size) && decide (sz' = sz) && lo0 && decide (((n + m : Nat) : Int) * (te.bytes : Int) ≤ 140737488355328) && decide (((n + m : Nat) : Int) ≤ 9223372036854775807)
  | none => true
def dPos (s : Option (Prop × Nat × Nat × (Nat → Nat → SV))) : Bool := match s with
  | some (_, m, _, _) => decide (0 < m)
  | none => true
def dAppend (e : TypeId) (te : TI) (s x : SV) (h : HS) : Bool :=
  dSrc h x && match s with
  | .vec id ver => match getV h.vecs id with
    | .live ver' e' sz n f => dAp e te ver ver' e' sz n true (srcOf h x)
    | .dead => true
  | .vcut id ver sz lo n x1 => match getV h.vecs id with
    | .live ver' e' sz2 _ f => dAp e te ver ver' e' sz n (decide (sz2 = sz) && (decide (lo = 0) || (x1 && dPos (srcOf h x)))) (srcOf h x)
    | .dead => true
  | .nils e' sz => dAp e te 0 0 e' sz 0 true (srcOf h x)
  | _ => true
theorem dAppend_ok {e : TypeId} {te : TI} {s x : SV} {h : HS} (hd : dAppend e te s x h = true) : cnd (rAppend e te s x h) := by
  unfold dAppend at hd
  rw [Bool.and_eq_true] at hd
  obtain ⟨h1, h2⟩ := hd
  have hp : ∀ p q, srcOf h x = some (p, q) → p := fun p q hs => dSrc_ok h1 hs
  unfold rAppend
  split
  · unfold apV
    split
    · rename_i hv hs
      have := hp _ _ hs
      simp only [hv, hs, dAp, Bool.and_eq_true, decide_eq_true_eq] at h2
      simp only [cnd]
      exact ⟨this, h2.1.1.1.1.1.1, h2.1.1.1.1.1.2, h2.1.1.1.1.2, h2.1.1.1.2, h2.1.2, h2.2⟩
    · trivial
  · unfold apCX
    split
    · unfold apX
      split
      · rename_i hv hs
        have := hp _ _ hs
        simp only [hv, hs, dAp, dPos, Bool.and_eq_true, Bool.or_eq_true, decide_eq_true_eq] at h2
        simp only [cnd]
        obtain ⟨⟨⟨⟨⟨⟨a1, a2⟩, a3⟩, a4⟩, a5, a6⟩, a7⟩, a8⟩ := h2
        refine ⟨this, ?_, a1, a2, a3, a5, a4, a7, a8⟩
        rcases a6 with a6 | a6
        · omega
        · exact a6.2
      · trivial
    · rename_i hne
      unfold apC
      split
      · rename_i hv hs
        have := hp _ _ hs
        simp only [hv, hs, dAp, dPos, Bool.and_eq_true, Bool.or_eq_true, decide_eq_true_eq] at h2
        simp only [cnd]
        obtain ⟨⟨⟨⟨⟨⟨a1, a2⟩, a3⟩, a4⟩, a5, a6⟩, a7⟩, a8⟩ := h2
        refine ⟨this, a1, a2, a3, a5, a4, ?_, a7, a8⟩
        rcases a6 with a6 | a6
        · exact a6
        · skip
          exact Decidable.byContradiction fun h0 => hne _ (Nat.succ_pred_eq_of_ne_zero h0).symm a6.1
      · trivial
  · unfold apN
    split
    · rename_i hs
      have := hp _ _ hs
      simp only [hs, dAp, Bool.and_eq_true, decide_eq_true_eq] at h2
      simp only [cnd]
      exact ⟨this, h2.1.1.1.1.1.2, h2.1.1.1.1.2, h2.1.1.1.2, h2.1.2, h2.2⟩
    · trivial
  · trivial
def dCut (n : Nat) (l u : Option Int) (mx : Option SV) : Bool :=
  match l, u with
  | some l, some u => (match mx with
    | some (.int _ m) => decide (m = u)
    | _ => true) && decide (0 ≤ l) && decide (l ≤ u) && decide (u ≤ (n : Int))
  | _, _ => true
theorem dCut_ok {p : Prop} {id ver sz lo n : Nat} {h : HS} {l u : Option Int} {mx : Option SV} (hp : p) (hd : dCut n l u mx = true) : cnd (cutR p id ver sz lo n h l u mx) := by
  unfold cutR
  split
  · rename_i l u
    simp only [dCut, Bool.and_eq_true, decide_eq_true_eq] at hd
    obtain ⟨⟨⟨h1, h2⟩, h3⟩, h4⟩ := hd
    unfold maxO
    split
    · rename_i q x hm
      split at hm
      · cases hm; exact ⟨hp, trivial, h2, h3, h4⟩
      · cases hm; exact ⟨hp, by simpa using h1, h2, h3, h4⟩
      · cases hm
    · trivial
  · trivial
theorem cutR_s {p : Prop} {id ver sz lo n : Nat} {h : HS} {l u : Option Int} {mx : Option SV} : same h (cutR p id ver sz lo n h l u mx) := by
  unfold cutR; repeat' split
  all_goals first | rfl | trivial
def dSliceV (se : Nat) (x : SV) (lo hi mx : Option SV) (h : HS) : Bool :=
  match x with
  | .vec id ver => match getV h.vecs id with
    | .live ver' _ sz n _ => decide (ver = ver') && decide (se = sz) && dCut n (intO 0 lo) (intO (n : Int) hi) mx
    | .dead => true
  | .vcut id ver sz lo0 n x => decide (se = sz) && dCut n (intO 0 lo) (intO (n : Int) hi) mx
  | _ => true
theorem dSliceV_ok {se : Nat} {x : SV} {lo hi mx : Option SV} {h : HS} (hd : dSliceV se x lo hi mx h = true) : cnd (rSliceV se x lo hi mx h) := by
  unfold rSliceV
  split
  · unfold sliV
    split
    · rename_i hv
      simp only [dSliceV, hv, Bool.and_eq_true, decide_eq_true_eq] at hd
      exact dCut_ok hd.1 hd.2
    · trivial
  · simp only [dSliceV, Bool.and_eq_true, decide_eq_true_eq] at hd
    unfold sliC
    split
    · trivial
    · exact dCut_ok hd.1 hd.2
  · trivial
theorem rSliceV_s {se : Nat} {x : SV} {lo hi mx : Option SV} {h : HS} : same h (rSliceV se x lo hi mx h) := by
  unfold rSliceV sliV sliC; repeat' split
  all_goals first | exact cutR_s | trivial
theorem rSlice_s {ti : TI} {x : SV} {lo hi : Option SV} {h : HS} : same h (rSlice ti x lo hi h) := by
  unfold rSlice; repeat' split
  all_goals first | rfl | trivial
def dSl (te ti : TI) (x : SV) (lo hi mx : Option SV) (h : HS) : Bool :=
  match x with
  | .row n sz f => dSlice ti (.row n sz f) lo hi
  | x => dSliceV te.size x lo hi mx h
theorem dSl_ok {te ti : TI} {g : Bool} {x : SV} {lo hi mx : Option SV} {h : HS} (hd : dSl te ti x lo hi mx h = true) : cnd (rSl te ti g x lo hi mx h) := by
  unfold rSl
  split
  · unfold rSlR
    split
    · split
      · exact dSlice_ok hd
      · trivial
    · trivial
  · unfold rSlG
    split
    · exact dSliceV_ok hd
    · trivial
  · unfold rSlG
    split
    · exact dSliceV_ok hd
    · trivial
  · trivial
theorem rSl_s {te ti : TI} {g : Bool} {x : SV} {lo hi mx : Option SV} {h : HS} : same h (rSl te ti g x lo hi mx h) := by
  unfold rSl rSlR rSlG; repeat' split
  all_goals first | exact rSlice_s | exact rSliceV_s | trivial
def dSlA (n : Nat) (te : TI) (x : SV) (lo hi mx : Option SV) : Bool :=
  match intO (n : Int) hi with
  | some u => decide (te.size = 1) && decide (0 ≤ u) && decide (u ≤ (n : Int))
  | none => true
theorem dSlA_ok {n : Nat} {te : TI} {x : SV} {lo hi mx : Option SV} {h : HS} (hd : dSlA n te x lo hi mx = true) : cnd (rSlA n te x lo hi mx h) := by
  unfold rSlA
  split
  · split
    · rename_i hi; simpa [cnd, dSlA, hi, and_assoc] using hd
    · trivial
  · trivial
theorem rSlA_s {n : Nat} {te : TI} {x : SV} {lo hi mx : Option SV} {h : HS} : same h (rSlA n te x lo hi mx h) := by
  unfold rSlA; repeat' split
  all_goals first | rfl | trivial
def dClear (te : TI) (x : SV) (h : HS) : Bool :=
  match x with
  | .vec id ver => match getV h.vecs id with
    | .live ver' _ sz _ _ => decide (ver = ver') && decide (te.size = sz)
    | .dead => true
  | .vcut id ver sz lo n _ => match getV h.vecs id with
    | .live ver' _ sz' _ _ => decide (ver = ver') && decide (sz = sz') && decide (te.size = sz)
    | .dead => true
  | _ => true
theorem dClear_ok {te : TI} {x : SV} {h : HS} (hd : dClear te x h = true) : cnd (rClear te x h) := by
  unfold rClear
  split
  · unfold clrW
    split
    · rename_i hv; simpa [cnd, dClear, hv, and_assoc] using hd
    · trivial
  · unfold clrV
    split
    · rename_i hv; simpa [cnd, dClear, hv, and_assoc] using hd
    · trivial
  · trivial
def dCopy (te : TI) (d s : SV) (h : HS) : Bool :=
  dSrc h s && match d, srcOf h s with
  | .bsl nm off n, some (_, m, sz, _) => (match getB h.blks nm with
    | .live _ cells => decide (sz = 1) && decide (off + min m n ≤ lenS cells)
    | _ => true)
  | .vec id ver, some (_, m, sz, _) => (match getV h.vecs id with
    | .live ver' _ sz' _ _ => decide (ver = ver') && decide (sz = sz') && decide (te.size = sz')
    | .dead => true)
  | _, _ => true
theorem dCopy_ok {te : TI} {d s : SV} {h : HS} (hd : dCopy te d s h = true) : cnd (rCopy te d s h) := by
  unfold dCopy at hd
  rw [Bool.and_eq_true] at hd
  obtain ⟨h1, h2⟩ := hd
  have hp : ∀ p q, srcOf h s = some (p, q) → p := fun p q hs => dSrc_ok h1 hs
  unfold rCopy
  split
  · split
    · unfold cpyB
      split
      · rename_i hb hs
        have := hp _ _ hs
        simp only [hb, hs, Bool.and_eq_true, decide_eq_true_eq] at h2
        exact ⟨this, h2⟩
      · trivial
    · trivial
  · unfold cpyV
    split
    · rename_i hv hs
      have := hp _ _ hs
      simp only [hv, hs, Bool.and_eq_true, decide_eq_true_eq] at h2
      exact ⟨this, h2.1.1, h2.1.2, h2.2⟩
    · trivial
  · trivial
def dMake (te : TI) (l c : SV) : Bool :=
  match l, c with
  | .int _ l, .int _ c => decide (l = c) && decide (0 < te.size) && decide (0 ≤ l) && decide ((te.bytes : Int) * l ≤ 281474976710656) && decide (l ≤ 9223372036854775807)
  | _, _ => true
theorem dMake_ok {e : TypeId} {te : TI} {l c : SV} {h : HS} (hd : dMake te l c = true) : cnd (rMake e te l c h) := by
  unfold rMake
  split
  · simpa [cnd, dMake, and_assoc] using hd
  · trivial
def dIdx (n : Nat) (te : TI) (x idx : SV) : Bool :=
  match x, idx with
  | .agg l, .int _ i => decide (0 ≤ i) && decide (i < (n : Int)) && decide (i.toNat < lenS l) && decide (te.size = 1)
  | _, _ => true
theorem dIdx_ok {n : Nat} {te : TI} {x idx : SV} {h : HS} (hd : dIdx n te x idx = true) : cnd (rIdx n te x idx h) := by
  unfold rIdx
  split
  · split
    · trivial
    · simpa [cnd, dIdx, and_assoc] using hd
  · trivial
theorem rIdx_s {n : Nat} {te : TI} {x idx : SV} {h : HS} : same h (rIdx n te x idx h) := by
  unfold rIdx; repeat' split
  all_goals first | rfl | trivial
def dFld (ti : TI) (x : SV) (k : Nat) : Bool :=
  match ti.kind with
  | .struct offs => match nthO offs k with
    | some (o, s) => match x with
      | .agg l => decide (o + s ≤ lenS l)
      | _ => true
    | none => true
  | _ => true
theorem dFld_ok {ti : TI} {x : SV} {k : Nat} {h : HS} (hd : dFld ti x k = true) : cnd (rFld ti x k h) := by
  unfold dFld at hd; unfold rFld
  split
  · rename_i hk
    split
    · rename_i hn
      simp only [hk, hn] at hd
      split
      · simpa [cnd] using hd
      · trivial
    · trivial
  · trivial
theorem rFld_same {ti : TI} {x : SV} {k : Nat} {h : HS} : same h (rFld ti x k h) := by
  unfold rFld; repeat' split
  all_goals first | rfl | trivial
def dNext (h : HS) (x : SV) : Bool :=
  match x with
  | .ptr nm 0 => match getB h.blks nm with
    | .mp m => match m.it with
      | some (mnm, since, _) => match getB h.blks mnm with
        | .mp mm => decide (since = lenM mm.es)
        | _ => true
      | none => true
    | _ => true
  | _ => true
theorem dNext_ok {h : HS} {x : SV} (hd : dNext h x = true) : cnd (rNext x h) := by
  unfold rNext
  split
  rotate_left
  · trivial
  unfold rNextI
  split
  rotate_left
  · trivial
  rename_i hb
  unfold rNextM
  split
  rotate_left
  · trivial
  rename_i hm
  simpa [cnd, dNext, hb, hm] using hd
def dEntry (h : HS) (x : SV) : Bool :=
  match x with
  | .ptr nm 0 => match getB h.blks nm with
    | .mp m => match m.it with
      | some (mnm, since, i :: _) => match getB h.blks mnm with
        | .mp mm => decide (since = lenM mm.es) && decide (i < since)
        | _ => true
      | _ => true
    | _ => true
  | _ => true
theorem dEntry_ok {h : HS} {x : SV} (hd : dEntry h x = true) : cnd (rEntry x h) := by
  unfold rEntry
  split
  rotate_left
  · trivial
  unfold rEntI
  split
  rotate_left
  · trivial
  rename_i hb
  unfold rEntM
  split
  rotate_left
  · trivial
  rename_i hm
  simpa [cnd, dEntry, hb, hm] using hd
theorem rRange_c {ti : TI} {x : SV} {h : HS} : cnd (rRange ti x h) := by
  unfold rRange rRangeM; repeat' split
  all_goals trivial
end Go.Eng
end

/- Conditions of operations, reckoned. -/
section
namespace Go.Eng
open Go.RowKit
set_option linter.unusedVariables false

section
variable (T : Nat → Option TI) (F : Nat → Bool) (t : List SV) (h : HS)
def dMove (ty : TypeId) (x : Operand) : Bool :=
  match isNilSl x with
  | true => match T ty with
    | some ti => match ti.kind with
      | .slice e => match T e with
        | some te => decide (0 < te.size)
        | none => true
      | _ => true
    | none => true
  | false => true
def dStoreN (ti : TI) (x : SV) (b : Bool) (y : SV) : Bool :=
  match b with
  | false => match hasSl ti.zero with
    | true => dStore ti (ownS y h).2 x (ownS y h).1
    | false => dStore ti h x y
  | true => match ti.kind with
    | .slice e => match T e with
      | some te => decide (0 < te.size) && dStore ti { h with vecs := snocV h.vecs (.live 0 e te.size 0 (fun _ _ => .any)) } x (.vec (lenV h.vecs) 0)
      | none => true
    | _ => dStore ti h x y
def elT (ty : TypeId) : Option TI := match T ty with
  | some ti => match ti.kind with
    | .slice e => T e
    | _ => none
  | none => none
def elS (ty : TypeId) : TypeId := match T ty with
  | some ti => match ti.kind with
    | .slice e => e
    | _ => 0
  | none => 0
def dBuiltin (b : Builtin) (tys : List TypeId) (args : List SV) : Bool :=
  match b, tys, args with
  | .len, [ty], [x] => match T ty with
    | some ti => dLen ti h x
    | none => true
  | .append, [ty, ty'], [s, x] => match elT T ty with
    | some te => dAppend (elS T ty) te s x h
    | none => true
  | .clear, [ty], [x] => match elT T ty with
    | some te => dClear te x h
    | none => true
  | .copy, [ty, ty'], [d, s] => match elT T ty with
    | some te => dCopy te d s h
    | none => true
  | _, _, _ => true
def dCallN (n : Option (TypeId × Nat)) : Bool := match n with
  | none => true
  | some (_, sz) => decide (0 < sz)
def dOp (o : Oper) : Bool :=
  match o.op with
  | .move x => dMove T o.type x
  | .assign x => dMove T o.type x
  | .build ty ps => match T ty with
    | some ti => match ti.kind with
      | .array _ e => match T e with
        | some te => dBuild ti te.size (evP t ps.toList)
        | none => true
      | _ => dBuild ti 0 (evP t ps.toList)
    | none => true
  | .buildSlice ty len ps => match elT T ty with
    | some te => dBuildSlice te len (evP t ps.toList)
    | none => true
  | .load ty x => match T ty with
    | some ti => dLoad ti h (ev t x)
    | none => true
  | .store ty x y => match T ty with
    | some ti => dStoreN T h ti (ev t x) (isNilSl y) (ev t y)
    | none => true
  | .binOp op ty x y _ => dBin3 op (isNilSl y) (ev t x) (ev t y)
  | .makeSlice ty l c => match elT T ty with
    | some te => dMake te (ev t l) (ev t c)
    | none => true
  | .slice ty x lo hi mx => match T ty with
    | some ti => match ti.kind with
      | .slice e => match T e with
        | some te => dSl te ti (ev t x) (evO t lo) (evO t hi) (evO t mx) h
        | none => true
      | .array n e => match T e with
        | some te => dSlA n te (ev t x) (evO t lo) (evO t hi) (evO t mx)
        | none => true
      | _ => true
    | none => true
  | .fieldAddr ty x k => match T ty with
    | some ti => dField ti (ev t x) k
    | none => true
  | .indexAddr ty x y => match T ty with
    | some ti => match ti.kind with
      | .slice e => match T e with
        | some te => dIndex ti te.size h (ev t x) (ev t y)
        | none => true
      | .array _ e => match T e with
        | some te => dIndex ti te.size h (ev t x) (ev t y)
        | none => true
      | _ => true
    | none => true
  | .extract x k => dExtract (ev t x) k
  | .next x _ => dNext h (ev t x)
  | .entry x => dEntry h (ev t x)
  | .call c => match c.callee with
    | .value f => dCallN (lastN T c.args.toList c.argTypes.toList)
    | .builtin b => dBuiltin T h b c.argTypes.toList (evL t c.args.toList)
    | _ => true
  | .field ty x k => match T ty with
    | some ti => dFld ti (ev t x) k
    | none => true
  | .index ty x y => match T ty with
    | some ti => match ti.kind with
      | .array n e => match T e with
        | some te => dIdx n te (ev t x) (ev t y)
        | none => true
      | _ => true
    | none => true
  | _ => true
def noF (o : Oper) : Bool :=
  match o.op with
  | .binOp op ty x y _ => isNilSl y && nfNil h (ev t x)
  | _ => false
def pureO (o : Oper) : Bool :=
  match o.op with
  | .move x => !isNilSl x
  | .assign x => !isNilSl x
  | .pick _ _ _ | .build _ _ | .load _ _ | .nilCheck _ | .binOp _ _ _ _ _ | .unOp _ _ _ | .convert _ _ _ | .makeInterface _ _ | .makeFunc _ _ _ | .slice _ _ _ _ _ | .fieldAddr _ _ _ | .indexAddr _ _ _ | .typeAssert _ _ _ _ | .extract _ _ | .field _ _ _ | .index _ _ _ | .lookup _ _ _ _ => true
  | .call c => match c.callee with
    | .builtin .len => true
    | .builtin .max => true
    | .builtin .min => true
    | _ => false
  | _ => false
end

section
variable {T : Nat → Option TI} {F : Nat → Bool} {t : List SV} {h : HS}
theorem rMove_not {ty : TypeId} {x : Operand} (hx : isNilSl x = false) : rMove T t h ty x = .val True (ev t x) h := by
  unfold rMove
  split
  · simp [isNilSl] at hx
  · rfl
theorem dMove_ok {ty : TypeId} {x : Operand} (hd : dMove T ty x = true) : cnd (rMove T t h ty x) := by
  unfold dMove at hd
  split at hd
  · rename_i hx
    rw [isNilSl_eq hx]
    unfold rMove
    split
    · split
      · rename_i ht
        split
        · rename_i he; simpa [cnd, ht, he] using hd
        · trivial
      · trivial
    · trivial
  · rename_i hx; rw [rMove_not hx]; trivial
theorem skipAnd_c {p : Prop} {r : Res} (hp : p) (hr : cnd r) : cnd (skipAnd p r) := by
  unfold skipAnd; split
  · exact ⟨hp, hr⟩
  · trivial
theorem dStoreN_ok {ti : TI} {x y : SV} {b : Bool} (hd : dStoreN T h ti x b y = true) : cnd (rStoreN T h ti x b y) := by
  unfold dStoreN at hd; unfold rStoreN
  cases b with
  | false =>
    simp only at hd ⊢
    unfold rStoreO
    cases hs : hasSl ti.zero with
    | true => rw [hs] at hd; exact dStore_ok hd
    | false => rw [hs] at hd; exact dStore_ok hd
  | true =>
    simp only at hd ⊢
    split
    · rename_i hk
      simp only [hk] at hd
      split
      · rename_i he
        simp only [he, Bool.and_eq_true, decide_eq_true_eq] at hd
        exact skipAnd_c hd.1 (dStore_ok hd.2)
      · trivial
    · rename_i hk
      split at hd
      · rename_i e hk2; exact (hk _ hk2).elim
      · exact dStore_ok hd
theorem elT_some {ty e : TypeId} {ti : TI} (h1 : T ty = some ti) (h2 : ti.kind = .slice e) : elT T ty = T e ∧ elS T ty = e := by
  unfold elT elS; rw [h1]; simp only [h2]; exact ⟨trivial, trivial⟩
theorem dBuiltin_ok {b : Builtin} {tys : List TypeId} {args : List SV} (hd : dBuiltin T h b tys args = true) : cnd (rBuiltin T h b tys args) := by
  unfold rBuiltin
  split
  · simp only [dBuiltin] at hd
    split
    · rename_i ht; simp only [ht] at hd; exact dLen_ok hd
    · trivial
  · simp only [dBuiltin] at hd
    split
    · split
      · rename_i ht
        obtain ⟨e1, e2⟩ := elT_some ht rfl
        rw [e1, e2] at hd
        split
        · rename_i he; simp only [he] at hd; exact dAppend_ok hd
        · trivial
      · trivial
    · trivial
  · simp only [dBuiltin] at hd
    split
    · rename_i ht
      obtain ⟨e1, e2⟩ := elT_some ht rfl
      rw [e1] at hd
      split
      · rename_i he; simp only [he] at hd; exact dClear_ok hd
      · trivial
    · trivial
  · simp only [dBuiltin] at hd
    split
    · rename_i ht
      obtain ⟨e1, e2⟩ := elT_some ht rfl
      rw [e1] at hd
      split
      · rename_i he; simp only [he] at hd; exact dCopy_ok hd
      · trivial
    · trivial
  · unfold rMax; repeat' split
    all_goals trivial
  · unfold rMin; repeat' split
    all_goals trivial
  · trivial
theorem rBuiltin_s {b : Builtin} {tys : List TypeId} {args : List SV} (hb : b = .len ∨ b = .max ∨ b = .min) : same h (rBuiltin T h b tys args) := by
  unfold rBuiltin
  rcases hb with rfl | rfl | rfl
  · repeat' split
    all_goals first | exact rLen_s | trivial | contradiction
  · split <;> first | contradiction | (unfold rMax; repeat' split) | skip
    all_goals first | rfl | trivial
  · split <;> first | contradiction | (unfold rMin; repeat' split) | skip
    all_goals first | rfl | trivial
theorem rCall_c {f : SV} {args : List SV} : cnd (rCall F h f args) := by
  unfold rCall; repeat' split
  all_goals trivial
theorem dCallN_ok {n : Option (TypeId × Nat)} {f : SV} {args : List SV} (hd : dCallN n = true) : cnd (rCallN F h n f args) := by
  unfold rCallN
  split
  · exact rCall_c
  · simp only [dCallN, decide_eq_true_eq] at hd
    split
    · split
      · exact hd
      · trivial
    · trivial
theorem rBoxO_c {o : Option TI} {e : TypeId} {y : SV} : cnd (rBoxO h o e y) := by
  have hb : ∀ (y : SV) (h : HS), cnd (rBox e y h) := fun y h => by unfold rBox; split <;> trivial
  unfold rBoxO; repeat' split
  all_goals exact hb _ _
theorem rLookup_c {tk tv : TI} {ok : Bool} {x y : SV} : cnd (rLookup tk tv ok x y h) ∧ same h (rLookup tk tv ok x y h) := by
  unfold rLookup rLookB gLook; repeat' split
  all_goals first | exact ⟨trivial, rfl⟩ | exact ⟨trivial, trivial⟩
theorem mLk_c {ok : Bool} {x y : SV} {o : Option TI} : cnd (mLk T ok x y h o) ∧ same h (mLk T ok x y h o) := by
  unfold mLk; split
  · unfold mLk2; split
    · exact rLookup_c
    · exact ⟨trivial, trivial⟩
  · exact ⟨trivial, trivial⟩
theorem mUp_c {x y z : SV} {o : Option TI} : cnd (mUp T x y z h o) := by
  unfold mUp; split
  · unfold mUp2; split
    · unfold rUpdate rUpdB; repeat' split
      all_goals trivial
    · trivial
  · trivial
theorem mMk_c {o : Option TI} : cnd (mMk T h o) := by
  unfold mMk; split
  · unfold mMk2; split
    · unfold rMakeMap mkMp; split <;> trivial
    · trivial
  · trivial
theorem rFunc_c {fn : Fn} {a b : List SV} : cnd (rFunc h fn a b) ∧ same h (rFunc h fn a b) := by
  unfold rFunc; repeat' split
  all_goals first | exact ⟨trivial, rfl⟩ | exact ⟨trivial, trivial⟩
theorem rAssert_c {ti : TI} {ty : TypeId} {x : SV} {ok : Bool} : cnd (rAssert ti ty x ok h) ∧ same h (rAssert ti ty x ok h) := by
  unfold rAssert; repeat' split
  all_goals first | exact ⟨trivial, rfl⟩ | exact ⟨trivial, trivial⟩
theorem rUn_c {op : UnOp} {x : SV} : cnd (rUn op x h) ∧ same h (rUn op x h) := by
  unfold rUn; split <;> first | exact ⟨trivial, rfl⟩ | exact ⟨trivial, trivial⟩
theorem rConv_c {ti : TI} {x : SV} : cnd (rConv ti x h) ∧ same h (rConv ti x h) := by
  unfold rConv; split <;> first | exact ⟨trivial, rfl⟩ | exact ⟨trivial, trivial⟩
theorem rIface_c {ti : TI} {ty : TypeId} {x : SV} : cnd (rIface ti ty x h) ∧ same h (rIface ti ty x h) := by
  unfold rIface; split <;> first | exact ⟨trivial, rfl⟩ | exact ⟨trivial, trivial⟩
theorem rNil_c {x : SV} : cnd (rNil h x) ∧ same h (rNil h x) := by
  unfold rNil; split <;> first | exact ⟨trivial, rfl⟩ | exact ⟨trivial, trivial⟩
theorem rPick_c {a b c : SV} : cnd (rPick h a b c) ∧ same h (rPick h a b c) := by
  unfold rPick; split <;> first | exact ⟨trivial, rfl⟩ | exact ⟨trivial, trivial⟩
theorem rExtract_s {x : SV} {i : Nat} : same h (rExtract x i h) := by
  unfold rExtract; split <;> first | rfl | trivial

theorem dOp_ok {o : Oper} (hd : dOp T t h o = true) : cnd (opRes T F t h o) := by
  obtain ⟨dst, op, type, pos, aft, guard⟩ := o
  cases op <;> simp only [opRes] <;> simp only [dOp] at hd
  case move x => exact dMove_ok hd
  case assign x => exact dMove_ok hd
  case pick => exact rPick_c.1
  case nilCheck => exact rNil_c.1
  case alloc =>
    split
    · unfold rAlloc; trivial
    · trivial
  case box => exact rBoxO_c
  case build =>
    split
    · rename_i ht
      simp only [ht] at hd
      split
      · rename_i hk
        simp only [hk] at hd
        split
        · rename_i he; simp only [he] at hd; exact dBuild_ok hd
        · trivial
      · rename_i hk
        split at hd
        · rename_i hk2; exact (hk _ _ hk2).elim
        · exact dBuild_ok hd
    · trivial
  case buildSlice =>
    split
    · rename_i ht
      obtain ⟨e1, e2⟩ := elT_some ht rfl
      rw [e1] at hd
      split
      · rename_i he; simp only [he] at hd; exact dBuildSlice_ok hd
      · trivial
    · trivial
  case load =>
    split
    · rename_i ht; simp only [ht] at hd; exact dLoad_ok hd
    · trivial
  case store =>
    split
    · rename_i ht; simp only [ht] at hd; exact dStoreN_ok hd
    · trivial
  case binOp => exact rBin3_c hd
  case unOp => exact rUn_c.1
  case convert =>
    split
    · exact rConv_c.1
    · trivial
  case makeInterface =>
    split
    · exact rIface_c.1
    · trivial
  case makeFunc => exact rFunc_c.1
  case makeSlice =>
    split
    · rename_i ht
      obtain ⟨e1, e2⟩ := elT_some ht rfl
      rw [e1] at hd
      split
      · rename_i he; simp only [he] at hd; exact dMake_ok hd
      · trivial
    · trivial
  case slice =>
    split
    · rename_i ht
      simp only [ht] at hd
      split
      · rename_i hk
        simp only [hk] at hd
        split
        · rename_i he; simp only [he] at hd; exact dSl_ok hd
        · trivial
      · rename_i hk
        simp only [hk] at hd
        split
        · rename_i he; simp only [he] at hd; exact dSlA_ok hd
        · trivial
      · trivial
    · trivial
  case fieldAddr =>
    split
    · rename_i ht; simp only [ht] at hd; exact dField_ok hd
    · trivial
  case indexAddr =>
    split
    · rename_i ht
      simp only [ht] at hd
      split
      · rename_i hk
        simp only [hk] at hd
        split
        · rename_i he; simp only [he] at hd; exact dIndex_ok hd
        · trivial
      · rename_i hk
        simp only [hk] at hd
        split
        · rename_i he; simp only [he] at hd; exact dIndex_ok hd
        · trivial
      · trivial
    · trivial
  case typeAssert =>
    split
    · exact rAssert_c.1
    · trivial
  case extract => exact dExtract_ok hd
  case call =>
    split
    · rename_i hc; simp only [hc] at hd; exact dCallN_ok hd
    · rename_i hc; simp only [hc] at hd; exact dBuiltin_ok hd
    · unfold rInv rInvT rInvG; repeat' split
      all_goals trivial
  case panic => unfold rPanic; split <;> trivial
  case makeMap ty n => cases n <;> first | exact mMk_c | trivial
  case lookup => exact mLk_c.1
  case range =>
    split
    · exact rRange_c
    · trivial
  case next x b => cases b <;> first | exact dNext_ok hd | trivial
  case entry => exact dEntry_ok hd
  case mapUpdate => exact mUp_c
  case insert => exact mUp_c
  case field =>
    unfold mFd
    split
    · rename_i ht; simp only [ht] at hd; exact dFld_ok hd
    · trivial
  case index =>
    split
    · rename_i ht
      simp only [ht] at hd
      split
      · rename_i hk
        simp only [hk] at hd
        split
        · rename_i he; simp only [he] at hd; exact dIdx_ok hd
        · trivial
      · trivial
    · trivial
  all_goals trivial
theorem noF_ok {o : Oper} (hd : noF t h o = true) : nfk (opRes T F t h o) := by
  obtain ⟨dst, op, type, pos, aft, guard⟩ := o
  cases op <;> simp only [noF] at hd <;> (try (cases hd; done))
  simp only [opRes]
  rw [Bool.and_eq_true] at hd
  unfold rBin3
  rw [hd.1]
  exact nfNil_ok hd.2
theorem pure_s {o : Oper} (hp : pureO o = true) : same h (opRes T F t h o) := by
  obtain ⟨dst, op, type, pos, aft, guard⟩ := o
  cases op <;> simp only [pureO] at hp <;> (try (cases hp; done)) <;> simp only [opRes]
  case move x => rw [rMove_not (by simpa using hp)]; rfl
  case assign x => rw [rMove_not (by simpa using hp)]; rfl
  case pick => exact rPick_c.2
  case nilCheck => exact rNil_c.2
  case build =>
    repeat' split
    all_goals first | exact rBuild_same | trivial
  case load =>
    split
    · exact rLoad_s
    · trivial
  case binOp => exact rBin3_s
  case unOp => exact rUn_c.2
  case convert =>
    split
    · exact rConv_c.2
    · trivial
  case makeInterface =>
    split
    · exact rIface_c.2
    · trivial
  case makeFunc => exact rFunc_c.2
  case slice =>
    repeat' split
    all_goals first | exact rSl_s | exact rSlA_s | trivial
  case fieldAddr =>
    split
    · exact rField_s
    · trivial
  case indexAddr =>
    repeat' split
    all_goals first | exact rIndex_s | trivial
  case typeAssert =>
    split
    · exact rAssert_c.2
    · trivial
  case extract => exact rExtract_s
  case call c =>
    obtain ⟨callee, args, tys⟩ := c
    simp only at hp
    split at hp
    · exact rBuiltin_s (.inl rfl)
    · exact rBuiltin_s (.inr (.inl rfl))
    · exact rBuiltin_s (.inr (.inr rfl))
    · cases hp
  case lookup => exact mLk_c.2
  case field =>
    unfold mFd
    split
    · exact rFld_same
    · trivial
  case index =>
    repeat' split
    all_goals first | exact rIdx_s | trivial
end
end Go.Eng
end

/- The symbolic machine as a program: a run is reckoned, loops round by round. -/
section
namespace Go.Eng
open Go.RowKit
set_option linter.unusedVariables false

def eqL (f : SV → SV → Bool) : List SV → List SV → Bool
  | [], [] => true
  | x :: l, y :: k => f x y && eqL f l k
  | _, _ => false
def svEq : Nat → SV → SV → Bool
  | 0, _, _ => false
  | n + 1, x, y => match x, y with
    | .any, .any => true
    | .int k a, .int k' b => decide (k = k') && decide (a = b)
    | .bool a, .bool b => a == b
    | .ptr a b, .ptr c d => decide (a = c) && decide (b = d)
    | .nilp, .nilp => true
    | .nils a b, .nils c d => decide (a = c) && decide (b = d)
    | .vec a b, .vec c d => decide (a = c) && decide (b = d)
    | .vptr a b c d e, .vptr a' b' c' d' e' => decide (a = a') && decide (b = b') && decide (c = c') && decide (d = d') && decide (e = e')
    | .vcut a b c d e x, .vcut a' b' c' d' e' x' => decide (a = a') && decide (b = b') && decide (c = c') && decide (d = d') && decide (e = e') && (x == x')
    | .bsl a b c, .bsl a' b' c' => decide (a = a') && decide (b = b') && decide (c = c')
    | .mapp a, .mapp b => decide (a = b)
    | .func g l, .func g' l' => decide (g = g') && eqL (svEq n) l l'
    | .nilf, .nilf => true
    | .nili, .nili => true
    | .iface a v, .iface b u => decide (a = b) && svEq n v u
    | .agg l, .agg l' => eqL (svEq n) l l'
    | .tup l, .tup l' => eqL (svEq n) l l'
    | .yield a, .yield b => decide (a = b)
    | .meth g l, .meth g' l' => decide (g = g') && eqL (svEq n) l l'
    | _, _ => false
theorem eqL_ok {f : SV → SV → Bool} (hf : ∀ x y, f x y = true → x = y) : ∀ {l k : List SV}, eqL f l k = true → l = k
  | [], [], _ => rfl
  | x :: l, y :: k, h => by
    simp only [eqL, Bool.and_eq_true] at h
    rw [hf _ _ h.1, eqL_ok hf h.2]
  | [], _ :: _, h => by simp [eqL] at h
  | _ :: _, [], h => by simp [eqL] at h
theorem svEq_ok : ∀ (n : Nat) (x y : SV), svEq n x y = true → x = y
  | 0, _, _, h => by simp [svEq] at h
  | n + 1, x, y, h => by
    have ih := svEq_ok n
    unfold svEq at h
    split at h <;> first
      | rfl
      | (cases h; done)
      | (try simp only [Bool.and_eq_true, decide_eq_true_eq, beq_iff_eq] at h
         simp only [SV.int.injEq, SV.bool.injEq, SV.ptr.injEq, SV.nils.injEq, SV.vec.injEq, SV.vptr.injEq, SV.vcut.injEq, SV.bsl.injEq, SV.mapp.injEq, SV.func.injEq, SV.iface.injEq, SV.agg.injEq, SV.tup.injEq, SV.yield.injEq, SV.meth.injEq]
         first
          | exact h
          | exact ⟨h.1.1.1.1, h.1.1.1.2, h.1.1.2, h.1.2, h.2⟩
          | exact ⟨h.1.1.1.1.1, h.1.1.1.1.2, h.1.1.1.2, h.1.1.2, h.1.2, h.2⟩
          | exact ⟨h.1.1, h.1.2, h.2⟩
          | exact ⟨h.1, eqL_ok ih h.2⟩
          | exact ⟨h.1, ih _ _ h.2⟩
          | exact eqL_ok ih h)

abbrev RnB : Type 1 := Ctx → Nat → List It → List SV → List Fr → HS → (Out → HS → Bool) → Bool
def Ctx.dfr (C : Ctx) (l : List Nat) : Ctx := { C with D := some l }

def dResL (T : Nat → Option TI) (t : List SV) (h : HS) : List ResultVar → Bool
  | [] => true
  | .tmp _ :: l => dResL T t h l
  | .cell a ty :: l => match T ty with
    | some ti => dLoad ti h (nth t a) && dResL T t h l
    | none => true
theorem dResL_ok {T : Nat → Option TI} {t : List SV} {h : HS} : ∀ {l : List ResultVar} {p : Prop} {vs : List SV}, dResL T t h l = true → resL T t h l = some (p, vs) → p
  | [], p, vs, _, h => by simp only [resL, Option.some.injEq, Prod.mk.injEq] at h; exact h.1 ▸ trivial
  | .tmp i :: l, p, vs, hd, hr => by
    simp only [resL] at hr
    simp only [dResL] at hd
    split at hr
    · rename_i h1; simp only [Option.some.injEq, Prod.mk.injEq] at hr; exact hr.1 ▸ dResL_ok hd h1
    · cases hr
  | .cell a ty :: l, p, vs, hd, hr => by
    simp only [resL] at hr
    simp only [dResL] at hd
    split at hr
    · rename_i ti ht
      simp only [ht, Bool.and_eq_true] at hd
      split at hr
      · rename_i q v h' p' vs' h1 h2
        simp only [Option.some.injEq, Prod.mk.injEq] at hr
        have := dLoad_ok hd.1
        rw [h1] at this
        exact hr.1 ▸ ⟨this, dResL_ok hd.2 h2⟩
      · cases hr
    · cases hr
def dResK (T : Nat → Option TI) (h : HS) : List ResultVar → List SV → Bool
  | [], _ => true
  | .tmp _ :: l, _ :: ts => dResK T h l ts
  | .cell _ ty :: l, x :: ts => match T ty with
    | some ti => dLoad ti h x && dResK T h l ts
    | none => true
  | _ :: _, [] => true
theorem dResK_ok {T : Nat → Option TI} {h : HS} : ∀ {l : List ResultVar} {ts : List SV} {p : Prop} {vs : List SV}, dResK T h l ts = true → resK T h l ts = some (p, vs) → p
  | [], ts, p, vs, _, h => by simp only [resK, Option.some.injEq, Prod.mk.injEq] at h; exact h.1 ▸ trivial
  | .tmp i :: l, x :: ts, p, vs, hd, hr => by
    simp only [resK] at hr
    simp only [dResK] at hd
    split at hr
    · rename_i h1; simp only [Option.some.injEq, Prod.mk.injEq] at hr; exact hr.1 ▸ dResK_ok hd h1
    · cases hr
  | .cell a ty :: l, x :: ts, p, vs, hd, hr => by
    simp only [resK] at hr
    simp only [dResK] at hd
    split at hr
    · rename_i ti ht
      simp only [ht, Bool.and_eq_true] at hd
      split at hr
      · rename_i q v h' p' vs' h1 h2
        simp only [Option.some.injEq, Prod.mk.injEq] at hr
        have := dLoad_ok hd.1
        rw [h1] at this
        exact hr.1 ▸ ⟨this, dResK_ok hd.2 h2⟩
      · cases hr
    · cases hr
  | .tmp i :: l, [], p, vs, hd, hr => by simp [resK] at hr
  | .cell a ty :: l, [], p, vs, hd, hr => by simp [resK] at hr
def noInvB : List It → Bool
  | [] => true
  | .inv _ _ _ _ _ :: _ => false
  | .endR _ :: _ => false
  | .code _ :: k => noInvB k
  | .blk _ :: k => noInvB k
  | .reg _ _ :: k => noInvB k
  | .inRng _ :: k => noInvB k
  | .endRng _ :: k => noInvB k
  | .beginR :: k => noInvB k
  | .aga _ :: k => noInvB k
  | .scp _ :: k => noInvB k
theorem noInvB_ok : ∀ {k : List It}, noInvB k = true → noInv k
  | [], _ => by simp only [noInv]
  | .inv _ _ _ _ _ :: _, h => by simp [noInvB] at h
  | .endR _ :: _, h => by simp [noInvB] at h
  | .code _ :: k, h => by simp only [noInvB] at h; simp only [noInv]; exact noInvB_ok h
  | .blk _ :: k, h => by simp only [noInvB] at h; simp only [noInv]; exact noInvB_ok h
  | .reg _ _ :: k, h => by simp only [noInvB] at h; simp only [noInv]; exact noInvB_ok h
  | .inRng _ :: k, h => by simp only [noInvB] at h; simp only [noInv]; exact noInvB_ok h
  | .endRng _ :: k, h => by simp only [noInvB] at h; simp only [noInv]; exact noInvB_ok h
  | .beginR :: k, h => by simp only [noInvB] at h; simp only [noInv]; exact noInvB_ok h
  | .aga _ :: k, h => by simp only [noInvB] at h; simp only [noInv]; exact noInvB_ok h
  | .scp _ :: k, h => by simp only [noInvB] at h; simp only [noInv]; exact noInvB_ok h

def panB (D : Option (List Nat)) (Q : Out → HS → Bool) (t : List SV) (v : SV) (h : HS) : Bool :=
  match D with
  | none => Q (.pan v) h
  | some l => Q (.fin (some v) (keepN t l)) h
def outB (S : List SV → HS → Bool) (X : List SV → SV → HS → Bool) (t : List SV) (dst : Option Nat) (o : Out) (h : HS) : Bool :=
  match o with
  | .ret v => S (put t dst v) h
  | .pan v => X t v h
  | _ => false
def stopB (D : Option (List Nat)) (Q : Out → HS → Bool) (k : List It) (t : List SV) (h : HS) : Bool :=
  match D with
  | none => false
  | some _ => Q (.stop k t) h
section
variable (C : Ctx) (R : RnB)
def popB (v : SV) (fs : List Fr) (h : HS) (Q : Out → HS → Bool) : Bool :=
  match fs with
  | [] => Q (.ret v) h
  | ⟨fid, .reg ops (i :: idx) :: k, t⟩ :: fs => match getO ops.toList i with
    | some o => R C fid (.reg ops idx :: k) (put t o.dst v) fs h Q
    | none => false
  | ⟨fid, .inRng nm :: k, t⟩ :: fs => R C fid (.endRng nm :: k) t fs h Q
  | _ => false
def popRB (v : SV) (fs : List Fr) (h : HS) (Q : Out → HS → Bool) : Bool :=
  match fs with
  | ⟨fid, .reg ops (i :: idx) :: k, t⟩ :: fs => match getO ops.toList i with
    | some o => R C fid (.reg ops idx :: k) (put t o.dst v) fs h Q
    | none => false
  | [] => match C.D, C.rd with
    | none, true => Q (.rnd v) h
    | _, _ => false
  | _ => false
def endRB (b : Blk) (nm : Nat) (jump : Option Code) (fs : List Fr) (h : HS) (Q : Out → HS → Bool) : Bool :=
  match b with
  | .loop _ _ fid t params assign body => popRB C R (.bool jump.isNone) fs { h with blks := setB h.blks nm (.loop (if jump.isNone then .ready else .done) jump fid t params assign body) } Q
  | _ => false
def beginRB (x : Option Nat) (fid : Nat) (k : List It) (t : List SV) (fs : List Fr) (h : HS) (Q : Out → HS → Bool) : Bool :=
  match x with
  | some nm => match getB h.blks nm with
    | .loop .ready pend fid' t' params assign body => R C fid k t fs { h with blks := setB h.blks nm (.loop .busy pend fid' t' params assign body) } Q
    | _ => false
  | none => false
def endRngB (b : Blk) (nm fid : Nat) (k : List It) (t : List SV) (fs : List Fr) (h : HS) (Q : Out → HS → Bool) : Bool :=
  match b with
  | .loop .ready none _ _ _ _ _ => R C fid k t fs { h with blks := setB h.blks nm .dead } Q
  | .loop .done none _ _ _ _ _ => R C fid k t fs { h with blks := setB h.blks nm .dead } Q
  | .loop .done (some c) _ _ _ _ _ => R C fid (.code c :: k) t fs { h with blks := setB h.blks nm .dead } Q
  | _ => false
def retB (x : Option Nat) (jump : Code) (fs : List Fr) (h : HS) (Q : Out → HS → Bool) (els : Bool) : Bool :=
  match x with
  | none => els
  | some nm => endRB C R (getB h.blks nm) nm (some jump) fs h Q
def leaveB (D : Option (List Nat)) (fid : Nat) (t : List SV) (fs : List Fr) (h : HS) (Q : Out → HS → Bool) (fn : Option Func) : Bool :=
  match D with
  | none => match fn with
    | some fn => match resL C.T t h fn.results.toList with
      | some (p, vs) => dResL C.T t h fn.results.toList && popB C R (oneR vs) fs h Q
      | none => false
    | none => false
  | some l => Q (.fin none (keepN t l)) h
def condB (x : SV) (fid : Nat) (a b : Code) (k : List It) (t : List SV) (fs : List Fr) (h : HS) (Q : Out → HS → Bool) : Bool :=
  match x with
  | .bool true => R C fid (.code a :: k) t fs h Q
  | .bool false => R C fid (.code b :: k) t fs h Q
  | _ => false
def exitB (id : Nat) (k0 : List It) (k : Option (List It)) (fid : Nat) (t : List SV) (fs : List Fr) (h : HS) (Q : Out → HS → Bool) : Bool :=
  match k with
  | some k => R C fid k t fs h Q
  | none => retB C R (rnd k0) (.exit id) fs h Q false
def rngGoB (D : Option (List Nat)) (fn : Option Func) (g : Nat) (args : List SV) (nm fid : Nat) (k : List It) (t : List SV) (fs : List Fr) (h : HS) (Q : Out → HS → Bool) : Bool :=
  match fn with
  | some fn => match fn.body with
    | some c => match D with
      | none => R C g [.code c] (catS args (anys (fn.ntmps - lenS args))) (⟨fid, .inRng nm :: k, t⟩ :: fs) h Q
      | some _ => R C.off g [.code c] (catS args (anys (fn.ntmps - lenS args))) [] h (outB (fun t' h' => R C fid (.endRng nm :: k) t' fs h' Q) (panB C.D Q) t none)
    | none => false
  | none => false
def rngB (f : SV) (params : Array Nat) (assign body : Code) (fid : Nat) (k : List It) (t : List SV) (fs : List Fr) (h : HS) (Q : Out → HS → Bool) : Bool :=
  match f with
  | .func g caps => C.F g && ((rnd k).isNone && rngGoB C R C.D (C.FN g) g (.yield (lenB h.blks) :: caps) (lenB h.blks) fid k t fs { h with blks := snocB h.blks (.loop .ready none fid t params assign body) } Q)
  | _ => false
def roundB (D : Option (List Nat)) (ok : Bool) (nm rf : Nat) (rt : List SV) (assign body : Code) (fid : Nat) (ops : Array Oper) (i : Nat) (idx : List Nat) (k : List It) (t : List SV) (fs : List Fr) (h : HS) (Q : Out → HS → Bool) : Bool :=
  match C.rs, D with
  | false, none => ok && R C rf [.code assign, .beginR, .code body, .endR nm] rt (⟨fid, .reg ops (i :: idx) :: k, t⟩ :: fs) h Q
  | _, _ => false
def inlB (D : Option (List Nat)) (fn : Option Func) (g : Nat) (args : List SV) (fid : Nat) (ops : Array Oper) (i : Nat) (idx : List Nat) (dst : Option Nat) (k : List It) (t : List SV) (fs : List Fr) (h : HS) (Q : Out → HS → Bool) : Bool :=
  match fn with
  | some fn => match fn.body with
    | some c => match D with
      | none => R C g [.code c] (catS args (anys (fn.ntmps - lenS args))) (⟨fid, .reg ops (i :: idx) :: k, t⟩ :: fs) h Q
      | some _ => R C.off g [.code c] (catS args (anys (fn.ntmps - lenS args))) [] h (outB (fun t' h' => R C fid (.reg ops idx :: k) t' fs h' Q) (panB C.D Q) t dst)
    | none => false
  | none => false

/- A function that defers one call. -/
def resultB (fn : Func) (K : Out → HS → Bool) (ts : List SV) (p : Option SV) (h : HS) : Bool :=
  match p with
  | none => match resK C.T h fn.results.toList ts with
    | some (q, vs) => dResK C.T h fn.results.toList ts && K (.ret (oneR vs)) h
    | none => false
  | some v => K (.pan v) h
def rcvEndB (K : Option SV → HS → Bool) (o : Out) (h : HS) : Bool :=
  match o with
  | .fin none _ => K none h
  | _ => false
def rcvOpB (p : Option SV) (K : Option SV → HS → Bool) (g : Nat) (o : Option Oper) (ops : Array Oper) (idx : List Nat) (k : List It) (t : List SV) (h : HS) : Bool :=
  match o with
  | some ⟨dst, .call ⟨.builtin .recover, ⟨[]⟩, _⟩, _, _, _, none⟩ => noInvB k && R (C.dfr []) g (.reg ops idx :: k) (put t dst (gotS p)) [] h (rcvEndB K)
  | _ => false
def rcvB (p : Option SV) (K : Option SV → HS → Bool) (g : Nat) (o : Out) (h : HS) : Bool :=
  match o with
  | .stop (.reg ops (i :: idx) :: k) t => rcvOpB C R p K g (getO ops.toList i) ops idx k t h
  | _ => false
def defB (g : Nat) (args : List SV) (p : Option SV) (h : HS) (K : Option SV → HS → Bool) : Bool :=
  match C.FN g with
  | some fn => match fn.body with
    | some c => fn.results.toList.isEmpty && R (C.dfr []) g [.code c] (catS args (anys (fn.ntmps - lenS args))) [] h (rcvB C R p K g)
    | none => false
  | none => false
def endB (fn : Func) (K : Out → HS → Bool) (g' : Nat) (caps : List SV) (o : Out) (h : HS) : Bool :=
  match o with
  | .fin p ts => defB C R g' caps p h (resultB C fn K ts)
  | _ => false
def dfrGoB (fn : Func) (K : Out → HS → Bool) (g : Nat) (f : SV) (ops : Array Oper) (idx : List Nat) (dst : Option Nat) (k : List It) (t : List SV) (h : HS) : Bool :=
  match f with
  | .func g' caps => C.F g' && (noInvB k && R (C.dfr (slots fn.results.toList)) g (.reg ops idx :: k) (put t dst .any) [] h (endB C R fn K g' caps))
  | _ => false
def dfrOpB (fn : Func) (K : Out → HS → Bool) (g : Nat) (o : Option Oper) (ops : Array Oper) (idx : List Nat) (k : List It) (t : List SV) (h : HS) : Bool :=
  match o with
  | some ⟨dst, .defer ⟨.value f, ⟨[]⟩, _⟩, _, _, _, none⟩ => dfrGoB C R fn K g (ev t f) ops idx dst k t h
  | _ => false
def dfrQB (fn : Func) (K : Out → HS → Bool) (g : Nat) (o : Out) (h : HS) : Bool :=
  match o with
  | .stop (.reg ops (i :: idx) :: k) t => dfrOpB C R fn K g (getO ops.toList i) ops idx k t h
  | .fin p ts => resultB C fn K ts p h
  | _ => false
def dfrB (g : Nat) (args : List SV) (h : HS) (K : Out → HS → Bool) : Bool :=
  match C.FN g with
  | some fn => match fn.body with
    | some c => R (C.dfr (slots fn.results.toList)) g [.code c] (catS args (anys (fn.ntmps - lenS args))) [] h (dfrQB C R fn K g)
    | none => false
  | none => false

def goB (il : Bool) (g : Nat) (args : List SV) (fid : Nat) (ops : Array Oper) (i : Nat) (idx : List Nat) (dst : Option Nat) (k : List It) (t : List SV) (fs : List Fr) (h : HS) (Q : Out → HS → Bool) : Bool :=
  match il with
  | true => inlB C R C.D (C.FN g) g args fid ops i idx dst k t fs h Q
  | false => dfrB C R g args h (outB (fun t' h' => R C fid (.reg ops idx :: k) t' fs h' Q) (panB C.D Q) t dst)
def allN (f : Nat → Bool) : Nat → Bool
  | 0 => true
  | n + 1 => f n && allN f n
def anyN (f : Nat → Bool) : Nat → Bool
  | 0 => false
  | n + 1 => f n || anyN f n
theorem allN_ok {f : Nat → Bool} : ∀ {n : Nat}, allN f n = true → ∀ i, i < n → f i = true
  | 0, _, i, hi => by omega
  | n + 1, h, i, hi => by
    simp only [allN, Bool.and_eq_true] at h
    by_cases e : i = n
    · subst e; exact h.1
    · exact allN_ok h.2 i (by omega)
theorem anyN_ok {f : Nat → Bool} : ∀ {n : Nat}, anyN f n = true → ∃ i, i < n ∧ f i = true
  | 0, h => by cases h
  | n + 1, h => by
    simp only [anyN, Bool.or_eq_true] at h
    rcases h with h | h
    · exact ⟨n, by omega, h⟩
    · obtain ⟨i, h1, h2⟩ := anyN_ok h; exact ⟨i, by omega, h2⟩
def execB (nf d : Bool) (r : Res) (fid : Nat) (ops : Array Oper) (i : Nat) (idx : List Nat) (dst : Option Nat) (k : List It) (t : List SV) (fs : List Fr) (h : HS) (Q : Out → HS → Bool) : Bool :=
  match r with
  | .val p v h' => d && R C fid (.reg ops idx :: k) (put t dst v) fs h' Q
  | .skip p h' => d && R C fid (.reg ops idx :: k) (put t dst .any) fs h' Q
  | .fork p v u h' => (nf || R C fid (.reg ops idx :: k) (put t dst v) fs h' Q) && R C fid (.reg ops idx :: k) (put t dst u) fs h' Q
  | .pan v => panB C.D Q t v h
  | .call g args => goB C R (C.inl g) g args fid ops i idx dst k t fs h Q
  | .callN p g args h' => d && goB C R (C.inl g) g args fid ops i idx dst k t fs h' Q
  | .pick c n p v g u h' => d && (allN (fun i => !p i || R C fid (.reg ops idx :: k) (put t dst (v i)) fs (g i) Q) n && (anyN p n || R C fid (.reg ops idx :: k) (put t dst u) fs h' Q))
  | .round nm rf rt assign body => roundB C R C.D (C.FN rf).isSome nm rf rt assign body fid ops i idx k t fs h Q
  | .bad => stopB C.D Q (.reg ops (i :: idx) :: k) t h
def wantB (b want : Bool) (o : Oper) (fid : Nat) (ops : Array Oper) (i : Nat) (idx : List Nat) (k : List It) (t : List SV) (fs : List Fr) (h : HS) (Q : Out → HS → Bool) : Bool :=
  match b, want with
  | true, true => execB C R (noF t h o) (dOp C.T t h o) (opRes C.T C.F t h o) fid ops i idx o.dst k t fs h Q
  | false, false => execB C R (noF t h o) (dOp C.T t h o) (opRes C.T C.F t h o) fid ops i idx o.dst k t fs h Q
  | _, _ => R C fid (.reg ops idx :: k) (put t o.dst (.tup [])) fs h Q
def guardB (x : SV) (d : Nat) (want : Bool) (o : Oper) (fid : Nat) (ops : Array Oper) (i : Nat) (idx : List Nat) (k : List It) (t : List SV) (fs : List Fr) (h : HS) (Q : Out → HS → Bool) : Bool :=
  match x with
  | .bool true => wantB C R true want o fid ops i idx k (upd t d (.bool true)) fs h Q
  | .bool false => wantB C R false want o fid ops i idx k (upd t d (.bool false)) fs h Q
  | .tup [] => R C fid (.reg ops idx :: k) (put t o.dst (.tup [])) fs h Q
  | _ => false
def guard1B (oj : Option Oper) (want : Bool) (o : Oper) (fid : Nat) (ops : Array Oper) (i : Nat) (idx : List Nat) (k : List It) (t : List SV) (fs : List Fr) (h : HS) (Q : Out → HS → Bool) : Bool :=
  match oj with
  | some { dst := some d, .. } => guardB C R (nth t d) d want o fid ops i idx k t fs h Q
  | _ => false
def opB (o : Option Oper) (fid : Nat) (ops : Array Oper) (i : Nat) (idx : List Nat) (k : List It) (t : List SV) (fs : List Fr) (h : HS) (Q : Out → HS → Bool) : Bool :=
  match o with
  | some ⟨dst, op, ty, pos, aft, none⟩ => execB C R (noF t h ⟨dst, op, ty, pos, aft, none⟩) (dOp C.T t h ⟨dst, op, ty, pos, aft, none⟩) (opRes C.T C.F t h ⟨dst, op, ty, pos, aft, none⟩) fid ops i idx dst k t fs h Q
  | some ⟨dst, op, ty, pos, aft, some (j, want)⟩ => guard1B C R (getO ops.toList j) want ⟨dst, op, ty, pos, aft, some (j, want)⟩ fid ops i idx k t fs h Q
  | none => false

/- ### regions whose order is drawn -/
def reS1B (pu d : Bool) (r : Res) (dst : Option Nat) (t : List SV) : Bool :=
  match r with
  | .val _ v _ => pu && (d && match dst with
    | some s => svEq 8 v (nth t s)
    | none => true)
  | _ => false
def reWB (b want : Bool) (pu d : Bool) (r : Res) (dst : Option Nat) (t : List SV) : Bool :=
  match b, want with
  | true, true => reS1B pu d r dst t
  | false, false => reS1B pu d r dst t
  | _, _ => true
def reGB (x : SV) (want : Bool) (pu d : Bool) (r : Res) (dst : Option Nat) (t : List SV) : Bool :=
  match x with
  | .bool b => reWB b want pu d r dst t
  | .tup [] => true
  | _ => false
def reOB (ops : Array Oper) (t : List SV) (h : HS) (o : Option Oper) : Bool :=
  match o with
  | some ⟨dst, op, ty, pos, aft, none⟩ => reS1B (pureO ⟨dst, op, ty, pos, aft, none⟩) (dOp C.T t h ⟨dst, op, ty, pos, aft, none⟩) (opRes C.T C.F t h ⟨dst, op, ty, pos, aft, none⟩) dst t
  | some ⟨dst, op, ty, pos, aft, some (j, want)⟩ => match getO ops.toList j with
    | some { dst := some d, .. } => reGB (nth t d) want (pureO ⟨dst, op, ty, pos, aft, some (j, want)⟩) (dOp C.T t h ⟨dst, op, ty, pos, aft, some (j, want)⟩) (opRes C.T C.F t h ⟨dst, op, ty, pos, aft, some (j, want)⟩) dst t
    | _ => false
  | none => false
def reAB (ops : Array Oper) (t : List SV) (h : HS) : List Nat → Bool
  | [] => true
  | k :: l => reOB C ops t h (getO ops.toList k) && reAB ops t h l
variable (X : List SV → SV → HS → Bool) (Q : Out → HS → Bool)
def qGoB (pu d : Bool) (r : Res) (dst : Option Nat) (S : List SV → HS → Bool) (t : List SV) (h : HS) : Bool :=
  match r with
  | .val _ v _ => pu && (d && S (put t dst v) h)
  | _ => false
def lCallB (il : Bool) (g : Nat) (args : List SV) (dst : Option Nat) (S : List SV → HS → Bool) (t : List SV) (h : HS) : Bool :=
  match il with
  | true => match C.FN g with
    | some fn => match fn.body with
      | some c => R C.off g [.code c] (catS args (anys (fn.ntmps - lenS args))) [] h (outB S X t dst)
      | none => false
    | none => false
  | false => dfrB C R g args h (outB S X t dst)
def rndB (S : List SV → HS → Bool) (t : List SV) (dst : Option Nat) (o : Out) (h : HS) : Bool :=
  match o with
  | .rnd v => S (put t dst v) h
  | _ => false
def lGoB (d : Bool) (r : Res) (dst : Option Nat) (S : List SV → HS → Bool) (t : List SV) (h : HS) : Bool :=
  match r with
  | .val p v h' => d && S (put t dst v) h'
  | .skip p h' => d && S (put t dst .any) h'
  | .call g args => lCallB C R X (C.inl g) g args dst S t h
  | .callN p g args h' => d && lCallB C R X (C.inl g) g args dst S t h'
  | .round nm rf rt assign body => (C.FN rf).isSome && R C.rnd rf [.code assign, .beginR, .code body, .endR nm] rt [] h (rndB S t dst)
  | _ => false
def goPB (quiet : Bool) (o : Oper) (S : List SV → HS → Bool) (t : List SV) (h : HS) : Bool :=
  match quiet with
  | true => qGoB (pureO o) (dOp C.T t h o) (opRes C.T C.F t h o) o.dst S t h
  | false => lGoB C R X (dOp C.T t h o) (opRes C.T C.F t h o) o.dst S t h
def gateWB (b want : Bool) (quiet : Bool) (o : Oper) (S : List SV → HS → Bool) (t : List SV) (h : HS) : Bool :=
  match b, want with
  | true, true => goPB C R X quiet o S t h
  | false, false => goPB C R X quiet o S t h
  | _, _ => S (put t o.dst (.tup [])) h
def gateGB (x : SV) (d : Nat) (want : Bool) (quiet : Bool) (o : Oper) (S : List SV → HS → Bool) (t : List SV) (h : HS) : Bool :=
  match x with
  | .bool true => gateWB C R X true want quiet o S (upd t d (.bool true)) h
  | .bool false => gateWB C R X false want quiet o S (upd t d (.bool false)) h
  | .tup [] => S (put t o.dst (.tup [])) h
  | _ => false
def gateB (ops : Array Oper) (quiet : Bool) (o : Option Oper) (S : List SV → HS → Bool) (t : List SV) (h : HS) : Bool :=
  match o with
  | some ⟨dst, op, ty, pos, aft, none⟩ => goPB C R X quiet ⟨dst, op, ty, pos, aft, none⟩ S t h
  | some ⟨dst, op, ty, pos, aft, some (j, want)⟩ => match getO ops.toList j with
    | some { dst := some d, .. } => gateGB C R X (nth t d) d want quiet ⟨dst, op, ty, pos, aft, some (j, want)⟩ S t h
    | _ => false
  | none => false
def thenB (ops : Array Oper) (re : List Nat) (S : List SV → HS → Bool) (t : List SV) (h : HS) : Bool := reAB C ops t h re && S t h
def planB (fid : Nat) (ops : Array Oper) (k : List It) (fs : List Fr) : Plan → List SV → HS → Bool
  | .done, t, h => R C fid k t fs h Q
  | .quiet i p, t, h => gateB C R X ops true (getO ops.toList i) (planB fid ops k fs p) t h
  | .loud i re p, t, h => gateB C R X ops false (getO ops.toList i) (thenB C ops re (planB fid ops k fs p)) t h
  | .both p q, t, h => planB fid ops k fs p t h && planB fid ops k fs q t h
def drawB (p : Option Plan) (fid : Nat) (ops : Array Oper) (k : List It) (t : List SV) (fs : List Fr) (h : HS) : Bool :=
  match p with
  | some p => planOk ops p && (keepOk ops C.D && planB C R (panB C.D Q) Q fid ops k fs p t h)
  | none => false
end

def codeB (R : RnB) (C : Ctx) (fid : Nat) (c : Code) (k : List It) (t : List SV) (fs : List Fr) (h : HS) (Q : Out → HS → Bool) : Bool :=
  match c with
  | .skip => R C fid k t fs h Q
  | .label _ => R C fid k t fs h Q
  | .seq a b => R C fid (.code a :: .code b :: k) t fs h Q
  | .cond c a b => condB C R (ev t c) fid a b k t fs h Q
  | .block id c => R C fid (.code c :: .blk id :: k) t fs h Q
  | .loop body => R C fid (.code body :: .aga body :: k) t fs h Q
  | .scope body => R C fid (.code body :: .scp body :: k) t fs h Q
  | .exit id => exitB C R id k (exitI id k) fid t fs h Q
  | .rangeFunc f params assign body => rngB C R (ev t f) params assign body fid k t fs h Q
  | .ret => retB C R (rnd k) .ret fs h Q (leaveB C R C.D fid t fs h Q (C.FN fid))
  | .region _ ops false => R C fid (.reg ops (upto ops.toList 0) :: k) t fs h Q
  | .region id ops true => drawB C R Q (C.plan fid id) fid ops k t fs h
  | _ => false
def stepB (R : RnB) : RnB := fun C fid k t fs h Q =>
  match k with
  | [] => leaveB C R C.D fid t fs h Q (C.FN fid)
  | .code c :: k => codeB R C fid c k t fs h Q
  | .blk _ :: k => R C fid k t fs h Q
  | .aga body :: k => R C fid (.code body :: .aga body :: k) t fs h Q
  | .scp _ :: k => R C fid k t fs h Q
  | .reg ops [] :: k => R C fid k t fs h Q
  | .reg ops (i :: idx) :: k => opB C R (getO ops.toList i) fid ops i idx k t fs h Q
  | .endRng nm :: k => endRngB C R (getB h.blks nm) nm fid k t fs h Q
  | .beginR :: k => beginRB C R (rnd k) fid k t fs h Q
  | .endR nm :: _ => endRB C R (getB h.blks nm) nm none fs h Q
  | _ => false
def runB : Nat → RnB := Nat.rec (fun _ _ _ _ _ _ _ => false) (fun _ R => stepB R)
theorem runB_succ (n : Nat) : runB (n + 1) = stepB (runB n) := rfl
end Go.Eng
end

/- What is reckoned is true of the symbolic machine. -/
section
namespace Go.Eng
open Go.RowKit
set_option linter.unusedVariables false

structure CtxE (C : Ctx) : Prop where
  ok : CtxOk C
  G : ∀ g, C.G g = none
theorem CtxE.off {C : Ctx} (h : CtxE C) : CtxE C.off := ⟨⟨h.ok.T, h.ok.F, h.ok.FN, h.ok.G, h.ok.mix⟩, h.G⟩
theorem CtxE.rnd {C : Ctx} (h : CtxE C) : CtxE C.rnd := ⟨⟨h.ok.T, h.ok.F, h.ok.FN, h.ok.G, h.ok.mix⟩, h.G⟩
theorem CtxE.dfr {C : Ctx} (h : CtxE C) (l : List Nat) : CtxE (C.dfr l) := ⟨⟨h.ok.T, h.ok.F, h.ok.FN, h.ok.G, h.ok.mix⟩, h.G⟩
def Snd (n : Nat) (R : RnB) : Prop := ∀ C, CtxE C → ∀ fid k t fs h (Q : Out → HS → Bool) (Q' : Out → HS → Prop), (∀ o h, Q o h = true → Q' o h) → R C fid k t fs h Q = true → run C n fid k t fs h Q'

section
variable {n : Nat} {C : Ctx} {R : RnB} {Q : Out → HS → Bool} {Q' : Out → HS → Prop}
theorem panB_ok {D : Option (List Nat)} {t : List SV} {v : SV} {h : HS} (hQ : ∀ o h, Q o h = true → Q' o h) (hb : panB D Q t v h = true) : panQ D Q' t v h := by
  unfold panB at hb; unfold panQ
  cases D with
  | none => exact hQ _ _ hb
  | some l => exact hQ _ _ hb
theorem stopB_ok {D : Option (List Nat)} {k : List It} {t : List SV} {h : HS} (hQ : ∀ o h, Q o h = true → Q' o h) (hb : stopB D Q k t h = true) : stopQ D Q' k t h := by
  unfold stopB at hb; unfold stopQ
  cases D with
  | none => cases hb
  | some l => exact hQ _ _ hb
theorem outB_ok {S : List SV → HS → Bool} {S' : List SV → HS → Prop} {X : List SV → SV → HS → Bool} {X' : List SV → SV → HS → Prop} {t : List SV} {dst : Option Nat} (hS : ∀ t h, S t h = true → S' t h) (hX : ∀ t v h, X t v h = true → X' t v h) (o : Out) (h : HS)
    (hb : outB S X t dst o h = true) : outK S' X' t dst o h := by
  unfold outB at hb; unfold outK
  cases o with
  | ret v => exact hS _ _ hb
  | pan v => exact hX _ _ _ hb
  | fin _ _ => cases hb
  | stop _ _ => cases hb
  | rnd _ => cases hb
variable (hR : Snd n R) (hC : CtxE C) (hQ : ∀ o h, Q o h = true → Q' o h)
include hR hC hQ
theorem popB_ok {v : SV} {fs : List Fr} {h : HS} (hb : popB C R v fs h Q = true) : popS (run C n) v fs h Q' := by
  unfold popB at hb; unfold popS
  split at hb
  · exact hQ _ _ hb
  · split at hb
    · rename_i ho; simp only [ho]; exact hR C hC _ _ _ _ _ _ _ hQ hb
    · cases hb
  · exact hR C hC _ _ _ _ _ _ _ hQ hb
  · cases hb
theorem popRB_ok {v : SV} {fs : List Fr} {h : HS} (hb : popRB C R v fs h Q = true) : popR C (run C n) v fs h Q' := by
  unfold popRB at hb; unfold popR
  split at hb
  · split at hb
    · rename_i ho; simp only [ho]; exact hR C hC _ _ _ _ _ _ _ hQ hb
    · cases hb
  · split at hb
    · rename_i h1 h2; simp only [h1, h2]; exact hQ _ _ hb
    · cases hb
  · cases hb
theorem endRB_ok {b : Blk} {nm : Nat} {jump : Option Code} {fs : List Fr} {h : HS} (hb : endRB C R b nm jump fs h Q = true) : endRS C (run C n) b nm jump fs h Q' := by
  unfold endRB at hb; unfold endRS
  split at hb
  · exact popRB_ok hR hC hQ hb
  · cases hb
theorem beginRB_ok {x : Option Nat} {fid : Nat} {k : List It} {t : List SV} {fs : List Fr} {h : HS} (hb : beginRB C R x fid k t fs h Q = true) : beginRS (run C n) x fid k t fs h Q' := by
  unfold beginRB at hb; unfold beginRS
  split at hb
  · split at hb
    · rename_i hbl; simp only [hbl]; exact hR C hC _ _ _ _ _ _ _ hQ hb
    · cases hb
  · cases hb
theorem endRngB_ok {b : Blk} {nm fid : Nat} {k : List It} {t : List SV} {fs : List Fr} {h : HS} (hb : endRngB C R b nm fid k t fs h Q = true) : endRngS (run C n) b nm fid k t fs h Q' := by
  unfold endRngB at hb; unfold endRngS
  split at hb
  · exact hR C hC _ _ _ _ _ _ _ hQ hb
  · exact hR C hC _ _ _ _ _ _ _ hQ hb
  · exact hR C hC _ _ _ _ _ _ _ hQ hb
  · cases hb
theorem retB_ok {x : Option Nat} {jump : Code} {fs : List Fr} {h : HS} {els : Bool} {els' : Prop} (he : els = true → els') (hb : retB C R x jump fs h Q els = true) : retS C (run C n) x jump fs h Q' els' := by
  unfold retB at hb; unfold retS
  split at hb
  · exact he hb
  · exact endRB_ok hR hC hQ hb
theorem leaveB_ok {D : Option (List Nat)} {fid : Nat} {t : List SV} {fs : List Fr} {h : HS} {fn : Option Func} (hb : leaveB C R D fid t fs h Q fn = true) : leaveS C (run C n) D fid t fs h Q' fn := by
  unfold leaveB at hb; unfold leaveS
  split at hb
  · split at hb
    · split at hb
      · rename_i hres
        rw [Bool.and_eq_true] at hb
        (try simp only [hres])
        exact ⟨dResL_ok hb.1 hres, popB_ok hR hC hQ hb.2⟩
      · cases hb
    · cases hb
  · exact hQ _ _ hb
theorem condB_ok {x : SV} {fid : Nat} {a b : Code} {k : List It} {t : List SV} {fs : List Fr} {h : HS} (hb : condB C R x fid a b k t fs h Q = true) : condS (run C n) x fid a b k t fs h Q' := by
  unfold condB at hb; unfold condS
  split at hb
  · exact ⟨fun _ => hR C hC _ _ _ _ _ _ _ hQ hb, fun e => by cases e⟩
  · exact ⟨(fun e => by cases e), fun _ => hR C hC _ _ _ _ _ _ _ hQ hb⟩
  · cases hb
theorem exitB_ok {id : Nat} {k0 : List It} {k : Option (List It)} {fid : Nat} {t : List SV} {fs : List Fr} {h : HS} (hb : exitB C R id k0 k fid t fs h Q = true) : exitS C (run C n) id k0 k fid t fs h Q' := by
  unfold exitB at hb; unfold exitS
  split at hb
  · exact hR C hC _ _ _ _ _ _ _ hQ hb
  · exact retB_ok hR hC hQ (fun e => by cases e) hb
theorem rngGoB_ok {D : Option (List Nat)} {fn : Option Func} {g : Nat} {args : List SV} {nm fid : Nat} {k : List It} {t : List SV} {fs : List Fr} {h : HS} (hb : rngGoB C R D fn g args nm fid k t fs h Q = true) : rngGo C (run C n) (run C.off n) D fn g args nm fid k t fs h Q' := by
  unfold rngGoB at hb; unfold rngGo
  cases fn with
  | none => cases hb
  | some fn =>
    simp only at hb ⊢
    cases hbd : fn.body with
    | none => rw [hbd] at hb; cases hb
    | some c =>
      rw [hbd] at hb
      cases D with
      | none => exact hR C hC _ _ _ _ _ _ _ hQ hb
      | some l => exact hR C.off hC.off _ _ _ _ _ _ _ (fun o h hh => outB_ok (fun t h hh => hR C hC _ _ _ _ _ _ _ hQ hh) (fun t v h hh => panB_ok hQ hh) o h hh) hb
theorem rngB_ok {f : SV} {params : Array Nat} {assign body : Code} {fid : Nat} {k : List It} {t : List SV} {fs : List Fr} {h : HS} (hb : rngB C R f params assign body fid k t fs h Q = true) : rngS C (run C n) (run C.off n) f params assign body fid k t fs h Q' := by
  unfold rngB at hb; unfold rngS
  split at hb
  · rw [Bool.and_eq_true, Bool.and_eq_true] at hb
    exact ⟨hb.1, by simpa using hb.2.1, rngGoB_ok hR hC hQ hb.2.2⟩
  · cases hb
theorem roundB_ok {D : Option (List Nat)} {ok : Bool} {nm rf : Nat} {rt : List SV} {assign body : Code} {fid : Nat} {ops : Array Oper} {i : Nat} {idx : List Nat} {dst : Option Nat} {k : List It} {t : List SV} {fs : List Fr} {h : HS} (hb : roundB C R D ok nm rf rt assign body fid ops i idx k t fs h Q = true) :
    roundS C (run C n) C.rs D ok nm rf rt assign body fid ops i idx dst k t fs h Q' := by
  unfold roundB at hb; unfold roundS
  split at hb
  · rename_i hrs; rw [Bool.and_eq_true] at hb; rw [hrs]; exact ⟨hb.1, hR C hC _ _ _ _ _ _ _ hQ hb.2⟩
  · cases hb
theorem inlB_ok {D : Option (List Nat)} {fn : Option Func} {g : Nat} {args : List SV} {fid : Nat} {ops : Array Oper} {i : Nat} {idx : List Nat} {dst : Option Nat} {k : List It} {t : List SV} {fs : List Fr} {h : HS} (hb : inlB C R D fn g args fid ops i idx dst k t fs h Q = true) :
    inlS C (run C n) (run C.off n) D fn g args fid ops i idx dst k t fs h Q' := by
  unfold inlB at hb; unfold inlS
  cases fn with
  | none => cases hb
  | some fn =>
    simp only at hb ⊢
    cases hbd : fn.body with
    | none => rw [hbd] at hb; cases hb
    | some c =>
      rw [hbd] at hb
      cases D with
      | none => exact hR C hC _ _ _ _ _ _ _ hQ hb
      | some l => exact hR C.off hC.off _ _ _ _ _ _ _ (fun o h hh => outB_ok (fun t h hh => hR C hC _ _ _ _ _ _ _ hQ hh) (fun t v h hh => panB_ok hQ hh) o h hh) hb
omit hR hC hQ in
theorem resultB_ok {K : Out → HS → Bool} {K' : Out → HS → Prop} (hK : ∀ o h, K o h = true → K' o h) {l : List Nat} {fn : Func} {ts : List SV} {p : Option SV} {h : HS} (hb : resultB C fn K ts p h = true) : resultQ (C.dfr l) fn K' ts p h := by
  unfold resultB at hb; unfold resultQ
  split at hb
  · split at hb
    · rename_i hr
      rw [Bool.and_eq_true] at hb
      have hr' : resK (C.dfr l).T h fn.results.toList ts = _ := hr
      simp only [hr']
      exact ⟨dResK_ok hb.1 hr, hK _ _ hb.2⟩
    · cases hb
  · exact hK _ _ hb
omit hQ in
theorem defB_ok {K : Option SV → HS → Bool} {K' : Option SV → HS → Prop} (hK : ∀ p h, K p h = true → K' p h) {g : Nat} {args : List SV} {p : Option SV} {h : HS} (hb : defB C R g args p h K = true) : DefS C.P g args p h K' := by
  unfold defB at hb
  split at hb
  · rename_i fn hfn
    split at hb
    · rename_i c hc
      rw [Bool.and_eq_true] at hb
      have hres : fn.results = #[] := by
        have := hb.1
        rw [List.isEmpty_iff] at this
        exact Array.toList_eq_nil_iff.1 this
      refine defS_of_run (C := C.dfr []) (hC.dfr []).ok (g := g) hfn hc hres rfl n n (hR (C.dfr []) (hC.dfr []) _ _ _ _ _ _ _ (fun o h hh => ?_) hb.2)
      unfold rcvB at hh; unfold rcvQ
      split at hh
      · unfold rcvOpB at hh; unfold rcvOp
        split at hh
        · rename_i ho
          rw [Bool.and_eq_true] at hh
          (try simp only [ho])
          refine ⟨noInvB_ok hh.1, hR (C.dfr []) (hC.dfr []) _ _ _ _ _ _ _ (fun o h hh => ?_) hh.2⟩
          unfold rcvEndB at hh; unfold rcvEnd
          split at hh
          · exact hK _ _ hh
          · cases hh
        · cases hh
      · cases hh
    · cases hb
  · cases hb
omit hQ in
theorem dfrB_ok {K : Out → HS → Bool} {K' : Out → HS → Prop} (hK : ∀ o h, K o h = true → K' o h) {g : Nat} {args : List SV} {h : HS} (hb : dfrB C R g args h K = true) : CallsS C.P g args h K' := by
  unfold dfrB at hb
  split at hb
  · rename_i fn hfn
    split at hb
    · rename_i c hc
      refine calls_of_defer (C := C.dfr (slots fn.results.toList)) (hC.dfr _).ok (g := g) (fn := fn) hfn hc rfl n n (hR _ (hC.dfr _) _ _ _ _ _ _ _ (fun o h hh => ?_) hb)
      unfold dfrQB at hh; unfold dfrQ
      split at hh
      · unfold dfrOpB at hh; unfold dfrOp
        split at hh
        · rename_i ho
          (try simp only [ho])
          unfold dfrGoB at hh; unfold dfrGo
          split at hh
          · rename_i hev
            (try simp only [hev])
            rw [Bool.and_eq_true, Bool.and_eq_true] at hh
            refine ⟨hh.1, noInvB_ok hh.2.1, hR _ (hC.dfr _) _ _ _ _ _ _ _ (fun o h hh => ?_) hh.2.2⟩
            unfold endB at hh; unfold endQ
            split at hh
            · exact defB_ok hR hC (fun p h hh => resultB_ok hK hh) hh
            · cases hh
          · cases hh
        · cases hh
      · exact resultB_ok hK hh
      · cases hh
    · cases hb
  · cases hb
theorem goB_ok {g : Nat} {args : List SV} {fid : Nat} {ops : Array Oper} {i : Nat} {idx : List Nat} {dst : Option Nat} {k : List It} {t : List SV} {fs : List Fr} {h : HS} (hb : goB C R (C.inl g) g args fid ops i idx dst k t fs h Q = true) :
    goS C (run C n) (run C.off n) (C.G g) (C.inl g) g args fid ops i idx dst k t fs h Q' := by
  rw [hC.G g]
  unfold goB at hb; unfold goS
  split at hb
  · rename_i hi; simp only [hi]; exact inlB_ok hR hC hQ hb
  · rename_i hi
    (try simp only [hi])
    exact dfrB_ok hR hC (fun o h hh => outB_ok (fun t h hh => hR C hC _ _ _ _ _ _ _ hQ hh) (fun t v h hh => panB_ok hQ hh) o h hh) hb
theorem execB_ok {nf d : Bool} {r : Res} (hnf : nf = true → nfk r) (hd : d = true → cnd r) {fid : Nat} {ops : Array Oper} {i : Nat} {idx : List Nat} {dst : Option Nat} {k : List It} {t : List SV} {fs : List Fr} {h : HS} (hb : execB C R nf d r fid ops i idx dst k t fs h Q = true) :
    execS C (run C n) (run C.off n) r fid ops i idx dst k t fs h Q' := by
  unfold execB at hb; unfold execS
  split at hb
  · rw [Bool.and_eq_true] at hb; exact ⟨hd hb.1, hR C hC _ _ _ _ _ _ _ hQ hb.2⟩
  · rw [Bool.and_eq_true] at hb; exact ⟨hd hb.1, hR C hC _ _ _ _ _ _ _ hQ hb.2⟩
  · rw [Bool.and_eq_true, Bool.or_eq_true] at hb
    refine ⟨fun hp => ?_, hR C hC _ _ _ _ _ _ _ hQ hb.2⟩
    rcases hb.1 with h1 | h1
    · exact (hnf h1 hp).elim
    · exact hR C hC _ _ _ _ _ _ _ hQ h1
  · exact panB_ok hQ hb
  · exact goB_ok hR hC hQ hb
  · rw [Bool.and_eq_true] at hb; exact ⟨hd hb.1, goB_ok hR hC hQ hb.2⟩
  · rw [Bool.and_eq_true, Bool.and_eq_true] at hb
    refine ⟨hd hb.1, fun i hi hp => ?_, fun hn => ?_⟩
    · have := allN_ok hb.2.1 i hi
      rw [hp] at this
      exact hR C hC _ _ _ _ _ _ _ hQ this
    · have := hb.2.2
      rw [Bool.or_eq_true] at this
      rcases this with h1 | h1
      · obtain ⟨i, q1, q2⟩ := anyN_ok h1
        rw [hn i q1] at q2
        cases q2
      · exact hR C hC _ _ _ _ _ _ _ hQ h1
  · exact roundB_ok hR hC hQ hb
  · exact stopB_ok hQ hb
theorem wantB_ok {b want : Bool} {o : Oper} {fid : Nat} {ops : Array Oper} {i : Nat} {idx : List Nat} {k : List It} {t : List SV} {fs : List Fr} {h : HS} (hb : wantB C R b want o fid ops i idx k t fs h Q = true) :
    wantS C (run C n) (run C.off n) b want o fid ops i idx k t fs h Q' := by
  unfold wantB at hb; unfold wantS
  cases b <;> cases want <;> simp only at hb ⊢
  · exact execB_ok hR hC hQ noF_ok dOp_ok hb
  · exact hR C hC _ _ _ _ _ _ _ hQ hb
  · exact hR C hC _ _ _ _ _ _ _ hQ hb
  · exact execB_ok hR hC hQ noF_ok dOp_ok hb
theorem opB_ok {o : Option Oper} {fid : Nat} {ops : Array Oper} {i : Nat} {idx : List Nat} {k : List It} {t : List SV} {fs : List Fr} {h : HS} (hb : opB C R o fid ops i idx k t fs h Q = true) : opS C (run C n) (run C.off n) o fid ops i idx k t fs h Q' := by
  unfold opB at hb; unfold opS
  split at hb
  · exact execB_ok hR hC hQ noF_ok dOp_ok hb
  · unfold guard1B at hb; unfold guard1
    split at hb
    · rename_i hj
      (try simp only [hj])
      unfold guardB at hb; unfold guardS
      split at hb
      · rename_i hx; simp only [hx]; exact ⟨fun _ => wantB_ok hR hC hQ hb, fun e => by cases e⟩
      · rename_i hx; simp only [hx]; exact ⟨(fun e => by cases e), fun _ => wantB_ok hR hC hQ hb⟩
      · rename_i hx; simp only [hx]; exact hR C hC _ _ _ _ _ _ _ hQ hb
      · cases hb
    · cases hb
  · cases hb

/- ### regions whose order is drawn -/
omit hR hC hQ in
theorem val_q {o : Oper} {t : List SV} {h : HS} {p : Prop} {v : SV} {h' : HS} (hr : opRes C.T C.F t h o = .val p v h') (hp : pureO o = true) (hd : dOp C.T t h o = true) : ∃ p', resQ C.G (opRes C.T C.F t h o) h = some (p', v) ∧ p' := by
  have h1 := dOp_ok (F := C.F) hd
  have h2 := pure_s (T := C.T) (F := C.F) (t := t) (h := h) hp
  rw [hr] at h1 h2 ⊢
  exact ⟨p ∧ h' = h, rfl, h1, h2⟩
omit hR hC hQ in
theorem reS1B_ok {o : Oper} {t : List SV} {h : HS} (hb : reS1B (pureO o) (dOp C.T t h o) (opRes C.T C.F t h o) o.dst t = true) : reS1 (resQ C.G (opRes C.T C.F t h o) h) o.dst t := by
  unfold reS1B at hb
  split at hb
  · rename_i p v h' hr
    rw [Bool.and_eq_true, Bool.and_eq_true] at hb
    obtain ⟨p', e1, e2⟩ := val_q hr hb.1 hb.2.1
    rw [e1]
    unfold reS1
    have h3 := hb.2.2
    cases hd : o.dst with
    | some d => rw [hd] at h3; exact ⟨e2, svEq_ok _ _ _ h3⟩
    | none => exact e2
  · cases hb
omit hR hC hQ in
theorem reAB_ok {ops : Array Oper} {t : List SV} {h : HS} : ∀ {l : List Nat}, reAB C ops t h l = true → reA C ops t h l
  | [], _ => by simp only [reA]
  | k :: l, hb => by
    simp only [reAB, Bool.and_eq_true] at hb
    (try simp only [reA])
    refine ⟨?_, reAB_ok hb.2⟩
    have h1 := hb.1
    unfold reOB at h1; unfold reO
    split at h1
    · rename_i dst op ty pos aft ho
      (try simp only [ho])
      exact reS1B_ok (o := ⟨dst, op, ty, pos, aft, none⟩) h1
    · rename_i dst op ty pos aft j want ho
      (try simp only [ho])
      split at h1
      · rename_i hj
        (try simp only [hj])
        unfold reGB at h1; unfold reG
        split at h1
        · rename_i b hx
          (try simp only [hx])
          unfold reWB at h1; unfold reW
          cases b <;> cases want <;> simp only at h1 ⊢
          · exact reS1B_ok (o := ⟨dst, op, ty, pos, aft, some (j, false)⟩) h1
          · exact reS1B_ok (o := ⟨dst, op, ty, pos, aft, some (j, true)⟩) h1
        · rename_i hx; simp only [hx]
        · cases h1
      · cases h1
    · cases h1
omit hQ in
theorem lCallB_ok {X : List SV → SV → HS → Bool} {X' : List SV → SV → HS → Prop} (hX : ∀ t v h, X t v h = true → X' t v h) {S : List SV → HS → Bool} {S' : List SV → HS → Prop} (hS : ∀ t h, S t h = true → S' t h) {g : Nat} {args : List SV} {dst : Option Nat} {t : List SV} {h : HS}
    (hb : lCallB C R X (C.inl g) g args dst S t h = true) : lCall C (run C.off n) X' (C.G g) (C.inl g) g args dst S' t h := by
  rw [hC.G g]
  unfold lCallB at hb; unfold lCall
  split at hb
  · rename_i hi
    (try simp only [hi])
    unfold nestS
    split at hb
    · rename_i hfn
      (try simp only [hfn])
      split at hb
      · rename_i hbd
        (try simp only [hbd])
        exact hR C.off hC.off _ _ _ _ _ _ _ (fun o h hh => outB_ok hS hX o h hh) hb
      · cases hb
    · cases hb
  · rename_i hi
    (try simp only [hi])
    exact dfrB_ok hR hC (fun o h hh => outB_ok hS hX o h hh) hb
omit hQ in
theorem goPB_ok {X : List SV → SV → HS → Bool} {X' : List SV → SV → HS → Prop} (hX : ∀ t v h, X t v h = true → X' t v h) {S : List SV → HS → Bool} {S' : List SV → HS → Prop} (hS : ∀ t h, S t h = true → S' t h) {quiet : Bool} {o : Oper} {t : List SV} {h : HS}
    (hb : goPB C R X quiet o S t h = true) : goP C (run C.off n) X' quiet o S' t h := by
  unfold goPB at hb; unfold goP
  cases quiet with
  | true =>
    simp only at hb ⊢
    unfold qGoB at hb
    split at hb
    · rename_i p v h' hr
      rw [Bool.and_eq_true, Bool.and_eq_true] at hb
      obtain ⟨p', e1, e2⟩ := val_q hr hb.1 hb.2.1
      rw [e1]
      exact ⟨e2, hS _ _ hb.2.2⟩
    · cases hb
  | false =>
    simp only at hb ⊢
    have hd := dOp_ok (T := C.T) (F := C.F) (t := t) (h := h) (o := o)
    unfold lGoB at hb; unfold lGo
    generalize opRes C.T C.F t h o = r at hb hd ⊢
    cases r <;> simp only at hb ⊢
    case val => rw [Bool.and_eq_true] at hb; exact ⟨hd hb.1, hS _ _ hb.2⟩
    case skip => rw [Bool.and_eq_true] at hb; exact ⟨hd hb.1, hS _ _ hb.2⟩
    case call => exact lCallB_ok hR hC hX hS hb
    case callN => rw [Bool.and_eq_true] at hb; exact ⟨hd hb.1, lCallB_ok hR hC hX hS hb.2⟩
    case round =>
      rw [Bool.and_eq_true] at hb
      refine rounds_of_run (C := C.rnd) hC.rnd.ok rfl rfl (fun o h' hq => ?_) n hb.1 (hR C.rnd hC.rnd _ _ _ _ _ _ _ (fun o h hh => hh) hb.2)
      unfold rndB at hq
      split at hq
      · exact ⟨_, rfl, hS _ _ hq⟩
      · cases hq
    all_goals cases hb
omit hQ in
theorem gateB_ok {X : List SV → SV → HS → Bool} {X' : List SV → SV → HS → Prop} (hX : ∀ t v h, X t v h = true → X' t v h) {S : List SV → HS → Bool} {S' : List SV → HS → Prop} (hS : ∀ t h, S t h = true → S' t h) {ops : Array Oper} {quiet : Bool} {o : Option Oper} {t : List SV} {h : HS}
    (hb : gateB C R X ops quiet o S t h = true) : gate C (run C.off n) X' ops quiet o S' t h := by
  have hw : ∀ b want o t, gateWB C R X b want quiet o S t h = true → gateW C (run C.off n) X' b want quiet o S' t h := fun b want o t hb => by
    unfold gateWB at hb; unfold gateW
    cases b <;> cases want <;> simp only at hb ⊢
    · exact goPB_ok hR hC hX hS hb
    · exact hS _ _ hb
    · exact hS _ _ hb
    · exact goPB_ok hR hC hX hS hb
  unfold gateB at hb; unfold gate
  split at hb
  · exact goPB_ok hR hC hX hS hb
  · split at hb
    · rename_i hj
      (try simp only [hj])
      unfold gateGB at hb; unfold gateG
      split at hb
      · rename_i hx; simp only [hx]; exact ⟨fun _ => hw _ _ _ _ hb, fun e => by cases e⟩
      · rename_i hx; simp only [hx]; exact ⟨(fun e => by cases e), fun _ => hw _ _ _ _ hb⟩
      · rename_i hx; simp only [hx]; exact hS _ _ hb
      · cases hb
    · cases hb
  · cases hb
theorem planB_ok {fid : Nat} {ops : Array Oper} {k : List It} {fs : List Fr} : ∀ {p : Plan} {t : List SV} {h : HS}, planB C R (panB C.D Q) Q fid ops k fs p t h = true → planS C (run C n) (run C.off n) (panQ C.D Q') Q' fid ops k fs p t h
  | .done, t, h, hb => by simp only [planB] at hb; simp only [planS]; exact hR C hC _ _ _ _ _ _ _ hQ hb
  | .quiet i p, t, h, hb => by simp only [planB] at hb; simp only [planS]; exact gateB_ok hR hC (fun t v h hh => panB_ok hQ hh) (fun t h hh => planB_ok hh) hb
  | .loud i re p, t, h, hb => by
    simp only [planB] at hb
    (try simp only [planS])
    refine gateB_ok hR hC (fun t v h hh => panB_ok hQ hh) (fun t h hh => ?_) hb
    unfold thenB at hh
    rw [Bool.and_eq_true] at hh
    exact ⟨reAB_ok hh.1, planB_ok hh.2⟩
  | .both p q, t, h, hb => by
    simp only [planB, Bool.and_eq_true] at hb
    (try simp only [planS])
    exact ⟨planB_ok hb.1, planB_ok hb.2⟩
theorem drawB_ok {p : Option Plan} {fid : Nat} {ops : Array Oper} {k : List It} {t : List SV} {fs : List Fr} {h : HS} (hb : drawB C R Q p fid ops k t fs h = true) : drawS C (run C n) (run C.off n) Q' p fid ops k t fs h := by
  unfold drawB at hb; unfold drawS
  split at hb
  · rw [Bool.and_eq_true, Bool.and_eq_true] at hb
    exact ⟨⟨hb.1, hb.2.1⟩, planB_ok hR hC hQ hb.2.2⟩
  · cases hb
theorem codeB_ok {fid : Nat} {c : Code} {k : List It} {t : List SV} {fs : List Fr} {h : HS} (hb : codeB R C fid c k t fs h Q = true) : run C (n + 1) fid (.code c :: k) t fs h Q' := by
  unfold codeB at hb
  split at hb
  · simp only [run]; exact hR C hC _ _ _ _ _ _ _ hQ hb
  · simp only [run]; exact hR C hC _ _ _ _ _ _ _ hQ hb
  · simp only [run]; exact hR C hC _ _ _ _ _ _ _ hQ hb
  · simp only [run]; exact condB_ok hR hC hQ hb
  · simp only [run]; exact hR C hC _ _ _ _ _ _ _ hQ hb
  · simp only [run]; exact .inr (hR C hC _ _ _ _ _ _ _ hQ hb)
  · simp only [run]; exact hR C hC _ _ _ _ _ _ _ hQ hb
  · simp only [run]; exact exitB_ok hR hC hQ hb
  · simp only [run]; exact rngB_ok hR hC hQ hb
  · simp only [run]; exact retB_ok hR hC hQ (fun e => leaveB_ok hR hC hQ e) hb
  · simp only [run]; exact hR C hC _ _ _ _ _ _ _ hQ hb
  · simp only [run]; exact drawB_ok hR hC hQ hb
  · cases hb
end
theorem stepB_ok {n : Nat} {R : RnB} (hR : Snd n R) : Snd (n + 1) (stepB R) := by
  intro C hC fid k t fs h Q Q' hQ hb
  unfold stepB at hb
  split at hb
  · simp only [run]; exact leaveB_ok hR hC hQ hb
  · exact codeB_ok hR hC hQ hb
  · simp only [run]; exact hR C hC _ _ _ _ _ _ _ hQ hb
  · simp only [run]; exact hR C hC _ _ _ _ _ _ _ hQ hb
  · simp only [run]; exact hR C hC _ _ _ _ _ _ _ hQ hb
  · simp only [run]; exact hR C hC _ _ _ _ _ _ _ hQ hb
  · simp only [run]; exact opB_ok hR hC hQ hb
  · simp only [run]; exact endRngB_ok hR hC hQ hb
  · simp only [run]; exact beginRB_ok hR hC hQ hb
  · simp only [run]; exact endRB_ok hR hC hQ hb
  · cases hb
theorem runB_ok : ∀ n, Snd n (runB n)
  | 0 => fun C hC fid k t fs h Q Q' hQ hb => by cases hb
  | n + 1 => by rw [runB_succ]; exact stepB_ok (runB_ok n)
/-- A call that is reckoned. -/
theorem calls_of_runB {C : Ctx} (hC : CtxE C) (hD : C.off = C) {g : Nat} {fn : Func} {c : Code} (hf : C.FN g = some fn) (hb : fn.body = some c) {args : List SV} {h : HS} {Q : Out → HS → Bool} (n : Nat)
    (hrun : runB n C g [.code c] (catS args (anys (fn.ntmps - lenS args))) [] h Q = true) : CallsS C.P g args h (fun o h' => Q o h' = true) :=
  calls_of_run hC.ok hD hf hb n (runB_ok n C hC _ _ _ _ _ _ _ (fun _ _ e => e) hrun)
end Go.Eng
end

/- Plans. -/
section
namespace Go.Eng
def x14_17 : Plan := .quiet 0 (.quiet 1 (.quiet 2 (.quiet 3 (.quiet 4 (.quiet 5 (.done))))))
def x18_2 : Plan := .quiet 0 (.quiet 1 (.loud 2 [1] (.loud 3 [] (.quiet 4 (.loud 5 [] (.done))))))
def x18_4 : Plan := .quiet 0 (.quiet 1 (.loud 2 [1] (.loud 3 [] (.quiet 4 (.loud 5 [] (.done))))))
def x18_12 : Plan := .quiet 0 (.quiet 1 (.quiet 2 (.quiet 3 (.quiet 4 (.quiet 5 (.loud 6 [] (.done)))))))
def x18_15 : Plan := .quiet 0 (.quiet 1 (.quiet 2 (.quiet 3 (.quiet 4 (.quiet 5 (.quiet 6 (.quiet 7 (.quiet 8 (.loud 9 [6, 7] (.loud 10 [] (.quiet 11 (.loud 12 [] (.done)))))))))))))
def x46_1 : Plan := .quiet 0 (.quiet 1 (.quiet 2 (.quiet 3 (.quiet 4 (.quiet 5 (.quiet 6 (.quiet 7 (.quiet 8 (.quiet 9 (.quiet 10 (.quiet 11 (.quiet 12 (.loud 13 [] (.done))))))))))))))
def x46_13 : Plan := .quiet 0 (.quiet 1 (.quiet 2 (.quiet 3 (.quiet 4 (.quiet 5 (.quiet 6 (.quiet 7 (.loud 8 [0, 1, 3, 4, 6, 7] (.loud 9 [] (.done))))))))))
def x46_18 : Plan := .quiet 0 (.quiet 1 (.quiet 2 (.quiet 3 (.quiet 4 (.quiet 5 (.quiet 6 (.loud 7 [] (.done))))))))
def x46_19 : Plan := .quiet 0 (.quiet 1 (.quiet 2 (.quiet 3 (.quiet 4 (.quiet 5 (.quiet 6 (.quiet 7 (.quiet 8 (.quiet 9 (.loud 10 [] (.done)))))))))))
def x46_20 : Plan := .quiet 0 (.quiet 1 (.quiet 2 (.quiet 3 (.quiet 4 (.quiet 5 (.quiet 6 (.quiet 7 (.quiet 8 (.quiet 9 (.quiet 10 (.loud 11 [4, 5, 7, 8] (.quiet 12 (.quiet 13 (.done))))))))))))))
def x56_3 : Plan := .quiet 0 (.quiet 1 (.quiet 2 (.quiet 3 (.quiet 4 (.quiet 5 (.quiet 6 (.loud 7 [] (.done))))))))
def x56_7 : Plan := .quiet 0 (.quiet 1 (.quiet 2 (.quiet 3 (.quiet 4 (.quiet 5 (.quiet 6 (.quiet 7 (.loud 8 [2, 3, 4] (.quiet 9 (.quiet 10 (.loud 11 [] (.done))))))))))))
def x97_3 : Plan := .quiet 0 (.quiet 1 (.quiet 2 (.quiet 3 (.quiet 4 (.quiet 5 (.quiet 6 (.quiet 7 (.quiet 8 (.quiet 9 (.quiet 10 (.quiet 11 (.quiet 12 (.quiet 13 (.quiet 14 (.quiet 15 (.quiet 16 (.done)))))))))))))))))
def x103_2 : Plan := .quiet 0 (.quiet 1 (.loud 2 [] (.quiet 3 (.quiet 4 (.quiet 5 (.quiet 6 (.quiet 7 (.quiet 8 (.quiet 9 (.quiet 10 (.quiet 11 (.quiet 12 (.loud 13 [] (.quiet 14 (.quiet 15 (.quiet 16 (.quiet 17 (.quiet 18 (.quiet 21 (.quiet 22 (.loud 19 [21, 22] (.quiet 20 (.quiet 23 (.quiet 24 (.quiet 25 (.done))))))))))))))))))))))))))
def x109_2 : Plan := .quiet 0 (.quiet 1 (.quiet 2 (.quiet 3 (.quiet 4 (.quiet 5 (.quiet 6 (.quiet 7 (.quiet 8 (.loud 9 [] (.done))))))))))
def x109_3 : Plan := .quiet 0 (.quiet 1 (.quiet 2 (.quiet 3 (.quiet 4 (.quiet 5 (.quiet 6 (.quiet 7 (.quiet 8 (.quiet 9 (.quiet 10 (.quiet 11 (.quiet 12 (.loud 13 [] (.done))))))))))))))
def x109_4 : Plan := .quiet 0 (.quiet 1 (.quiet 2 (.quiet 3 (.quiet 4 (.quiet 5 (.quiet 6 (.quiet 7 (.quiet 8 (.quiet 9 (.quiet 10 (.loud 11 [] (.done))))))))))))
def x109_5 : Plan := .quiet 0 (.quiet 1 (.quiet 2 (.quiet 3 (.quiet 4 (.quiet 5 (.quiet 6 (.quiet 7 (.quiet 8 (.done)))))))))
def x109_7 : Plan := .quiet 0 (.quiet 1 (.quiet 2 (.quiet 3 (.quiet 4 (.quiet 5 (.quiet 6 (.quiet 7 (.quiet 8 (.quiet 9 (.quiet 10 (.quiet 11 (.quiet 12 (.quiet 13 (.quiet 14 (.quiet 15 (.loud 16 [] (.done)))))))))))))))))
def planX : List (Nat × Nat × Plan) := [(14, 17, x14_17), (18, 2, x18_2), (18, 4, x18_4), (18, 12, x18_12), (18, 15, x18_15), (46, 1, x46_1), (46, 13, x46_13), (46, 18, x46_18), (46, 19, x46_19), (46, 20, x46_20), (56, 3, x56_3), (56, 7, x56_7), (97, 3, x97_3), (103, 2, x103_2), (109, 2, x109_2), (109, 3, x109_3), (109, 4, x109_4), (109, 5, x109_5), (109, 7, x109_7)]
end Go.Eng
end

/- What awake tells: true. Reckoned. -/
section
namespace Go.Eng
open Go Go.RowKit Go.Proofs
set_option maxRecDepth 100000
def isT (o : Out) (h : HS) : Bool := match o with
  | .ret (.bool b) => b
  | _ => false
theorem isT_ok {o : Out} {h : HS} (he : isT o h = true) : o = .ret (.bool true) := by
  unfold isT at he
  split at he
  · rw [he]
  · cases he
theorem awake03_run : runB 20000 (cx [18, 43] [] [] planX none) 13 [.code (Try.f13.body.getD .skip)] (catS [] (anys (Try.f13.ntmps - lenS []))) [] ⟨[], []⟩ isT = true := by kernel_rfl
def awake03Base : BaseF := fun args => match args with
  | [] => some (True, .bool true)
  | _ => none
theorem awake03_eq : awake03Base [] = some (True, .bool true) := rfl
theorem awake03_base : Base Try.prog 13 awake03Base := by
  intro args p v hq hp
  unfold awake03Base at hq
  split at hq
  rotate_left
  · cases hq
  cases hq
  exact ⟨trivial, calls_mono (fun o h he => ⟨.bool true, isT_ok he, .inl ⟨trivial, SameD.rfl' _⟩⟩) (calls_of_runB (C := cx [18, 43] [] [] planX none) ⟨cx_ok trivial trivial, fun g => rfl⟩ rfl (g := 13) (fn := Try.f13) (fn_13) rfl 20000 awake03_run)⟩
end Go.Eng
end

/- TopCold. -/
section
namespace Go.Eng
open Go Go.RowKit Go.Proofs
set_option maxRecDepth 100000
set_option maxHeartbeats 4000000
attribute [local irreducible] OwnT DefS
def b7 : Nat → Int
  | 0 => 1
  | i + 1 => 7 * b7 i
theorem b7_le : ∀ i, i ≤ 6 → b7 i ≤ 117649 := by decide
def topColdBase : BaseF := fun args => match args with
  | [.agg [.row n sz_A f_A, .row h sz_nd f_nd, .row q sz_pr f_pr, .int .i64 st, .int .i64 ro, .int .i64 pk, .int .i64 fr], .int .u16 heat, .int .u8 room] => some ((sz_A = 5 ∧ NestR n 5 0 2 f_A) ∧ (sz_nd = 1 ∧ IntR h 1 f_nd) ∧ (sz_pr = 1 ∧ IntR q 1 f_pr) ∧ ((Lit.int .u16 heat).wf = true) ∧ ((Lit.int .u8 room).wf = true), .bool true)
  | _ => none
theorem topCold_base : Base Try.prog 4 topColdBase := by
  intro args p v hq hp
  unfold topColdBase at hq
  split at hq
  rotate_left
  · cases hq
  rename_i n sz_A f_A h sz_nd f_nd q sz_pr f_pr st ro pk fr heat room
  cases hq
  obtain ⟨⟨rfl, i_A⟩, ⟨rfl, i_nd⟩, ⟨rfl, i_pr⟩, wf_heat, wf_room⟩ := hp
  refine base_of (C := cxn [] [(14, cheapestBase), (17, behindBase)] [] [(13, awake03Base), (15, pressesBase), (16, formsBase), (18, bplayBase)] [(4, 37, p4_37)] none) (cxn_ok ⟨cheapest_base, behind_base, trivial⟩ trivial ⟨awake03_base, presses_base, forms_base, bplay_base, trivial⟩) rfl (g := 4) (fn := Try.f4)
    (args' := [.agg [.row n 5 (nestF 0 2 (nsA f_A) (nsM 0 f_A) (nsV 0 f_A)), .row h 1 (rowF .i64 (ivf f_nd)), .row q 1 (rowF .i64 (ivf f_pr)), .int .i64 st, .int .i64 ro, .int .i64 pk, .int .i64 fr], .int .u16 heat, .int .u8 room]) (fn_4) rfl 1000 (by
    simp only [BdL, Bd, and_self, and_true, true_and]
    exact ⟨(fun i j hi hj => nest_bd i_A i j hi hj), (fun i j hi hj => by rw [i_nd i j hi hj]; trivial), (fun i j hi hj => by rw [i_pr i j hi hj]; trivial)⟩) ⟨SameD.agg ⟨SameD.nest i_A, SameD.int i_nd, SameD.int i_pr, SameD.rfl' _, SameD.rfl' _, SameD.rfl' _, SameD.rfl' _, trivial⟩, SameD.rfl' _, SameD.rfl' _, trivial⟩ ?_
  generalize nsA f_A = A
  generalize nsM 0 f_A = M
  generalize nsV 0 f_A = V
  generalize ivf f_nd = nd
  generalize ivf f_pr = pr
  simp only [rowF_eq]
  have hheat := wf_u16 wf_heat
  have hroom := wf_u8 wf_room
  cases c1 : decide (6 < (n : Int)) with
  | true => simp only [c1, awake03_eq, presses_eq, forms_eq, bplay_eq, cheapest_eq, behind_eq, p4_37, prC, chE_ns, chC_ns, chN_ns, cAt_ns, psB_ns, planF, nestF_sh, nestR_lit, nsM_lit, nsV_lit, Try.f4, go_sem, ↓reduceIte, Nat.reduceAdd, Nat.reduceSub, Nat.reduceMul, Nat.reduceEqDiff, Nat.reduceLT, Nat.reduceLeDiff, Int.reduceToNat, Int.reduceLE, Int.reduceLT, Int.reduceEq, Int.reduceNeg, reduceCtorEq]
  | false =>
  cases c2 : decide (20 < (h : Int)) with
  | true => simp only [c1, c2, awake03_eq, presses_eq, forms_eq, bplay_eq, cheapest_eq, behind_eq, p4_37, prC, chE_ns, chC_ns, chN_ns, cAt_ns, psB_ns, planF, nestF_sh, nestR_lit, nsM_lit, nsV_lit, Try.f4, go_sem, ↓reduceIte, Nat.reduceAdd, Nat.reduceSub, Nat.reduceMul, Nat.reduceEqDiff, Nat.reduceLT, Nat.reduceLeDiff, Int.reduceToNat, Int.reduceLE, Int.reduceLT, Int.reduceEq, Int.reduceNeg, reduceCtorEq]
  | false =>
  cases c3 : decide (20 < (q : Int)) with
  | true => simp only [c1, c2, c3, awake03_eq, presses_eq, forms_eq, bplay_eq, cheapest_eq, behind_eq, p4_37, prC, chE_ns, chC_ns, chN_ns, cAt_ns, psB_ns, planF, nestF_sh, nestR_lit, nsM_lit, nsV_lit, Try.f4, go_sem, ↓reduceIte, Nat.reduceAdd, Nat.reduceSub, Nat.reduceMul, Nat.reduceEqDiff, Nat.reduceLT, Nat.reduceLeDiff, Int.reduceToNat, Int.reduceLE, Int.reduceLT, Int.reduceEq, Int.reduceNeg, reduceCtorEq]
  | false =>
  simp only [c1, c2, c3, awake03_eq, presses_eq, forms_eq, bplay_eq, cheapest_eq, behind_eq, p4_37, prC, chE_ns, chC_ns, chN_ns, cAt_ns, psB_ns, planF, nestF_sh, nestR_lit, nsM_lit, nsV_lit, Try.f4, go_sem, ↓reduceIte, Nat.reduceAdd, Nat.reduceSub, Nat.reduceMul, Nat.reduceEqDiff, Nat.reduceLT, Nat.reduceLeDiff, Int.reduceToNat, Int.reduceLE, Int.reduceLT, Int.reduceEq, Int.reduceNeg, reduceCtorEq]
  simp only [decide_eq_false_iff_not] at c1 c2 c3
  refine loop_ofH { p : Nat × Int // p.1 ≤ n ∧ (1 ≤ p.2 ∧ p.2 ≤ b7 p.1) ∧ ∀ j, j < p.1 → M j ≤ 6 } (fun p => [(49, .int .i64 (p.1.1 : Int)), (48, .int .i64 (n : Int)), (47, .row n 5 (nestF 0 2 A M V)), (8, .int .i64 1), (7, .int .i64 p.1.2), (3, .ptr 0 0), (2, .int .u8 room), (1, .int .u16 heat)]) (fun h _ => h) (fun p => n - p.1.1) (fun _ => ⟨rfl, rfl⟩) ⟨(0, 1), by omega, by simp [b7], fun j hj => absurd hj (by simp)⟩ (by (apply sub_of <;> simp only [go_sem, ↓reduceIte, Nat.reduceAdd, Nat.reduceSub, Nat.reduceMul, Nat.reduceEqDiff, Nat.reduceLT, Nat.reduceLeDiff, Int.reduceToNat, Int.reduceLE, Int.reduceLT, Int.reduceEq, Int.reduceNeg, reduceCtorEq] <;> (try simp [catF]) <;> (try exact fun j _ => Bd_nth (by simp [BdL, Bd]) j) <;> (try exact bd_setL (by simp [bdAs, BdL, Bd])) <;> (try exact nestF_bd _ _ _ _ _ _ _ _ _)); all_goals exact nestF_bd _ _ _ _ _ _ _ _ _) ?_
  rintro ⟨⟨i, ea⟩, hi, he, hM⟩
  simp only at hi he hM ⊢
  by_cases hin : i < n
  · have d1 : decide ((i : Int) < (n : Int)) = true := decide_eq_true (by omega)
    cases d2 : decide (6 < (M i : Int)) with
    | true =>
      simp only [d1, d2, nestF_eq, Int.toNat_natCast, awake03_eq, presses_eq, forms_eq, bplay_eq, cheapest_eq, behind_eq, p4_37, prC, chE_ns, chC_ns, chN_ns, cAt_ns, psB_ns, planF, nestF_sh, nestR_lit, nsM_lit, nsV_lit, Try.f4, go_sem, ↓reduceIte, Nat.reduceAdd, Nat.reduceSub, Nat.reduceMul, Nat.reduceEqDiff, Nat.reduceLT, Nat.reduceLeDiff, Int.reduceToNat, Int.reduceLE, Int.reduceLT, Int.reduceEq, Int.reduceNeg, reduceCtorEq]
      omega
    | false =>
    simp only [decide_eq_false_iff_not] at d2
    have d2' : decide (6 < (M i : Int)) = false := decide_eq_false d2
    have hb := b7_le i (by omega)
    have m1 := Int.mul_le_mul he.2 (show (1 : Int) + (M i : Int) ≤ 7 by omega) (by omega) (by omega)
    have m2 := Int.mul_le_mul he.1 (show (1 : Int) ≤ 1 + (M i : Int) by omega) (by omega) (by omega)
    have hb1 : b7 (i + 1) = 7 * b7 i := rfl
    have w1 : IntKind.i64.wrap (1 + (M i : Int)) = 1 + (M i : Int) := wrap_id (by omega) (by omega)
    have w2 : IntKind.i64.wrap (ea * (1 + (M i : Int))) = ea * (1 + (M i : Int)) := wrap_id (by omega) (by omega)
    have w3 : IntKind.i64.wrap ((i : Int) + 1) = ((i + 1 : Nat) : Int) := by rw [wrap_id (by omega) (by omega)]; omega
    simp only [d1, d2', w1, w2, w3, nestF_eq, Int.toNat_natCast, awake03_eq, presses_eq, forms_eq, bplay_eq, cheapest_eq, behind_eq, p4_37, prC, chE_ns, chC_ns, chN_ns, cAt_ns, psB_ns, planF, nestF_sh, nestR_lit, nsM_lit, nsV_lit, Try.f4, go_sem, ↓reduceIte, Nat.reduceAdd, Nat.reduceSub, Nat.reduceMul, Nat.reduceEqDiff, Nat.reduceLT, Nat.reduceLeDiff, Int.reduceToNat, Int.reduceLE, Int.reduceLT, Int.reduceEq, Int.reduceNeg, reduceCtorEq]
    refine ⟨by omega, ⟨(i + 1, ea * (1 + (M i : Int))), by omega, ⟨by omega, by simp only [hb1]; omega⟩, fun j hj => ?_⟩, by simp only []; omega, ?_⟩
    · rcases Nat.lt_or_ge j i with g | g
      · exact hM j g
      · have hj' : j < i + 1 := hj
        obtain rfl : j = i := by omega
        omega
    apply sub_of <;> simp only [go_sem, ↓reduceIte, Nat.reduceAdd, Nat.reduceSub, Nat.reduceMul, Nat.reduceEqDiff, Nat.reduceLT, Nat.reduceLeDiff, Int.reduceToNat, Int.reduceLE, Int.reduceLT, Int.reduceEq, Int.reduceNeg, reduceCtorEq] <;> (try simp) <;> (try exact fun j _ => Bd_nth (by simp [BdL, Bd]) j) <;> (try exact bd_setL (by simp [bdAs, BdL, Bd])) <;> (try exact nestF_bd _ _ _ _ _ _ _ _ _)
  have d1 : decide ((i : Int) < (n : Int)) = false := decide_eq_false (by omega)
  obtain rfl : n = i := by omega
  have hb := b7_le n (by omega)
  simp only [d1, awake03_eq, presses_eq, forms_eq, bplay_eq, cheapest_eq, behind_eq, p4_37, prC, chE_ns, chC_ns, chN_ns, cAt_ns, psB_ns, planF, nestF_sh, nestR_lit, nsM_lit, nsV_lit, Try.f4, go_sem, ↓reduceIte, Nat.reduceAdd, Nat.reduceSub, Nat.reduceMul, Nat.reduceEqDiff, Nat.reduceLT, Nat.reduceLeDiff, Int.reduceToNat, Int.reduceLE, Int.reduceLT, Int.reduceEq, Int.reduceNeg, reduceCtorEq]
  refine loop_ofH { p : Nat × Int // p.1 ≤ h ∧ 1 ≤ p.2 ∧ p.2 ≤ 20001 } (fun p => [(68, .int .i64 (p.1.1 : Int)), (67, .int .i64 (h : Int)), (8, .int .i64 p.1.2), (7, .int .i64 ea), (3, .ptr 0 0), (2, .int .u8 room), (1, .int .u16 heat)]) (fun h _ => h) (fun p => h - p.1.1) (fun _ => ⟨rfl, rfl⟩) ⟨(0, 1), by omega, by simp⟩ (by (apply sub_of <;> simp only [go_sem, ↓reduceIte, Nat.reduceAdd, Nat.reduceSub, Nat.reduceMul, Nat.reduceEqDiff, Nat.reduceLT, Nat.reduceLeDiff, Int.reduceToNat, Int.reduceLE, Int.reduceLT, Int.reduceEq, Int.reduceNeg, reduceCtorEq] <;> (try simp [catF]) <;> (try exact fun j _ => Bd_nth (by simp [BdL, Bd]) j) <;> (try exact bd_setL (by simp [bdAs, BdL, Bd])) <;> (try exact nestF_bd _ _ _ _ _ _ _ _ _)); all_goals exact nestF_bd _ _ _ _ _ _ _ _ _) ?_
  rintro ⟨⟨j, pl⟩, hj, hp⟩
  simp only at hj hp ⊢
  have hp' := hp
  by_cases hjn : j < h
  · have d2 : decide ((j : Int) < (h : Int)) = true := decide_eq_true (by omega)
    have m1 := Int.mul_le_mul hp.2 (show ea ≤ 117649 by omega) (by omega) (by omega)
    have m2 := Int.mul_le_mul hp.1 he.1 (by omega) (by omega)
    have w2 : IntKind.i64.wrap (pl * ea) = pl * ea := wrap_id (by omega) (by omega)
    have w3 : IntKind.i64.wrap ((j : Int) + 1) = ((j + 1 : Nat) : Int) := by rw [wrap_id (by omega) (by omega)]; omega
    simp only [d2, w2, w3, awake03_eq, presses_eq, forms_eq, bplay_eq, cheapest_eq, behind_eq, p4_37, prC, chE_ns, chC_ns, chN_ns, cAt_ns, psB_ns, planF, nestF_sh, nestR_lit, nsM_lit, nsV_lit, Try.f4, go_sem, ↓reduceIte, Nat.reduceAdd, Nat.reduceSub, Nat.reduceMul, Nat.reduceEqDiff, Nat.reduceLT, Nat.reduceLeDiff, Int.reduceToNat, Int.reduceLE, Int.reduceLT, Int.reduceEq, Int.reduceNeg, reduceCtorEq]
    refine ⟨⟨(j + 1, min (pl * ea) 20001), by omega, by simp only []; omega, by simp only []; omega⟩, by simp only []; omega, ?_⟩
    apply sub_of <;> simp only [go_sem, ↓reduceIte, Nat.reduceAdd, Nat.reduceSub, Nat.reduceMul, Nat.reduceEqDiff, Nat.reduceLT, Nat.reduceLeDiff, Int.reduceToNat, Int.reduceLE, Int.reduceLT, Int.reduceEq, Int.reduceNeg, reduceCtorEq] <;> (try simp) <;> (try exact fun j _ => Bd_nth (by simp [BdL, Bd]) j) <;> (try exact bd_setL (by simp [bdAs, BdL, Bd])) <;> (try exact nestF_bd _ _ _ _ _ _ _ _ _)
  have d2 : decide ((j : Int) < (h : Int)) = false := decide_eq_false (by omega)
  obtain rfl : h = j := by omega
  cases c4 : decide (20000 < pl) with
  | true => simp only [d2, c4, awake03_eq, presses_eq, forms_eq, bplay_eq, cheapest_eq, behind_eq, p4_37, prC, chE_ns, chC_ns, chN_ns, cAt_ns, psB_ns, planF, nestF_sh, nestR_lit, nsM_lit, nsV_lit, Try.f4, go_sem, ↓reduceIte, Nat.reduceAdd, Nat.reduceSub, Nat.reduceMul, Nat.reduceEqDiff, Nat.reduceLT, Nat.reduceLeDiff, Int.reduceToNat, Int.reduceLE, Int.reduceLT, Int.reduceEq, Int.reduceNeg, reduceCtorEq]
  | false =>
  have hch : (n ≤ 1000000 ∧ ∀ a, a < n → M a ≤ 1000000) ∧ h ≤ 1000000 ∧ q ≤ 1000000 := ⟨⟨by omega, fun a ha => by have := hM a ha; omega⟩, by omega, by omega⟩
  by_cases ce : chE (psB n A M V h nd q pr st ro pk fr) ⟨n, A, M, V, h, nd, pr, st, ro, pk, fr⟩ = 0
  rotate_left
  · have e3 : chN (psB n A M V h nd q pr st ro pk fr) ⟨n, A, M, V, h, nd, pr, st, ro, pk, fr⟩ = 0 := by simp only [chN, if_neg ce]
    have hd : decide (chE (psB n A M V h nd q pr st ro pk fr) ⟨n, A, M, V, h, nd, pr, st, ro, pk, fr⟩ = 0) = false := decide_eq_false ce
    simp only [d2, c4, hd, e3, awake03_eq, presses_eq, forms_eq, bplay_eq, cheapest_eq, behind_eq, p4_37, prC, chE_ns, chC_ns, chN_ns, cAt_ns, psB_ns, planF, nestF_sh, nestR_lit, nsM_lit, nsV_lit, Try.f4, go_sem, ↓reduceIte, Nat.reduceAdd, Nat.reduceSub, Nat.reduceMul, Nat.reduceEqDiff, Nat.reduceLT, Nat.reduceLeDiff, Int.reduceToNat, Int.reduceLE, Int.reduceLT, Int.reduceEq, Int.reduceNeg, reduceCtorEq]
    exact ⟨hch, spl_t rfl trivial⟩
  cases hb : psB n A M V h nd q pr st ro pk fr with
  | false => rw [hb] at ce; simp [chE] at ce
  | true =>
  rw [hb] at ce
  obtain ⟨rfl, hOk⟩ := psB_iff.1 hb
  obtain ⟨D, hD⟩ : ∃ D : PD, (⟨n, A, M, V, q, nd, pr, st, ro, pk, fr⟩ : PD) = D := ⟨_, rfl⟩
  rw [hD] at ce hOk
  obtain ⟨x, hx⟩ : ∃ x, bestM D D.h (begP D) = some x := by
    simp only [chE, if_true] at ce
    cases hz : bestM D D.h (begP D) with
    | none => rw [hz] at ce; simp at ce
    | some x => exact ⟨x, rfl⟩
  have dn : n = D.n := by rw [← hD]
  have dA : A = D.A := by rw [← hD]
  have dM : M = D.M := by rw [← hD]
  have dV : V = D.V := by rw [← hD]
  have dh : q = D.h := by rw [← hD]
  have dnd : nd = D.nd := by rw [← hD]
  have dpr : pr = D.pr := by rw [← hD]
  have dst : st = D.st := by rw [← hD]
  have dro : ro = D.ro := by rw [← hD]
  have dpk : pk = D.pk := by rw [← hD]
  have dfr : fr = D.fr := by rw [← hD]
  subst dn dA dM dV dh dnd dpr dst dro dpk dfr
  have eN : chN true D = D.h := by simp only [chN, ce, if_true]
  have hfo := forms_own hOk hx
  have own := own_plM hOk hx
  have w1 : IntKind.i64.wrap heat = heat := wrap_id (by omega) (by omega)
  have w2 : IntKind.i64.wrap room = room := wrap_id (by omega) (by omega)
  have w3 : IntKind.i64.wrap (100 + heat) = 100 + heat := wrap_id (by omega) (by omega)
  have z0 : decide ((0 : Int) = 0) = true := rfl
  have z1 : decide ((D.h : Int) = (D.h : Int)) = true := decide_eq_true rfl
  simp only [d2, c4, hb, hD, ce, eN, hfo, w1, w2, w3, z0, z1, awake03_eq, presses_eq, forms_eq, bplay_eq, cheapest_eq, behind_eq, p4_37, prC, chE_ns, chC_ns, chN_ns, cAt_ns, psB_ns, planF, nestF_sh, nestR_lit, nsM_lit, nsV_lit, Try.f4, go_sem, ↓reduceIte, Nat.reduceAdd, Nat.reduceSub, Nat.reduceMul, Nat.reduceEqDiff, Nat.reduceLT, Nat.reduceLeDiff, Int.reduceToNat, Int.reduceLE, Int.reduceLT, Int.reduceEq, Int.reduceNeg, reduceCtorEq]
  refine ⟨⟨hch.1, hch.2.1⟩, ⟨hch.1, hch.2.1⟩, ⟨hch.2.1, fun _ _ => hch.1.1⟩, ?_⟩
  have hn := hOk.n
  have hm := hOk.h
  have hc : ∀ i, i < D.h → chOk D (cAt D i) := fun i hi => by obtain ⟨p, hp, e⟩ := cAt_dig hOk hx hi; rw [e]; exact dig_ok hOk hp
  have e4 : (plM D (cAt D) D.h).e = 0 := (own D.h (Nat.le_refl _)).1
  have hpl : ∀ k, k ≤ D.h → (plM D (cAt D) k).e = 0 := fun k hk => (own k hk).1
  have hsu := su_bd hOk (Nat.le_refl _) hc
  have hxb := hx
  clear own hx hfo hch c1 c2 c3 d1 d2 c4 hj hjn hp hp' he w1 w2 w3 z0 z1
  refine loop_ofH { x : Nat // x ≤ D.h } (fun x => [(120, .int .i64 (x.1 : Int)), (119, .int .i64 (D.h : Int)), (118, (.row D.h 1 (nestF 0 1 Eng.z0 (fun _ => D.n) (plV (cAt D))))), (17, .int .i64 (suC D (cAt D) x.1)), (16, .int .i64 (suN D x.1)), (15, .vec 2 x.1), (14, .ptr 1 0), (11, (.row D.h 1 (nestF 0 1 Eng.z0 (fun _ => D.n) (plV (cAt D))))), (3, .ptr 0 0)])
    (fun h x => ⟨h.blks, [.live 0 64 2 1 (oneF [.int .i64 10, .nils 61 2]), .dead, .live x.1 72 4 (2 * x.1) (fun a b => .int .i64 (evC D (cAt D) a b))]⟩) (fun x => D.h - x.1) (fun _ => ⟨rfl, rfl⟩) ⟨0, by omega⟩ (by
      simp only [suC, suN]
      (apply sub_of <;> simp only [go_sem, ↓reduceIte, Nat.reduceAdd, Nat.reduceSub, Nat.reduceMul, Nat.reduceEqDiff, Nat.reduceLT, Nat.reduceLeDiff, Int.reduceToNat, Int.reduceLE, Int.reduceLT, Int.reduceEq, Int.reduceNeg, reduceCtorEq] <;> (try simp [catF]) <;> (try exact fun j _ => Bd_nth (by simp [BdL, Bd]) j) <;> (try exact bd_setL (by simp [bdAs, BdL, Bd])) <;> (try exact nestF_bd _ _ _ _ _ _ _ _ _))
      · exact fun i _ => nestF_bd1 _ _ _ _ _ _ _ i 0
      · intro i j hi hj
        exact Bd_nth (by simp [BdL, Bd]) j) ?_
  rintro ⟨x, hx⟩
  simp only at hx ⊢
  have wx : IntKind.i64.wrap ((x : Int) + 1) = ((x + 1 : Nat) : Int) := by rw [wrap_id (by omega) (by omega)]; omega
  rcases Nat.lt_or_ge x D.h with hxm | hxm
  rotate_left
  · obtain rfl : x = D.h := by omega
    have d1 : decide ((D.h : Int) < (D.h : Int)) = false := decide_eq_false (by omega)
    simp only [d1, awake03_eq, presses_eq, forms_eq, bplay_eq, cheapest_eq, behind_eq, p4_37, prC, chE_ns, chC_ns, chN_ns, cAt_ns, psB_ns, planF, nestF_sh, nestR_lit, nsM_lit, nsV_lit, Try.f4, go_sem, ↓reduceIte, Nat.reduceAdd, Nat.reduceSub, Nat.reduceMul, Nat.reduceEqDiff, Nat.reduceLT, Nat.reduceLeDiff, Int.reduceToNat, Int.reduceLE, Int.reduceLT, Int.reduceEq, Int.reduceNeg, reduceCtorEq]
    have hs := sto_su hOk (C := cAt D) D.h e4
    have hk := (plM_ok hOk (C := cAt D) D.h (Nat.le_refl _) hc e4).1.2.1
    have hs2 := hsu D.h (Nat.le_refl _)
    have hst := hOk.st
    have hro := hOk.ro
    refine spl_t (decide_eq_true ?_) trivial
    rw [wrap_id (by omega) (by omega)]
    omega
  have d1 : decide ((x : Int) < (D.h : Int)) = true := decide_eq_true (by omega)
  simp only [d1, wx, nestF_eq, Int.toNat_natCast, awake03_eq, presses_eq, forms_eq, bplay_eq, cheapest_eq, behind_eq, p4_37, prC, chE_ns, chC_ns, chN_ns, cAt_ns, psB_ns, planF, nestF_sh, nestR_lit, nsM_lit, nsV_lit, Try.f4, go_sem, ↓reduceIte, Nat.reduceAdd, Nat.reduceSub, Nat.reduceMul, Nat.reduceEqDiff, Nat.reduceLT, Nat.reduceLeDiff, Int.reduceToNat, Int.reduceLE, Int.reduceLT, Int.reduceEq, Int.reduceNeg, reduceCtorEq]
  refine ⟨by omega, ?_⟩
  have hmb := made_bnd hOk (hc x hxm)
  have bdq : ∀ i j, i < 1 → j < 2 → Bd 2 3 (oneF [.int .i64 10, .nils 61 2] i j) := fun i j _ _ => Bd_nth (by simp [BdL, Bd]) j
  refine loop_ofH { i : Nat // i ≤ D.n } (fun i => [(127, .int .i64 (i.1 : Int)), (126, .int .i64 (D.n : Int)), (125, .row D.n 1 (fun a b => .int .i64 (plV (cAt D) x a b))), (20, .int .i64 (madeP D (cAt D x) i.1)), (18, .int .i64 (x : Int)), (120, .int .i64 (x : Int)), (119, .int .i64 (D.h : Int)), (118, (.row D.h 1 (nestF 0 1 Eng.z0 (fun _ => D.n) (plV (cAt D))))), (17, .int .i64 (suC D (cAt D) x)), (16, .int .i64 (suN D x)), (15, .vec 2 x), (14, .ptr 1 0), (11, (.row D.h 1 (nestF 0 1 Eng.z0 (fun _ => D.n) (plV (cAt D))))), (3, .ptr 0 0)]) (fun h _ => h) (fun i => D.n - i.1) (fun _ => ⟨rfl, rfl⟩) ⟨0, by omega⟩ (by
      simp only [madeP]
      (apply sub_of <;> simp only [go_sem, ↓reduceIte, Nat.reduceAdd, Nat.reduceSub, Nat.reduceMul, Nat.reduceEqDiff, Nat.reduceLT, Nat.reduceLeDiff, Int.reduceToNat, Int.reduceLE, Int.reduceLT, Int.reduceEq, Int.reduceNeg, reduceCtorEq] <;> (try simp [catF]) <;> (try exact fun j _ => Bd_nth (by simp [BdL, Bd]) j) <;> (try exact bd_setL (by simp [bdAs, BdL, Bd])) <;> (try exact nestF_bd _ _ _ _ _ _ _ _ _))
      all_goals first | exact fun i _ => nestF_bd1 _ _ _ _ _ _ _ i 0 | exact fun i j _ hj => bdq i j (by omega) hj) ?_
  rintro ⟨i, hi⟩
  simp only at hi ⊢
  have wi : IntKind.i64.wrap ((i : Int) + 1) = ((i + 1 : Nat) : Int) := by rw [wrap_id (by omega) (by omega)]; omega
  have hW : ∀ a b, plV (cAt D) x a b = (cAt D x).get a := fun _ _ => rfl
  rcases Nat.lt_or_ge i D.n with hin | hin
  · have d2 : decide ((i : Int) < (D.n : Int)) = true := decide_eq_true (by omega)
    have hWi := hc x hxm i hin
    have hb1 := hmb i hi
    have hMi := hOk.M i hin
    obtain ⟨G, hG⟩ : ∃ G, (cAt D x).get i = G := ⟨_, rfl⟩
    rw [hG] at hWi
    rcases Int.lt_or_le 0 G with hp | hp
    · have d3 : decide (0 < G) = true := decide_eq_true hp
      have hcold := hOk.cold i (G - 1).toNat hin (by omega)
      have w1 : IntKind.i64.wrap (G - 1) = G - 1 := wrap_id (by omega) (by omega)
      have e5 : madeP D (cAt D x) (i + 1) = madeP D (cAt D x) i + D.V i (G - 1).toNat 1 := by simp only [madeP, hG]; rw [if_neg (by omega)]
      have w2 : IntKind.i64.wrap (madeP D (cAt D x) i + D.V i (G - 1).toNat 1) = madeP D (cAt D x) (i + 1) := by rw [e5]; exact wrap_id (by omega) (by omega)
      simp only [d2, d3, wi, hW, hG, w1, w2, nestF_eq, Int.toNat_natCast, awake03_eq, presses_eq, forms_eq, bplay_eq, cheapest_eq, behind_eq, p4_37, prC, chE_ns, chC_ns, chN_ns, cAt_ns, psB_ns, planF, nestF_sh, nestR_lit, nsM_lit, nsV_lit, Try.f4, go_sem, ↓reduceIte, Nat.reduceAdd, Nat.reduceSub, Nat.reduceMul, Nat.reduceEqDiff, Nat.reduceLT, Nat.reduceLeDiff, Int.reduceToNat, Int.reduceLE, Int.reduceLT, Int.reduceEq, Int.reduceNeg, reduceCtorEq]
      refine ⟨by omega, by omega, by omega, ⟨i + 1, by omega⟩, by simp only []; omega, ?_⟩
      apply sub_of <;> simp only [wi, go_sem, ↓reduceIte, Nat.reduceAdd, Nat.reduceSub, Nat.reduceMul, Nat.reduceEqDiff, Nat.reduceLT, Nat.reduceLeDiff, Int.reduceToNat, Int.reduceLE, Int.reduceLT, Int.reduceEq, Int.reduceNeg, reduceCtorEq] <;> (try simp) <;> (try exact fun j _ => Bd_nth (by simp [BdL, Bd]) j) <;> (try exact bd_setL (by simp [bdAs, BdL, Bd])) <;> (try exact nestF_bd _ _ _ _ _ _ _ _ _)
      all_goals first | exact fun i _ => nestF_bd1 _ _ _ _ _ _ _ i 0 | exact fun i j _ hj => bdq i j (by omega) hj
    · have d3 : decide (0 < G) = false := decide_eq_false (by omega)
      have e5 : madeP D (cAt D x) (i + 1) = madeP D (cAt D x) i := by simp only [madeP, hG]; rw [if_pos (by omega)]; omega
      simp only [d2, d3, wi, hW, hG, nestF_eq, Int.toNat_natCast, awake03_eq, presses_eq, forms_eq, bplay_eq, cheapest_eq, behind_eq, p4_37, prC, chE_ns, chC_ns, chN_ns, cAt_ns, psB_ns, planF, nestF_sh, nestR_lit, nsM_lit, nsV_lit, Try.f4, go_sem, ↓reduceIte, Nat.reduceAdd, Nat.reduceSub, Nat.reduceMul, Nat.reduceEqDiff, Nat.reduceLT, Nat.reduceLeDiff, Int.reduceToNat, Int.reduceLE, Int.reduceLT, Int.reduceEq, Int.reduceNeg, reduceCtorEq]
      refine ⟨by omega, ⟨i + 1, by omega⟩, by simp only []; omega, ?_⟩
      apply sub_of <;> simp only [wi, e5, go_sem, ↓reduceIte, Nat.reduceAdd, Nat.reduceSub, Nat.reduceMul, Nat.reduceEqDiff, Nat.reduceLT, Nat.reduceLeDiff, Int.reduceToNat, Int.reduceLE, Int.reduceLT, Int.reduceEq, Int.reduceNeg, reduceCtorEq] <;> (try simp) <;> (try exact fun j _ => Bd_nth (by simp [BdL, Bd]) j) <;> (try exact bd_setL (by simp [bdAs, BdL, Bd])) <;> (try exact nestF_bd _ _ _ _ _ _ _ _ _)
      all_goals first | exact fun i _ => nestF_bd1 _ _ _ _ _ _ _ i 0 | exact fun i j _ hj => bdq i j (by omega) hj
  obtain rfl : i = D.n := by omega
  have d2 : decide ((D.n : Int) < (D.n : Int)) = false := decide_eq_false (by omega)
  have hnd := hOk.nd x hxm
  have hst := hOk.st
  have hro := hOk.ro
  have hmn := hmb D.n (Nat.le_refl _)
  have hs0 := hsu x hx
  have hs1 := hsu (x + 1) hxm
  have hco : coP D (cAt D) x = madeP D (cAt D x) D.n := rfl
  have w1 : IntKind.i64.wrap (suN D x + D.nd x 0) = suN D (x + 1) := by rw [wrap_id (by omega) (by omega)]; rfl
  have w2 : IntKind.i64.wrap (suC D (cAt D) x + madeP D (cAt D x) D.n) = suC D (cAt D) (x + 1) := by rw [wrap_id (by omega) (by omega)]; rfl
  have hr2 : rdB D.n D.M (x + 1) (fun _ => D.n) (plV (cAt D)) = true := allU_iff.2 fun i hi => by
    have := hc i (by omega)
    simp only [rdRow, Bool.and_eq_true, decide_eq_true_eq, allU_iff, in3_iff, plV]
    exact ⟨trivial, fun a ha => this a ha⟩
  have hplc : plM D (fun i => chT D.n (plV (cAt D) i)) (x + 1) = plM D (cAt D) (x + 1) := plM_congr (x + 1) (fun i hi => chT_cAt hOk hxb (by omega))
  have f1 : bhE ⟨D.n, nsA (nestF 0 2 D.A D.M D.V), D.M, D.V, D.h, D.nd, D.pr, D.st, D.ro, D.pk, D.fr⟩ true (x + 1) (fun _ => D.n) (plV (cAt D)) = 0 := by
    simp only [bhE, if_true]
    rw [if_pos ⟨hxm, hr2⟩, plM_ns, hD, hplc]
    exact hpl (x + 1) hxm
  have f2 : bhX ⟨D.n, nsA (nestF 0 2 D.A D.M D.V), D.M, D.V, D.h, D.nd, D.pr, D.st, D.ro, D.pk, D.fr⟩ true (x + 1) (fun _ => D.n) (plV (cAt D)) = bhP ⟨D.n, nsA (nestF 0 2 D.A D.M D.V), D.M, D.V, D.h, D.nd, D.pr, D.st, D.ro, D.pk, D.fr⟩ (x + 1) (plM D (cAt D) (x + 1)).s := by
    rw [bhX, if_pos f1, plM_ns, hD, hplc]
  obtain ⟨S, hS⟩ : ∃ S, (plM D (cAt D) (x + 1)).s = S := ⟨_, rfl⟩
  rw [hS] at f2
  have wy : IntKind.i64.wrap ((D.h : Int) - ((x + 1 : Nat) : Int)) = ((D.h - (x + 1) : Nat) : Int) := by rw [wrap_id (by omega) (by omega)]; omega
  have z0 : decide ((0 : Int) = 0) = true := rfl
  simp only [d2, wx, wy, w1, w2, hb, f1, f2, bhP, z0, p4_37, Int.toNat_natCast, awake03_eq, presses_eq, forms_eq, bplay_eq, cheapest_eq, behind_eq, p4_37, prC, chE_ns, chC_ns, chN_ns, cAt_ns, psB_ns, planF, nestF_sh, nestR_lit, nsM_lit, nsV_lit, Try.f4, go_sem, ↓reduceIte, Nat.reduceAdd, Nat.reduceSub, Nat.reduceMul, Nat.reduceEqDiff, Nat.reduceLT, Nat.reduceLeDiff, Int.reduceToNat, Int.reduceLE, Int.reduceLT, Int.reduceEq, Int.reduceNeg, reduceCtorEq]
  have pn : D.n ≤ 1000000 ∧ ∀ (i : Nat), i < D.n → D.M i ≤ 1000000 := ⟨by omega, fun i hi => by have := hM i hi; omega⟩
  have px : x ≤ 999999 ∧ ∀ (i : Nat), i < x + 1 → D.n ≤ 1000000 := ⟨by omega, fun _ _ => by omega⟩
  have hbok := bok hOk (Nat.le_refl _) hc e4 (heat := heat) (hr := room) hheat (by omega) (x + 1) hxm
  have htn := tnk hOk (Nat.le_refl _) hc e4 (t0 := 100 + heat) (hr := room) (x + 1) hxm
  have hbd := hbok.bd (2 * x + 2) (Nat.le_refl _)
  have key := fun (G : Nat → Nat → SV) (hG : ∀ i, i < 2 * x + 2 → ∀ j, j < 4 → G i j = .int .i64 (evC D (cAt D) i j)) => ev_key hG hbok
  refine ⟨by omega, by omega, by omega, ⟨by kernel_rfl, by kernel_rfl⟩, by omega, ⟨⟨pn, by omega⟩, px⟩, ⟨by omega, ⟨pn, by omega⟩, px⟩, ⟨pipe_nest _ _, (key _ fun i hi j hj => frz_int (ev_cat hco.symm i hi j hj)).1, rfl, rfl, (key _ fun i hi j hj => frz_int (ev_cat hco.symm i hi j hj)).2.1⟩, ?_⟩
  rw [(key _ fun i hi j hj => frz_int (ev_cat hco.symm i hi j hj)).2.2]
  obtain ⟨E, hE⟩ : ∃ E, bst room (bs0 100 (100 + heat) 0) (evC D (cAt D)) (2 * x + 2) = E := ⟨_, rfl⟩
  have hE' : bst room (bs0 100 (100 + heat) 0) (evC D (cAt D)) (2 * (x + 1)) = E := hE
  rw [hE'] at htn
  rw [hE] at hbd
  rw [hE, bplS]
  obtain ⟨t1, t2, t3, t4, t5, t6⟩ := htn
  obtain ⟨u1, u2, u3, u4, u5, u6, u7⟩ := hbd
  rw [hS] at t2
  have hst2 := (plM_ok hOk (C := cAt D) (x + 1) hxm (fun i hi => hc i (by omega)) (hpl (x + 1) hxm)).1.2.1
  rw [hS] at hst2
  have e1 : decide (((2 * x + 2 : Nat) : Int) = ((2 * x + 2 : Nat) : Int)) = true := decide_eq_true rfl
  have v1 : IntKind.i64.wrap (100 + heat + D.st) = 100 + heat + D.st := wrap_id (by omega) (by omega)
  have v2 : IntKind.i64.wrap (100 + heat + D.st - S.sto) = 100 + heat + D.st - S.sto := wrap_id (by omega) (by omega)
  have v3 : IntKind.i64.wrap (101 + (x : Int)) = 101 + (x : Int) := wrap_id (by omega) (by omega)
  have v4 : IntKind.i64.wrap (E.ai + E.he) = suC D (cAt D) (x + 1) := by rw [wrap_id (by omega) (by omega)]; exact t6
  have e2 : decide (E.th = 100 + heat + D.st - S.sto) = true := decide_eq_true t2
  have e3 : decide (E.tv = 101 + (x : Int)) = true := decide_eq_true (by omega)
  have e4 : decide (suC D (cAt D) (x + 1) = suC D (cAt D) (x + 1)) = true := decide_eq_true rfl
  have e5 : decide (E.fv = ((x + 1 : Nat) : Int)) = true := decide_eq_true t3
  have e6 : decide (E.fh = suN D (x + 1)) = true := decide_eq_true t4
  have e7 : decide (E.ch = suC D (cAt D) (x + 1)) = true := decide_eq_true t5
  simp only [e1, e2, e3, e4, e5, e6, e7, v1, v2, v3, v4, wx, z0, Int.toNat_natCast, awake03_eq, presses_eq, forms_eq, bplay_eq, cheapest_eq, behind_eq, p4_37, prC, chE_ns, chC_ns, chN_ns, cAt_ns, psB_ns, planF, nestF_sh, nestR_lit, nsM_lit, nsV_lit, Try.f4, go_sem, ↓reduceIte, Nat.reduceAdd, Nat.reduceSub, Nat.reduceMul, Nat.reduceEqDiff, Nat.reduceLT, Nat.reduceLeDiff, Int.reduceToNat, Int.reduceLE, Int.reduceLT, Int.reduceEq, Int.reduceNeg, reduceCtorEq]
  refine ⟨⟨x + 1, by omega⟩, by simp only []; omega, ?_⟩
  apply sub_of <;> simp only [go_sem, ↓reduceIte, Nat.reduceAdd, Nat.reduceSub, Nat.reduceMul, Nat.reduceEqDiff, Nat.reduceLT, Nat.reduceLeDiff, Int.reduceToNat, Int.reduceLE, Int.reduceLT, Int.reduceEq, Int.reduceNeg, reduceCtorEq] <;> (try simp)
  all_goals first
    | exact fun i _ => nestF_bd1 _ _ _ _ _ _ _ i 0
    | exact nestF_bd _ _ _ _ _ _ _ _ _
    | exact fun i j hi hj => bdq i j (by omega) hj
    | exact ⟨by omega, fun i j hi hj => ev_cat hco.symm i (by omega) j hj⟩
end Go.Eng
end

/-
  TopCold: for every input the law returns true, and each argument reads afterwards as it read before. No condition.
-/
section
namespace Go.Proofs.Ythidhbamcmgloaa.topCold
open Go.ChangeShapes Go.WideShapes Go.ChangeAt Go.RowKit Go.Eng
set_option linter.unusedVariables false
theorem own : ownKnob Try.prog.godebug = none := by kernel_rfl
theorem laid : laidOutB Try.prog = true := by kernel_rfl
set_option maxRecDepth 100000 in
theorem lifted (os : Os) (started : os.Started) (H : Type) (enc : TypeId × Value → H) :
    ReturnsInHanded {} Try.checked os 4 .any (Rows.topColdSpec.pre6 enc Try.prog Try.f4 Rows.topColdRow.domain false) (Rows.topColdSpec.post enc Try.prog Try.f4 false true false false) := by
  refine returnsInHanded_of_change (C := Try.checked) own started (by kernel_rfl) Try.func4
    (ChangeSpec.witness6 (enc := enc) (C := Try.checked) false ⟨#[], #[.agg #[.slice none 0 0, .slice none 0 0, .slice none 0 0, .int .i64 0, .int .i64 0, .int .i64 0, .int .i64 0], .int .u16 0, .int .u8 0], []⟩ 8 (by kernel_rfl) (by kernel_rfl) (by kernel_rfl) (by kernel_rfl)) ?_
  intro W base args ds gs before hval0 hW hcnd _
  have hval : ∀ (j : Nat) t v, Try.f4.params[j]? = some t → args[j]? = some v → Value.okWide Try.prog W .any base t v := hval0
  have hW' := hW
  obtain ⟨p, q, hA0, hV, rfl, hfz, hnd⟩ := hW
  have hA : DataW.TrodAll enc Try.prog W 0 (fun _ => true) true Try.f4.params.toList args.toList ds p := hA0
  rw [Try.params4] at hA hval
  obtain ⟨v0, vs0, d0, ds0, p0, q0, hargs, rfl, rfl, h0, r0⟩ := trodAll_cons hA
  obtain ⟨v1, vs1, d1, ds1, p1, q1, rfl, rfl, rfl, h1, r1⟩ := trodAll_cons r0
  obtain ⟨v2, vs2, d2, ds2, p2, q2, rfl, rfl, rfl, h2, r2⟩ := trodAll_cons r1
  obtain ⟨rfl, rfl, rfl⟩ := trodAll_nil r2
  obtain rfl : args = #[v0, v1, v2] := by cases args; simp_all
  obtain ⟨rfl, rfl⟩ := trodVars_none hV
  obtain ⟨xs0, e0, l0, t0⟩ := arg_agg (shs := [.sl [.sl [.int .i64, .int .i64], .int .i64, .int .i64, .int .i64, .int .i64], .sl [.int .i64], .sl [.int .i64], .int .i64, .int .i64, .int .i64, .int .i64]) Try.underlying51 (by kernel_rfl) (hval 0 51 v0 rfl rfl) h0
  obtain ⟨a0_0, a0_1, a0_2, a0_3, a0_4, a0_5, a0_6, rfl⟩ : ∃ a0_0 a0_1 a0_2 a0_3 a0_4 a0_5 a0_6, xs0 = [a0_0, a0_1, a0_2, a0_3, a0_4, a0_5, a0_6] := by
    match xs0, l0 with
    | [a0_0, a0_1, a0_2, a0_3, a0_4, a0_5, a0_6], _ => exact ⟨a0_0, a0_1, a0_2, a0_3, a0_4, a0_5, a0_6, rfl⟩
  obtain ⟨n0_0, f0_0, rfl, m0_0, s0_0⟩ := typ_sl (t0 0 _ _ rfl rfl)
  obtain ⟨i0_0, b0_0, c0_0, g0_0⟩ := nestR_typ (sz := 5) (k := 0) (s := 2) (by intro j hj hk; rcases (show j = 0 ∨ j = 1 ∨ j = 2 ∨ j = 3 ∨ j = 4 by omega) with rfl | rfl | rfl | rfl | rfl <;> first | rfl | exact absurd rfl hk) rfl s0_0
  obtain ⟨n0_1, f0_1, rfl, m0_1, s0_1⟩ := typ_sl (t0 1 _ _ rfl rfl)
  obtain ⟨i0_1, b0_1⟩ := intK_of_typ (k := .i64) (c := 1) rfl s0_1
  obtain ⟨n0_2, f0_2, rfl, m0_2, s0_2⟩ := typ_sl (t0 2 _ _ rfl rfl)
  obtain ⟨i0_2, b0_2⟩ := intK_of_typ (k := .i64) (c := 1) rfl s0_2
  obtain ⟨x0_3, rfl, w0_3⟩ := typ_int (t0 3 _ _ rfl rfl)
  obtain ⟨x0_4, rfl, w0_4⟩ := typ_int (t0 4 _ _ rfl rfl)
  obtain ⟨x0_5, rfl, w0_5⟩ := typ_int (t0 5 _ _ rfl rfl)
  obtain ⟨x0_6, rfl, w0_6⟩ := typ_int (t0 6 _ _ rfl rfl)
  obtain ⟨x1, rfl, rfl, rfl, w1⟩ := open_int Try.underlying26 (hval 1 26 v1 rfl rfl) h1
  obtain ⟨x2, rfl, rfl, rfl, w2⟩ := open_int Try.underlying5 (hval 2 5 v2 rfl rfl) h2
  have hd : DenL Env.emp W [.agg [.row n0_0 5 f0_0, .row n0_1 1 f0_1, .row n0_2 1 f0_2, .int .i64 x0_3, .int .i64 x0_4, .int .i64 x0_5, .int .i64 x0_6], .int .u16 x1, .int .u8 x2] [v0, .int .u16 x1, .int .u8 x2] := ⟨e0, .int _ _, .int _ _, trivial⟩
  refine (law_calls topCold_base (args := [.agg [.row n0_0 5 f0_0, .row n0_1 1 f0_1, .row n0_2 1 f0_2, .int .i64 x0_3, .int .i64 x0_4, .int .i64 x0_5, .int .i64 x0_6], .int .u16 x1, .int .u8 x2]) rfl ⟨⟨rfl, i0_0⟩, ⟨rfl, fun i j hi hj => i0_1 i j hi hj⟩, ⟨rfl, fun i j hi hj => i0_2 i j hi hj⟩, w1, w2⟩ (denA_of hd)).mono fun e W' ⟨he, hb⟩ => ?_
  subst he
  exact ⟨_, rfl, law_end laid rfl Try.underlying4 (by kernel_rfl) rfl hW' rfl hb⟩
theorem over : Rows.topColdRow.holds Try.pinned (OpenSpec.ofChange Rows.topColdSpec) :=
  OpenClaim.holds_of_wide 4 Try.f4 rfl rfl rfl rfl rfl rfl rfl ⟨rfl, rfl, rfl, rfl, rfl⟩ rfl rfl rfl rfl rfl (by kernel_rfl) Try.func4 (by kernel_rfl)
    (of_decide_eq_true (by kernel_rfl)) (by unfold Func.isWrapper; first | (rw [if_pos (by decide +kernel)]; kernel_rfl) | (rw [if_neg (by decide +kernel)]; exact ⟨rfl, rfl⟩))
    (fun os started H enc _ => lifted os started H enc)
end Go.Proofs.Ythidhbamcmgloaa.topCold
namespace Go.Proofs.Ythidhbamcmgloaa
/-- The given statement. -/
theorem topCold_holds : Rows.TopColdSaid := topCold.over
#print axioms topCold_holds
end Go.Proofs.Ythidhbamcmgloaa
end
