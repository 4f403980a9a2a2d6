/-
  A part of the symbolic machine, of its soundness, and of what functions compute. No condition.
-/
import Derived.Orders
import Derived.RangeFuncLeaves
import Derived.RangeFuncRecord
import Derived.Test.YtakbfbcfddcncaaE1b
set_option linter.unusedSimpArgs false
set_option linter.unusedVariables false
/- The result of one operation. -/
section
namespace Go.Eng
open Go.RowKit
set_option linter.unusedVariables false

def evL (t : List SV) : List Operand → List SV
  | [] => []
  | x :: l => ev t x :: evL t l
def catS : List SV → List SV → List SV
  | [], l => l
  | x :: k, l => x :: catS k l
theorem catS_eq (k l : List SV) : catS k l = k ++ l := by induction k <;> simp [catS, *]
theorem evL_eq (t : List SV) (l : List Operand) : evL t l = l.map (ev t) := by induction l <;> simp [evL, *]
theorem evL_den {E : Env} {w : World} {t : List SV} {a : Act} (h : DenA E w t a.tmps) (xs : Array Operand) : DenA E w (evL t xs.toList) (xs.map a.eval) := by
  refine ⟨by simp [evL_eq], fun i x u hx hu => ?_⟩
  rw [evL_eq, List.getElem?_map, Array.getElem?_toList] at hx
  rw [Array.getElem?_map] at hu
  cases ho : xs[i]? with
  | none => simp [ho] at hx
  | some o => simp [ho] at hx hu; subst hx hu; exact ev_den h o
theorem DenA.cat {E : Env} {w : World} {l k : List SV} {vs us : Array Value} (h1 : DenA E w l vs) (h2 : DenA E w k us) : DenA E w (catS l k) (vs ++ us) := by
  refine ⟨by simp [catS_eq, h1.1, h2.1], fun i x u hx hu => ?_⟩
  have hs := h1.1
  rw [catS_eq] at hx
  by_cases hi : i < l.length
  · rw [List.getElem?_append_left hi] at hx
    rw [Array.getElem?_append_left (by omega)] at hu
    exact h1.2 i x u hx hu
  · rw [List.getElem?_append_right (by omega)] at hx
    rw [Array.getElem?_append_right (by omega)] at hu
    exact h2.2 _ x u hx (by rw [← hs]; exact hu)

def pk : Bool → SV → SV → SV
  | true, a, _ => a
  | false, _, b => b

section
variable (T : Nat → Option TI) (F : Nat → Bool) (t : List SV) (h : HS)
def rMove (ty : TypeId) (x : Operand) : Res :=
  match x with
  | .const (.slice none 0 0) => match T ty with
    | some { kind := .slice e, .. } => match T e with
      | some te => .val (0 < te.size) (.vec (lenV h.vecs) 0) { h with vecs := snocV h.vecs (.live 0 e te.size 0 (fun _ _ => .any)) }
      | none => .bad
    | _ => .val True (ev t x) h
  | _ => .val True (ev t x) h
def rPick (c a b : SV) : Res :=
  match c with
  | .bool q => .val True (pk q a b) h
  | _ => .bad
def rNil (x : SV) : Res :=
  match x with
  | .ptr a b => .val True (.ptr a b) h
  | .rptr a b => .val True (.rptr a b) h
  | .vptr a b c d e => .val True (.vptr a b c d e) h
  | .func g caps => .val True (.func g caps) h
  | _ => .bad
def zipPut : List SV → List Nat → List SV → List SV
  | t, p :: ps, a :: l => zipPut (upd t p a) ps l
  | t, _, _ => t
def rCall (f : SV) (args : List SV) : Res :=
  match f with
  | .func g caps => if F g then .call g (catS args caps) else .bad
  | .yield nm => match getB h.blks nm with
    | .loop _ _ fid t params assign body => if lenS args = params.toList.length then .round nm fid (zipPut t params.toList args) assign body else .bad
    | _ => .bad
  | .meth g first => if F g then .call g (catS first args) else .bad
  | _ => .bad
/-- A last argument that is a nil slice of slices. -/
def nilE (x : Operand) (ty : TypeId) : Option (TypeId × Nat) :=
  match isNilSl x with
  | false => none
  | true => match T ty with
    | some { kind := .slice e, .. } => match T e with
      | some { kind := .slice _, size := sz, .. } => some (e, sz)
      | _ => none
    | _ => none
def lastN : List Operand → List TypeId → Option (TypeId × Nat)
  | [x], [ty] => nilE T x ty
  | _ :: xs, _ :: tys => lastN xs tys
  | _, _ => none
/-- A nil slice of structs, handed over. -/
def nilT (o : Option TI) : Option (TypeId × Nat) :=
  match o with
  | some ti => match ti.kind with
    | .slice e => match T e with
      | some te => if te.agg = true ∧ 2 ≤ te.size then some (e, te.size) else none
      | none => none
    | _ => none
  | none => none
def nilA (n : Option (TypeId × Nat)) (x : SV) : SV :=
  match n with
  | some (e, sz) => .nils e sz
  | none => x
def ev1 (b : Bool) (x : Operand) (ty : TypeId) : SV :=
  match b with
  | true => nilA (nilT T (T ty)) (ev t x)
  | false => ev t x
def evA : List Operand → List TypeId → List SV
  | [], _ => []
  | x :: xs, [] => ev t x :: evL t xs
  | x :: xs, ty :: tys => ev1 T t (isNilSl x) x ty :: evA xs tys
def argsN (n : Option (TypeId × Nat)) (xs : List Operand) (tys : List TypeId) : List SV :=
  match n with
  | some _ => evL t xs
  | none => evA T t xs tys
def putLast : List SV → SV → List SV
  | [], _ => []
  | [_], v => [v]
  | x :: y :: l, v => x :: putLast (y :: l) v
def rCallN (n : Option (TypeId × Nat)) (f : SV) (args : List SV) : Res :=
  match n with
  | none => rCall F h f args
  | some (e, sz) => match f with
    | .func g [] => if F g then .callN (0 < sz) g (putLast args (.vec (lenV h.vecs) 0)) { h with vecs := snocV h.vecs (.live 0 e sz 0 (fun _ _ => .any)) } else .bad
    | _ => .bad
def rFunc (fn : Fn) (first : List SV) (caps : List SV) : Res :=
  match fn, first with
  | .func g, [] => .val True (.func g caps) h
  | .func g, x :: l => match caps with
    | [] => .val True (.meth g first) h
    | _ => .bad
  | _, _ => .bad
def rBuiltin (b : Builtin) (tys : List TypeId) (args : List SV) : Res :=
  match b, tys, args with
  | .len, [ty], [x] => match T ty with
    | some ti => rLen ti h x
    | none => .bad
  | .append, [ty, ty'], [s, x] => if ty = ty' then match T ty with
      | some { kind := .slice e, .. } => match T e with
        | some te => rAppend e te s x h
        | none => .bad
      | _ => .bad
    else .bad
  | .clear, [ty], [x] => match T ty with
    | some { kind := .slice e, .. } => match T e with
      | some te => rClear te x h
      | none => .bad
    | _ => .bad
  | .copy, [ty, ty'], [d, s] => match T ty with
    | some { kind := .slice e, .. } => match T e with
      | some te => rCopy te d s h
      | none => .bad
    | _ => .bad
  | .max, _, [x, y] => rMax x y h
  | .min, _, [x, y] => rMin x y h
  | _, _, _ => .bad
def rPanic (x : SV) : Res :=
  match x with
  | .iface ty v => .pan (.iface ty v)
  | _ => .bad
def evO : Option Operand → Option SV
  | some x => some (ev t x)
  | none => none
def rowSz (x : SV) : Nat := match x with
  | .row _ sz _ => sz
  | _ => 0

/-- A third bound asks for a second one. -/
def hiOk : Option Operand → Option Operand → Bool
  | some _, _ => true
  | none, none => true
  | none, some _ => false
def rSlR (te ti : TI) (n sz : Nat) (f : Nat → Nat → SV) (lo hi mx : Option SV) (h : HS) : Res :=
  match mx with
  | none => if te.size = sz then rSlice ti (.row n sz f) lo hi h else .bad
  | some _ => .bad
def rSlG (te : TI) (g : Bool) (x : SV) (lo hi mx : Option SV) (h : HS) : Res :=
  match g with
  | true => rSliceV te.size x lo hi mx h
  | false => .bad
def rSl (te ti : TI) (g : Bool) (x : SV) (lo hi mx : Option SV) (h : HS) : Res :=
  match x with
  | .row n sz f => rSlR te ti n sz f lo hi mx h
  | .vec id ver => rSlG te g (.vec id ver) lo hi mx h
  | .vcut id ver sz l n x => rSlG te g (.vcut id ver sz l n x) lo hi mx h
  | _ => .bad
def skipAnd (p : Prop) (r : Res) : Res := match r with
  | .skip q h => .skip (p ∧ q) h
  | _ => .bad
/-- Has a type slices? -/
def hasSl : List ZC → Bool
  | [] => false
  | .c _ :: l => hasSl l
  | .sl _ _ :: _ => true
def isN : SV → Option (Nat × Nat)
  | .nils e sz => some (e, sz)
  | _ => none
/-- Nil slices become own ones. -/
def ownN : List SV → HS → List SV × HS
  | [], h => ([], h)
  | x :: l, h => match isN x with
    | some (e, sz) => (.vec (lenV h.vecs) 0 :: (ownN l { h with vecs := snocV h.vecs (.live 0 e sz 0 (fun _ _ => .any)) }).1, (ownN l { h with vecs := snocV h.vecs (.live 0 e sz 0 (fun _ _ => .any)) }).2)
    | none => (x :: (ownN l h).1, (ownN l h).2)
def ownC (y : SV) (h : HS) : SV × HS := match y with
  | .agg l => (.agg (ownN l h).1, (ownN l h).2)
  | .nils e sz => (.vec (lenV h.vecs) 0, { h with vecs := snocV h.vecs (.live 0 e sz 0 (fun _ _ => .any)) })
  | y => (y, h)
/-- A part of an own slice, the whole of which is not asked for any more, is the slice from then on. -/
def rebV (id ver sz lo n : Nat) (x : Bool) (h : HS) : Vc → SV × HS
  | .live ver' ty sz' _ f => if ver = ver' ∧ sz = sz' then (.vec id (ver + 1), { h with vecs := setV h.vecs id (.live (ver + 1) ty sz' n (fun i j => f (lo + i) j)) }) else (.vcut id ver sz lo n x, h)
  | .dead => (.vcut id ver sz lo n x, h)
def ownS (y : SV) (h : HS) : SV × HS := match y with
  | .vcut id ver sz lo n x => rebV id ver sz lo n x h (getV h.vecs id)
  | y => ownC y h
def rStoreO (ti : TI) (x y : SV) (b : Bool) : Res := match b with
  | true => rStore ti (ownS y h).2 x (ownS y h).1
  | false => rStore ti h x y
def rBoxO (o : Option TI) (e : TypeId) (y : SV) : Res := match o with
  | some ti => match hasSl ti.zero with
    | true => rBox e (ownC y h).1 (ownC y h).2
    | false => rBox e y h
  | none => rBox e y h
/-- A store; a nil slice that is stored is an own one. -/
def rStoreN (ti : TI) (x : SV) (b : Bool) (y : SV) : Res :=
  match b with
  | false => rStoreO h ti x y (hasSl ti.zero)
  | true => match ti.kind with
    | .slice e => match T e with
      | some te => skipAnd (0 < te.size) (rStore ti { h with vecs := snocV h.vecs (.live 0 e te.size 0 (fun _ _ => .any)) } x (.vec (lenV h.vecs) 0))
      | none => .bad
    | _ => rStore ti h x y

def mMk2 (k v : Nat) (h : HS) : Option TI → Option TI → Res
  | some tk, some tv => rMakeMap k v tk tv h
  | _, _ => .bad
def mMk (h : HS) : Option TI → Res
  | some { kind := .map k v, .. } => mMk2 k v h (T k) (T v)
  | _ => .bad
def mLk2 (ok : Bool) (x y : SV) (h : HS) : Option TI → Option TI → Res
  | some tk, some tv => rLookup tk tv ok x y h
  | _, _ => .bad
def mLk (ok : Bool) (x y : SV) (h : HS) : Option TI → Res
  | some { kind := .map k v, .. } => mLk2 ok x y h (T k) (T v)
  | _ => .bad
def mUp2 (x y z : SV) (h : HS) : Option TI → Res
  | some tk => rUpdate tk x y z h
  | _ => .bad
def mUp (x y z : SV) (h : HS) : Option TI → Res
  | some { kind := .map k _, .. } => mUp2 x y z h (T k)
  | _ => .bad
def mFd (x : SV) (k : Nat) (h : HS) : Option TI → Res
  | some ti => rFld ti x k h
  | _ => .bad
def opRes (o : Oper) : Res :=
  match o.op with
  | .move x => rMove T t h o.type x
  | .assign x => rMove T t h o.type x
  | .pick c a b => rPick h (ev t c) (ev t a) (ev t b)
  | .alloc e => match T e with
    | some ti => rAlloc ti e h
    | none => .bad
  | .box e x => rBoxO h (T e) e (ev t x)
  | .build ty ps => match T ty with
    | some ti => match ti.kind with
      | .array _ e => match T e with
        | some te => rBuild ti te.size (evP t ps.toList) h
        | none => .bad
      | _ => rBuild ti 0 (evP t ps.toList) h
    | none => .bad
  | .buildSlice ty len ps => match T ty with
    | some { kind := .slice e, .. } => match T e with
      | some te => rBuildSlice e te len (evP t ps.toList) h
      | none => .bad
    | _ => .bad
  | .load ty x => match T ty with
    | some ti => rLoad ti h (ev t x)
    | none => .bad
  | .store ty x y => match T ty with
    | some ti => rStoreN T h ti (ev t x) (isNilSl y) (ev t y)
    | none => .bad
  | .nilCheck x => rNil h (ev t x)
  | .binOp op ty x y _ => rBin3 (T ty) (isConst x || isConst y) op (isNilSl y) (ev t x) (ev t y) h
  | .unOp op _ x => rUn op (ev t x) h
  | .convert s d x => match T s, T d with
    | some _, some td => rConv td (ev t x) h
    | _, _ => .bad
  | .makeInterface ty x => match T ty with
    | some ti => rIface ti ty (ev t x) h
    | none => .bad
  | .makeFunc fn first caps => rFunc h fn (evL t first.toList) (evL t caps.toList)
  | .makeSlice ty l c => match T ty with
    | some { kind := .slice e, .. } => match T e with
      | some te => rMake e te (ev t l) (ev t c) h
      | none => .bad
    | _ => .bad
  | .slice ty x lo hi mx => match T ty with
    | some ti => match ti.kind with
      | .slice e => match T e with
        | some te => rSl te ti (hiOk hi mx) (ev t x) (evO t lo) (evO t hi) (evO t mx) h
        | none => .bad
      | .array n e => match T e with
        | some te => rSlA n te (ev t x) (evO t lo) (evO t hi) (evO t mx) h
        | none => .bad
      | _ => .bad
    | none => .bad
  | .fieldAddr ty x k => match T ty with
    | some ti => rField ti h (ev t x) k
    | none => .bad
  | .indexAddr ty x y => match T ty with
    | some ti => match ti.kind with
      | .slice e => match T e with
        | some te => rIndex ti te.size h (ev t x) (ev t y)
        | none => .bad
      | .array _ e => match T e with
        | some te => rIndex ti te.size h (ev t x) (ev t y)
        | none => .bad
      | _ => .bad
    | none => .bad
  | .typeAssert x _ ty ok => match T ty with
    | some ti => rAssert ti ty (ev t x) ok h
    | none => .bad
  | .extract x k => rExtract (ev t x) k h
  | .call c => match c.callee with
    | .value f => rCallN F h (lastN T c.args.toList c.argTypes.toList) (ev t f) (argsN T t (lastN T c.args.toList c.argTypes.toList) c.args.toList c.argTypes.toList)
    | .builtin b => rBuiltin T h b c.argTypes.toList (evL t c.args.toList)
    | _ => .bad
  | .panic x => rPanic (ev t x)
  | .makeMap ty none => mMk T h (T ty)
  | .lookup ty x y ok => mLk T ok (ev t x) (ev t y) h (T ty)
  | .mapUpdate ty m k x => mUp T (ev t m) (ev t k) (ev t x) h (T ty)
  | .insert ty m k x => mUp T (ev t m) (ev t k) (ev t x) h (T ty)
  | .field ty x k => mFd (ev t x) k h (T ty)
  | .range ty x => match T ty with
    | some ti => rRange ti (ev t x) h
    | none => .bad
  | .next x false => rNext (ev t x) h
  | .entry x => rEntry (ev t x) h
  | .index ty x y => match T ty with
    | some ti => match ti.kind with
      | .array n e => match T e with
        | some te => rIdx n te (ev t x) (ev t y) h
        | none => .bad
      | _ => .bad
    | none => .bad
  | _ => .bad
end

def TOk (P : Program) (T : Nat → Option TI) : Prop := ∀ t ti, T t = some ti → TIOk P t ti
def FOk (P : Program) (F : Nat → Bool) : Prop := ∀ g, F g = true → ∀ args w, (callFunc g args).run P w = .ok (.enter g args) w

section
variable {P : Program} {T : Nat → Option TI} {F : Nat → Bool} {E : Env} {t : List SV} {h : HS} {w : World} {a : Act}

theorem nilT_ok {T : Nat → Option TI} {o : Option TI} {e sz : Nat} (h : nilT T o = some (e, sz)) : 0 < sz := by
  unfold nilT at h
  split at h
  · split at h
    · split at h
      · split at h
        · rename_i hc; cases h; omega
        · cases h
      · cases h
    · cases h
  · cases h
theorem evA_get {T : Nat → Option TI} {E : Env} {w : World} {t : List SV} {a : Act} (h : DenA E w t a.tmps) : ∀ (xs : List Operand) (tys : List TypeId), (evA T t xs tys).length = xs.length ∧ ∀ (i : Nat) (x : SV) (o : Operand), (evA T t xs tys)[i]? = some x → xs[i]? = some o → Den E w x (a.eval o)
  | [], tys => ⟨by simp [evA], fun i x o hx => by simp [evA] at hx⟩
  | y :: xs, [] => by
    refine ⟨by simp [evA, evL_eq], fun i x o hx ho => ?_⟩
    cases i with
    | zero => simp [evA] at hx ho; subst hx ho; exact ev_den h _
    | succ i =>
      simp only [evA, evL_eq, List.getElem?_cons_succ, List.getElem?_map] at hx ho
      rw [ho] at hx
      simp at hx
      subst hx
      exact ev_den h _
  | y :: xs, ty :: tys => by
    obtain ⟨h1, h2⟩ := evA_get (T := T) h xs tys
    refine ⟨by simp [evA, h1], fun i x o hx ho => ?_⟩
    cases i with
    | zero =>
      simp only [evA, List.getElem?_cons_zero, Option.some.injEq] at hx ho
      subst hx ho
      unfold ev1
      cases hn : isNilSl y with
      | false => exact ev_den h _
      | true =>
        simp only [nilA]
        split
        · rename_i e sz hs
          rw [isNilSl_eq hn]
          exact .nils (nilT_ok hs)
        · exact ev_den h _
    | succ i => exact h2 i x o (by simpa [evA] using hx) (by simpa using ho)
theorem evA_den {T : Nat → Option TI} {E : Env} {w : World} {t : List SV} {a : Act} (h : DenA E w t a.tmps) (xs : Array Operand) (tys : List TypeId) : DenA E w (evA T t xs.toList tys) (xs.map a.eval) := by
  obtain ⟨h1, h2⟩ := evA_get (T := T) h xs.toList tys
  refine ⟨by simp [h1], fun i x u hx hu => ?_⟩
  rw [Array.getElem?_map] at hu
  cases ho : xs[i]? with
  | none => simp [ho] at hu
  | some o => simp [ho] at hu; subst hu; exact h2 i x o hx (by simpa using ho)
theorem lastN_last {T : Nat → Option TI} : ∀ {xs : List Operand} {tys : List TypeId} {r : TypeId × Nat}, lastN T xs tys = some r → ∃ ys, xs = ys ++ [Operand.const (.slice none 0 0)]
  | [], _, _, h => by simp [lastN] at h
  | [x], [], _, h => by simp [lastN] at h
  | [x], [ty], r, h => by
    simp only [lastN, nilE] at h
    cases hn : isNilSl x with
    | false => rw [hn] at h; cases h
    | true => exact ⟨[], by rw [isNilSl_eq hn]; rfl⟩
  | [x], ty :: ty' :: tys, r, h => by simp [lastN] at h
  | x :: y :: xs, [], _, h => by simp [lastN] at h
  | x :: y :: xs, ty :: tys, r, h => by
    simp only [lastN] at h
    obtain ⟨ys, hy⟩ := lastN_last h
    exact ⟨x :: ys, by rw [hy]; rfl⟩
theorem putLast_app (v : SV) : ∀ (l : List SV) (x : SV), putLast (l ++ [x]) v = l ++ [v]
  | [], _ => rfl
  | [a], _ => rfl
  | a :: b :: l, x => by
    have := putLast_app v (b :: l) x
    simp only [List.cons_append] at this ⊢
    simp only [putLast, this]
theorem evL_app (t : List SV) : ∀ (xs ys : List Operand), evL t (xs ++ ys) = evL t xs ++ evL t ys
  | [], _ => rfl
  | x :: xs, ys => by simp only [List.cons_append, evL, evL_app t xs ys]
theorem putLast_den {T : Nat → Option TI} {E : Env} {w : World} {t : List SV} {a : Act} {h : HS} {xs : Array Operand} {tys : List TypeId} {r : TypeId × Nat} (hd : DenA E w (evL t xs.toList) (xs.map a.eval)) (hr : RelH E h w) (hn : lastN T xs.toList tys = some r) :
    DenA E.newV w (putLast (evL t xs.toList) (.vec (lenV h.vecs) 0)) (xs.map a.eval) := by
  obtain ⟨ys, hy⟩ := lastN_last hn
  have hxs : xs = (ys ++ [Operand.const (.slice none 0 0)]).toArray := by rw [← hy]
  subst hxs
  simp only [evL_app, evL, putLast_app] at hd ⊢
  refine ⟨by have := hd.1; simpa using this, fun i x u hx hu => ?_⟩
  rcases Nat.lt_or_ge i (evL t ys).length with hi | hi
  · rw [List.getElem?_append_left hi] at hx
    exact (hd.2 i x u (by rw [List.getElem?_append_left hi]; exact hx) hu).ext (ext_newV E w)
  · rw [List.getElem?_append_right hi] at hx
    have hl : (evL t ys).length = ys.length := by
      clear hd hu hy hn hx hi
      induction ys with
      | nil => rfl
      | cons y ys ih => simp only [evL, List.length_cons, ih]
    have h0 : i - (evL t ys).length = 0 := by
      rcases Nat.eq_zero_or_pos (i - (evL t ys).length) with h | h
      · exact h
      · rw [List.getElem?_eq_none (by simp; omega)] at hx; cases hx
    rw [h0] at hx
    simp only [List.getElem?_cons_zero, Option.some.injEq] at hx
    subst hx
    have hil : i = ys.length := by omega
    subst hil
    have hu' : u = .slice none 0 0 := by
      simp [Act.eval] at hu
      exact hu.symm
    subst hu'
    exact .vec (by simp only [Env.newV, hr.nv]; omega) (by simp [Env.newV, hr.nv])

theorem rMove_ok (hT : TOk P T) (ht : DenA E w t a.tmps) (hr : RelH E h w) (ty : TypeId) (x : Operand) : ResOk P E h w (.ok (.value (a.eval x)) w) (rMove T t h ty x) := by
  have dflt : ResOk P E h w (.ok (.value (a.eval x)) w) (.val True (ev t x) h) := ResOk.pure hr (fun _ => rfl) (ev_den ht x)
  unfold rMove
  split
  · split
    · rename_i e _ _ _ _ _ _ _ _
      split
      · rename_i te hte
        intro hsz
        exact ⟨_, w, E.newV, rfl, .vec (by simp only [Env.newV, hr.nv]; omega) (by simp [Env.newV, hr.nv]), hr.newVec e te.size hsz _, ext_newV E w⟩
      · trivial
    · exact dflt
  · exact dflt

theorem ownN_ok {w : World} : ∀ (l : List SV) (us : List Value) (E : Env) (h : HS), RelH E h w → l.length = us.length → (∀ (k : Nat) (x : SV) (u : Value), l[k]? = some x → us[k]? = some u → Den E w x u) →
    ∃ E', RelH E' (ownN l h).2 w ∧ Ext E w E' w ∧ (ownN l h).1.length = us.length ∧ (∀ (k : Nat) (x : SV) (u : Value), (ownN l h).1[k]? = some x → us[k]? = some u → Den E' w x u)
  | [], us, E, h, hr, hl, hd => ⟨E, hr, Ext.refl E w, by simpa [ownN] using hl, fun k x u hx => by simp [ownN] at hx⟩
  | x :: l, [], E, h, hr, hl, hd => by simp at hl
  | x :: l, u :: us, E, h, hr, hl, hd => by
    simp only [ownN]
    cases hx : isN x with
    | none =>
      obtain ⟨E', h1, h2, h3, h4⟩ := ownN_ok l us E h hr (by simpa using hl) (fun k y v hy hv => hd (k + 1) y v (by simpa using hy) (by simpa using hv))
      refine ⟨E', h1, h2, by simp [h3], fun k y v hy hv => ?_⟩
      cases k with
      | zero => simp at hy hv; subst hy hv; exact (hd 0 _ _ rfl rfl).ext h2
      | succ k => simp at hy hv; exact h4 k y v hy hv
    | some p =>
      obtain ⟨e, sz⟩ := p
      obtain rfl : x = .nils e sz := by cases x <;> simp [isN] at hx; obtain ⟨rfl, rfl⟩ := hx; rfl
      have h0 := hd 0 _ _ rfl rfl
      cases h0
      rename_i hsz
      have hn := hr.newVec e sz hsz (fun _ _ => .any)
      have hx1 := ext_newV E w
      obtain ⟨E', h1, h2, h3, h4⟩ := ownN_ok l us E.newV _ hn (by simpa using hl) (fun k y v hy hv => (hd (k + 1) y v (by simpa using hy) (by simpa using hv)).ext hx1)
      refine ⟨E', h1, hx1.trans h2, by simp [h3], fun k y v hy hv => ?_⟩
      cases k with
      | zero =>
        simp at hy hv
        subst hy hv
        have : Den E.newV w (.vec (lenV h.vecs) 0) (.slice none 0 0) := .vec (by simp only [Env.newV, hr.nv]; omega) (by simp [Env.newV, hr.nv])
        exact this.ext h2
      | succ k => simp at hy hv; exact h4 k y v hy hv
theorem ownC_ok (hr : RelH E h w) {y : SV} {v : Value} (hy : Den E w y v) : ∃ E', RelH E' (ownC y h).2 w ∧ Ext E w E' w ∧ Den E' w (ownC y h).1 v := by
  unfold ownC
  split
  · rename_i l
    cases hy
    rename_i vs h1 hs hd
    obtain ⟨E', g1, g2, g3, g4⟩ := ownN_ok l vs.toList E h hr (by simpa using hs.symm) (fun k x u hx hu => hd k x u hx (by simpa using hu))
    exact ⟨E', g1, g2, .agg vs (by simpa using g3.symm) h1 (fun i x u hx hu => g4 i x u hx (by simpa using hu))⟩
  · rename_i e sz
    cases hy
    rename_i hsz
    exact ⟨E.newV, hr.newVec e sz hsz _, ext_newV E w, .vec (by simp only [Env.newV, hr.nv]; omega) (by simp [Env.newV, hr.nv])⟩
  · exact ⟨E, hr, Ext.refl E w, hy⟩
theorem reb_ok {E : Env} {h : HS} {w : World} (hr : RelH E h w) {id ver : Nat} {ty : TypeId} {sz N : Nat} {f : Nat → Nat → SV} (hv : getV h.vecs id = .live ver ty sz N f) {lo n : Nat} {x : Bool} {v : Value} (hy : Den E w (.vcut id ver sz lo n x) v) :
    ∃ E', RelH E' { h with vecs := setV h.vecs id (.live (ver + 1) ty sz n (fun i j => f (lo + i) j)) } w ∧ Ext E w E' w ∧ Den E' w (.vec id (ver + 1)) v := by
  obtain ⟨a, a', N', cap, rfl, hid, hval, hn, hc, ha, h0, hA, hB⟩ := hy.vcut_inv
  obtain ⟨hsz, ⟨a2, cap2, k1, k2⟩, k3⟩ := hr.vec _ _ _ _ _ _ hv
  have hval' := hval
  rw [k1] at hval
  simp only [Option.some.injEq, Prod.mk.injEq] at hval
  obtain ⟨rfl, rfl, rfl⟩ := hval
  have hxx := bump_ext hr hv (Ext.refl E w) (a', n, (if x then lo + n else cap2) - lo)
  refine ⟨E.bump id (ver + 1) (a', n, (if x then lo + n else cap2) - lo), ?_, hxx, .vec (by simp only [Env.bump]; exact hid) (by simp [Env.bump])⟩
  refine hr.moved hv hxx rfl rfl rfl (fun i v hi => by simp [Env.bump, hi]) (fun b t hb _ => ⟨rfl, rfl⟩) hr.own (a := a') (cap := (if x then lo + n else cap2) - lo) (by simp [Env.bump]) ?_ (bump_none k3)
  by_cases hM : (if x then lo + n else cap2) = lo
  · refine .inl ⟨hB, ?_, by rw [hM]; exact Nat.sub_self lo⟩
    cases x <;> simp at hM <;> omega
  · have hle1 : lo + n ≤ (if x then lo + n else cap2) := by cases x <;> simp <;> omega
    have hle2 : (if x then lo + n else cap2) ≤ cap2 := by cases x <;> simp <;> omega
    rcases k2 with ⟨_, h1, h2⟩ | ⟨g1, o, cur, h1, h2, h3, h4, h5, h6, h7, h8⟩
    · omega
    · subst h1
      have ha' := ha hM
      simp only [Option.map_some, Addr.add_lit] at ha'
      subst ha'
      generalize (if x then lo + n else cap2) = M at hM hle1 hle2 hxx ⊢
      have e1 : lo * sz + (M - lo) * sz ≤ cap2 * sz := by
        rw [← Nat.add_mul, Nat.add_sub_cancel' (by omega)]; exact Nat.mul_le_mul_right _ hle2
      have e2 : lo * sz + n * sz ≤ N * sz := by rw [← Nat.add_mul]; exact Nat.mul_le_mul_right _ hn
      refine .inr ⟨g1, o + lo * sz, cur, rfl, by omega, by omega, h4, by omega, h6, fun k u hk hu => h7 (lo * sz + k) u (by omega) (by rw [← Nat.add_assoc]; exact hu), fun i j u hi hj hu => (h8 (lo + i) j u (by omega) hj ?_).ext hxx⟩
      rw [show o + ((lo + i) * sz + j) = o + lo * sz + (i * sz + j) by rw [Nat.add_mul]; omega]
      exact hu
theorem ownS_ok (hr : RelH E h w) {y : SV} {v : Value} (hy : Den E w y v) : ∃ E', RelH E' (ownS y h).2 w ∧ Ext E w E' w ∧ Den E' w (ownS y h).1 v := by
  unfold ownS
  split
  · rename_i id ver sz lo n x
    unfold rebV
    split
    · rename_i ver' ty sz' N f hv
      split
      · rename_i hc
        obtain ⟨rfl, rfl⟩ := hc
        exact reb_ok hr hv hy
      · exact ⟨E, hr, Ext.refl E w, hy⟩
    · exact ⟨E, hr, Ext.refl E w, hy⟩
  · exact ownC_ok hr hy
theorem ResOk.pre {E' : Env} {h' : HS} {r : Result Next} (hx : Ext E w E' w) {res : Res} (hk : match res with | .val _ _ _ => True | .skip _ _ => True | .bad => True | _ => False) (ho : ResOk P E' h' w r res) : ResOk P E h w r res := by
  cases res with
  | val p v h2 => exact fun hp => let ⟨val, w', E2, k1, k2, k3, k4⟩ := ho hp; ⟨val, w', E2, k1, k2, k3, hx.trans k4⟩
  | skip p h2 => exact fun hp => let ⟨w', E2, k1, k2, k3⟩ := ho hp; ⟨w', E2, k1, k2, hx.trans k3⟩
  | bad => trivial
  | _ => exact hk.elim
theorem rStore_kind (ti : TI) (h : HS) (x y : SV) : rStore ti h x y = .bad ∨ ∃ p h', rStore ti h x y = .skip p h' := by
  unfold rStore
  split
  · exact .inl rfl
  · split
    · split
      · exact .inr ⟨_, _, rfl⟩
      · exact .inl rfl
    · split
      · exact .inr ⟨_, _, rfl⟩
      · exact .inl rfl
    · exact .inl rfl
theorem rBox_kind (e : TypeId) (h : HS) (y : SV) : rBox e y h = .bad ∨ ∃ p v h', rBox e y h = .val p v h' := by
  unfold rBox
  split
  · exact .inr ⟨_, _, _, rfl⟩
  · exact .inl rfl
theorem rStoreO_ok (hr : RelH E h w) {ty : TypeId} {ti : TI} (hti : TIOk P ty ti) {x : SV} {vx : Value} (hx : Den E w x vx) {y : SV} {vy : Value} (hy : Den E w y vy) (b : Bool) :
    ResOk P E h w ((Instr.storeAt ty vx vy >>= fun _ => (pure Next.skip : Sem Next)).run P w) (rStoreO h ti x y b) := by
  unfold rStoreO
  split
  · obtain ⟨E', g1, g2, g3⟩ := ownS_ok hr hy
    refine ResOk.pre g2 ?_ (rStore_ok g1 hti (hx.ext g2) g3)
    rcases rStore_kind ti (ownS y h).2 x (ownS y h).1 with e | ⟨_, _, e⟩ <;> rw [e] <;> trivial
  · exact rStore_ok hr hti hx hy
theorem rBoxO_ok (hr : RelH E h w) (o : Option TI) (e : TypeId) {y : SV} {vy : Value} (hy : Den E w y vy) :
    ResOk P E h w ((Instr.box e vy >>= fun v => pure (Next.value v)).run P w) (rBoxO h o e y) := by
  unfold rBoxO
  split
  · split
    · obtain ⟨E', g1, g2, g3⟩ := ownC_ok hr hy
      refine ResOk.pre g2 ?_ (rBox_ok g1 e g3)
      rcases rBox_kind e (ownC y h).2 (ownC y h).1 with e | ⟨_, _, _, e⟩ <;> rw [e] <;> trivial
    · exact rBox_ok hr e hy
  · exact rBox_ok hr e hy
theorem rStoreN_ok (hT : TOk P T) (hr : RelH E h w) {ty : TypeId} {ti : TI} (hti : TIOk P ty ti) {x : SV} {vx : Value} (hx : Den E w x vx) {y : Operand} (ht : DenA E w t a.tmps) :
    ResOk P E h w ((Instr.storeAt ty vx (a.eval y) >>= fun _ => (pure Next.skip : Sem Next)).run P w) (rStoreN T h ti x (isNilSl y) (ev t y)) := by
  have dflt := rStore_ok hr hti hx (ev_den ht y)
  unfold rStoreN
  split
  · exact rStoreO_ok hr hti hx (ev_den ht y) _
  · rename_i hb
    split
    · rename_i e hk
      split
      · rename_i te hte
        unfold isNilSl at hb
        split at hb
        · have h1 : Den E.newV w (.vec (lenV h.vecs) 0) (.slice none 0 0) := .vec (by simp only [Env.newV, hr.nv]; omega) (by simp [Env.newV, hr.nv])
          generalize hst : rStore ti { h with vecs := snocV h.vecs (.live 0 e te.size 0 (fun _ _ => .any)) } x (.vec (lenV h.vecs) 0) = r
          unfold skipAnd
          split
          · rename_i q h'
            rintro ⟨hsz, hq⟩
            have h2 := rStore_ok (hr.newVec e te.size hsz (fun _ _ => .any)) hti (hx.ext (ext_newV E w)) h1
            rw [hst] at h2
            obtain ⟨w', E', k1, k2, k3⟩ := h2 hq
            exact ⟨w', E', k1, k2, (ext_newV E w).trans k3⟩
          · trivial
        · cases hb
      · trivial
    · exact dflt

theorem zipPut_den {E : Env} {w : World} : ∀ (ps : List Nat) (l : List SV) (us : List Value) (t : List SV) (tmps : Array Value), DenA E w t tmps → l.length = us.length → (∀ (i : Nat) (x : SV) (u : Value), l[i]? = some x → us[i]? = some u → Den E w x u) →
    DenA E w (zipPut t ps l) ((ps.zip us).foldl (fun tmps (x : Nat × Value) => tmps.setIfInBounds x.1 x.2) tmps)
  | [], l, us, t, tmps, h, _, _ => by cases l <;> simpa [zipPut] using h
  | p :: ps, [], [], t, tmps, h, _, _ => by simpa [zipPut] using h
  | p :: ps, a :: l, u :: us, t, tmps, h, hl, hd => by
    simp only [zipPut, List.zip_cons_cons, List.foldl_cons]
    exact zipPut_den ps l us _ _ (h.set p (hd 0 a u rfl rfl)) (by simpa using hl) (fun i x y hx hy => hd (i + 1) x y (by simpa using hx) (by simpa using hy))
  | p :: ps, [], _ :: _, t, tmps, h, hl, _ => by simp at hl
  | p :: ps, _ :: _, [], t, tmps, h, hl, _ => by simp at hl

theorem mUp_ok (hT : TOk P T) (hr : RelH E h w) {ty : TypeId} {x y z : SV} {vx vy vz : Value} (hx : Den E w x vx) (hy : Den E w y vy) (hz : Den E w z vz) :
    ResOk P E h w ((Instr.mapUpdate ty vx vy vz >>= fun _ => (pure Next.skip : Sem Next)).run P w) (mUp T x y z h (T ty)) := by
  unfold mUp
  split
  · rename_i k v _ _ _ _ _ _ _ hti
    obtain ⟨d, hd, _, _, hkd⟩ := (hT _ _ hti).desc
    simp only at hkd
    subst hkd
    unfold mUp2
    split
    · rename_i tk hk
      exact rUpdate_ok hr hd (hT _ _ hk) hx hy hz
    · trivial
  · trivial
theorem opRes_ok (hT : TOk P T) (hF : FOk P F) (ht : DenA E w t a.tmps) (hr : RelH E h w) (o : Oper) : ResOk P E h w ((execOp a.eval o).run P w) (opRes T F t h o) := by
  have k := fun x => ev_den ht (x : Operand)
  unfold opRes
  split <;> rename_i ho <;> simp only [execOp, ho]
  · exact rMove_ok hT ht hr _ _
  · exact rMove_ok hT ht hr _ _
  · -- pick
    rename_i c x y
    have kc := k c
    unfold rPick
    split
    · rename_i q hq
      rw [hq] at kc
      generalize a.eval c = vc at kc
      cases kc
      refine ResOk.pure hr (fun _ => ?_) (v := pk q (ev t x) (ev t y)) (val := if q then a.eval x else a.eval y) ?_
      · simp [asBool]
      · cases q <;> simp [pk, k]
    · trivial
  · -- alloc
    split
    · rename_i ti hti; exact rAlloc_ok hr (hT _ _ hti)
    · trivial
  · exact rBoxO_ok hr _ _ (k _)
  · -- build
    rename_i ty ps
    obtain ⟨p1, p2⟩ := evP_den ht ps.toList
    have q1 : (evP t ps.toList).length = (ps.map fun (i, x) => (i, a.eval x)).toList.length := by simpa using p1
    have q2 : ∀ (k : Nat) (x : Nat × SV) (y : Nat × Value), (evP t ps.toList)[k]? = some x → (ps.map fun (i, x) => (i, a.eval x)).toList[k]? = some y → x.1 = y.1 ∧ Den E w x.2 y.2 := fun k x y hx hy => p2 k x y hx (by simpa using hy)
    split
    · rename_i ti hti
      split
      · rename_i n e hk
        split
        · rename_i te hte
          refine rBuild_ok hr (hT _ _ hti) te.size (fun n' e' hk' => ?_) q1 q2
          rw [hk] at hk'; cases hk'
          obtain ⟨i, z, hi, hs, _⟩ := (hT _ _ hte).info
          exact ⟨i, hi, hs⟩
        · trivial
      · rename_i hk
        exact rBuild_ok hr (hT _ _ hti) 0 (fun n' e' hk' => absurd hk' (hk n' e')) q1 q2
    · trivial
  · -- buildSlice
    rename_i ty len ps
    obtain ⟨p1, p2⟩ := evP_den ht ps.toList
    split
    · rename_i e _ _ _ _ _ _ _ hti
      obtain ⟨d, hd, _, _, hkd⟩ := (hT _ _ hti).desc
      simp only at hkd
      subst hkd
      split
      · rename_i te hte
        exact rBuildSlice_ok hr hd (hT _ _ hte) len (by simpa using p1) (fun k x y hx hy => p2 k x y hx (by simpa using hy))
      · trivial
    · trivial
  · split
    · rename_i ti hti; exact rLoad_ok hr (hT _ _ hti) (k _)
    · trivial
  · split
    · rename_i ti hti; exact rStoreN_ok hT hr (hT _ _ hti) (k _) ht
    · trivial
  · -- nilCheck
    rename_i x
    have kx := k x
    generalize ev t x = sx at kx ⊢
    generalize a.eval x = vx at kx ⊢
    cases kx <;> first
      | trivial
      | (exact ResOk.pure hr (fun _ => rfl) (.ptr ‹_›))
      | (exact ResOk.pure hr (fun _ => rfl) (.rptr _ _ ‹_› ‹_› ‹_› ‹_› ‹_›))
      | (exact ResOk.pure hr (fun _ => rfl) (.vptr ‹_› ‹_›))
      | (exact ResOk.pure hr (fun _ => rfl) (.func _ ‹_› ‹_›))
  · exact rBin3_ok hT hr (k _) _ _ _ (k _)
  · exact rUn_ok hr _ (k _)
  · split
    · rename_i ts td hts htd; exact rConv_ok hr _ _ (hT _ _ htd) (hT _ _ hts) (k _)
    · trivial
  · split
    · rename_i ti hti; exact rIface_ok hr (hT _ _ hti) (k _)
    · trivial
  · -- makeFunc
    rename_i fn first caps
    unfold rFunc
    split
    · rename_i g hfst
      have hf0 : first = #[] := by apply Array.ext'; simpa [evL_eq] using hfst
      subst hf0
      have hd := evL_den ht caps
      exact ResOk.pure hr (fun _ => by simp [Instr.makeFunc]) (.func _ hd.1 hd.2)
    · rename_i g x l hfst
      split
      · rename_i hcap
        have hc0 : caps = #[] := by apply Array.ext'; simpa [evL_eq] using hcap
        subst hc0
        have hd := evL_den ht first
        exact ResOk.pure hr (fun _ => by simp [Instr.makeFunc]) (.meth _ hd.1 hd.2)
      · trivial
    · trivial
  · -- makeSlice
    rename_i ty l c
    split
    · rename_i e _ _ _ _ _ _ _ hti
      obtain ⟨d, hd, _, _, hkd⟩ := (hT _ _ hti).desc
      simp only at hkd
      subst hkd
      split
      · rename_i te hte
        exact rMake_ok hr hd (hT _ _ hte) (k l) (k c)
      · trivial
    · trivial
  · -- slice
    rename_i ty x lo hi mx
    have kd : ∀ (lo : Option Operand), DenO E w (evO t lo) (lo.map a.eval) := fun lo => by
      cases lo with
      | none => trivial
      | some l => exact k l
    have kl : ∀ (lo : Option Operand), match evO t lo, lo.map a.eval with | some a, some b => Den E w a b | none, none => True | _, _ => False := fun lo => by
      cases lo with
      | none => trivial
      | some l => exact k l
    split
    · rename_i ti hti
      split
      · rename_i e hk
        split
        · rename_i te hte
          have kx := k x
          generalize ev t x = sx at kx ⊢
          obtain ⟨d, hd, _, _, hkd⟩ := (hT _ _ hti).desc
          rw [hk] at hkd
          simp only at hkd
          subst hkd
          have hG : ∀ sx, Den E w sx (a.eval x) → ResOk P E h w ((Instr.sliceAt ty (a.eval x) (lo.map a.eval) (hi.map a.eval) (mx.map a.eval) >>= fun v => pure (Next.value v)).run P w) (rSlG te (hiOk hi mx) sx (evO t lo) (evO t hi) (evO t mx) h) := fun sx kx => by
            unfold rSlG
            split
            · rename_i hg
              exact rSliceV_ok hr hd (hT _ _ hte) kx (kd lo) (kd hi) (kd mx) (fun hm => by
                cases mx with
                | none => exact absurd rfl hm
                | some m =>
                  cases hi with
                  | none => simp [hiOk] at hg
                  | some u => simp)
            · trivial
          unfold rSl
          split
          · rename_i n sz f
            unfold rSlR
            split
            · rename_i hmx
              have hmn : mx = none := by cases mx with | none => rfl | some m => simp [evO] at hmx
              subst hmn
              split
              · rename_i hsz
                exact rSlice_ok hr (hT _ _ hti) hk (hT _ _ hte) kx (kl lo) (kl hi) (fun n' sz' f' hx => by cases hx; exact hsz)
              · trivial
            · trivial
          · exact hG _ kx
          · exact hG _ kx
          · trivial
        · trivial
      · rename_i n e hk
        split
        · rename_i te hte
          obtain ⟨d, hd, _, _, hkd⟩ := (hT _ _ hti).desc
          rw [hk] at hkd
          simp only at hkd
          subst hkd
          exact rSlA_ok hr hd (hT _ _ hte) (k x) (kd lo) (kd hi) (kd mx)
        · trivial
      · trivial
    · trivial
  · split
    · rename_i ti hti; exact rField_ok hr (hT _ _ hti) (k _) _
    · trivial
  · -- indexAddr
    split
    · rename_i ti hti
      split
      · rename_i e hk
        split
        · rename_i te hte; exact rIndex_ok hr (hT _ _ hti) e (.inl hk) (hT _ _ hte) (k _) (k _)
        · trivial
      · rename_i n e hk
        split
        · rename_i te hte; exact rIndex_ok hr (hT _ _ hti) e (.inr ⟨n, hk⟩) (hT _ _ hte) (k _) (k _)
        · trivial
      · trivial
    · trivial
  · split
    · rename_i ti hti; exact rAssert_ok hr (hT _ _ hti) (k _) _ _
    · trivial
  · exact rExtract_ok hr (k _) _
  · -- call
    rename_i c
    have hargs := evL_den ht c.args
    split
    · rename_i f hc
      cases hn : lastN T c.args.toList c.argTypes.toList with
      | some r =>
        obtain ⟨e, sz⟩ := r
        simp only [rCallN, argsN]
        have kf := k f
        split
        · rename_i g hf
          rw [hf] at kf
          split
          · rename_i hg
            intro hsz
            generalize hv : a.eval f = vf at kf
            cases kf
            rename_i vs hs hd
            have hvs : vs = #[] := by simpa using hs
            subst hvs
            exact ⟨c.args.map a.eval, E.newV, by simp [resolve, hc, hv, Deferred.ofValue, invoke, hF g hg], putLast_den hargs hr hn, hr.newVec e sz hsz _, ext_newV E w⟩
          · trivial
        · trivial
      | none =>
      simp only [rCallN, argsN]
      have hargs := evA_den (T := T) ht c.args c.argTypes.toList
      unfold rCall
      have kf := k f
      split
      · rename_i g caps hf
        rw [hf] at kf
        split
        · rename_i hg
          generalize hv : a.eval f = vf at kf
          cases kf
          rename_i vs hs hd
          exact ⟨c.args.map a.eval ++ vs, by simp [resolve, hc, hv, Deferred.ofValue, invoke, hF g hg], hargs.cat ⟨hs, hd⟩⟩
        · trivial
      · rename_i nm hf
        rw [hf] at kf
        split
        · rename_i st pend fid tl params assign body hb
          split
          · rename_i hlen
            obtain ⟨tmps, db, h1, h2, h3⟩ := hr.lp _ _ _ _ _ _ _ _ hb
            generalize hv : a.eval f = vf at kf
            cases kf
            rename_i hnm
            rw [lenS_eq] at hlen
            have hsz : (c.args.map a.eval).size = params.size := by rw [hargs.1, hlen, Array.length_toList]
            refine ⟨((params.zip (c.args.map a.eval)).foldl (fun tmps (x : Nat × Value) => tmps.setIfInBounds x.1 x.2) tmps), ?_, ?_, hnm⟩
            · have hsz' : c.args.size = params.size := by simpa using hsz
              simp [resolve, hc, hv, Deferred.ofValue, invoke, Instr.yield, Instr.getLoop, getObj, Sem.run, h1, hsz']
            · have := zipPut_den (E := E) (w := w) params.toList (evA T t c.args.toList c.argTypes.toList) (c.args.map a.eval).toList tl tmps h2 (by simpa using hargs.1.symm) (fun i x u hx hu => hargs.2 i x u hx (by simpa using hu))
              rw [← Array.foldl_toList, Array.toList_zip]
              exact this
          · trivial
        · trivial
      · rename_i g first hf
        rw [hf] at kf
        split
        · rename_i hg
          generalize hv : a.eval f = vf at kf
          cases kf
          rename_i vs hs hd
          exact ⟨vs ++ c.args.map a.eval, by simp [resolve, hc, hv, Deferred.ofValue, invoke, hF g hg], DenA.cat ⟨hs, hd⟩ hargs⟩
        · trivial
      · trivial
    · rename_i b hc
      obtain ⟨callee, args, tys⟩ := c
      simp only at hc hargs
      subst hc
      obtain ⟨args⟩ := args
      obtain ⟨tys⟩ := tys
      simp only [resolve, Sem.run_bind, Sem.run_pure, Result.andThen_ok, invoke]
      cases b <;> try trivial
      · -- append
        rcases tys with _ | ⟨ty, _ | ⟨ty', _ | ⟨_, _⟩⟩⟩ <;> rcases args with _ | ⟨y, _ | ⟨z, _ | ⟨_, _⟩⟩⟩ <;> try trivial
        simp only [rBuiltin, evL]
        split
        · rename_i e; subst e
          split
          · rename_i e _ _ _ _ _ _ _ hti
            obtain ⟨d, hd, _, _, hkd⟩ := (hT _ _ hti).desc
            simp only at hkd
            subst hkd
            split
            · rename_i te hte
              have := rAppend_ok hr hd (hT _ _ hte) o.type (k y) (k z)
              simpa [builtin] using this
            · trivial
          · trivial
        · trivial
      · -- clear
        rcases tys with _ | ⟨ty, _ | ⟨ty', _ | ⟨_, _⟩⟩⟩ <;> rcases args with _ | ⟨y, _ | ⟨z, _ | ⟨_, _⟩⟩⟩ <;> try trivial
        simp only [rBuiltin, evL]
        split
        · rename_i e _ _ _ _ _ _ _ hti
          obtain ⟨d, hd, _, _, hkd⟩ := (hT _ _ hti).desc
          simp only at hkd
          subst hkd
          split
          · rename_i te hte
            have := rClear_ok hr hd (hT _ _ hte) o.type (k y)
            simpa [builtin] using this
          · trivial
        · trivial
      · -- copy
        rcases tys with _ | ⟨ty, _ | ⟨ty', _ | ⟨_, _⟩⟩⟩ <;> rcases args with _ | ⟨y, _ | ⟨z, _ | ⟨_, _⟩⟩⟩ <;> try trivial
        simp only [rBuiltin, evL]
        split
        · rename_i e _ _ _ _ _ _ _ hti
          obtain ⟨d, hd, _, _, hkd⟩ := (hT _ _ hti).desc
          simp only at hkd
          subst hkd
          split
          · rename_i te hte
            have := rCopy_ok (t' := ty') hr hd (hT _ _ hte) o.type (k y) (k z)
            simpa [builtin] using this
          · trivial
        · trivial
      · -- len
        rcases tys with _ | ⟨ty, _ | ⟨ty', _ | ⟨_, _⟩⟩⟩ <;> rcases args with _ | ⟨y, _ | ⟨z, _ | ⟨_, _⟩⟩⟩ <;> try trivial
        simp only [rBuiltin, evL]
        split
        · rename_i ti hti
          have := rLen_ok hr (hT _ _ hti) (k y) o.type
          simpa [builtin] using this
        · trivial
      · -- max
        rcases args with _ | ⟨y, _ | ⟨z, _ | ⟨_, _⟩⟩⟩ <;> try trivial
        have := rMax_ok (P := P) hr tys.toArray o.type (k y) (k z)
        simpa [rBuiltin, evL, builtin] using this
      · rcases args with _ | ⟨y, _ | ⟨z, _ | ⟨_, _⟩⟩⟩ <;> try trivial
        have := rMin_ok (P := P) hr tys.toArray o.type (k y) (k z)
        simpa [rBuiltin, evL, builtin] using this
    · trivial
  · -- panic
    rename_i x
    have kx := k x
    unfold rPanic
    split
    · rename_i ty v hx
      rw [hx] at kx
      generalize a.eval x = vx at kx
      cases kx
      rename_i u hu
      exact ⟨.iface ty u, by simp [Instr.panic], .iface hu⟩
    · trivial
  · -- makeMap
    rename_i ty
    unfold mMk
    split
    · rename_i k v _ _ _ _ _ _ _ hti
      unfold mMk2
      split
      · exact rMakeMap_ok hr _ _ _ _ _
      · trivial
    · trivial
  · -- lookup
    rename_i ty x y ok
    unfold mLk
    split
    · rename_i kt vt _ _ _ _ _ _ _ hti
      obtain ⟨d, hd, _, _, hkd⟩ := (hT _ _ hti).desc
      simp only at hkd
      subst hkd
      unfold mLk2
      split
      · rename_i tk tv hk hv
        exact rLookup_ok hr hd (hT _ _ hk) (hT _ _ hv) ok (k _) (k _)
      · trivial
    · trivial
  · exact mUp_ok hT hr (k _) (k _) (k _)
  · exact mUp_ok hT hr (k _) (k _) (k _)
  · unfold mFd
    split
    · rename_i ti hti; exact rFld_ok hr (hT _ _ hti) (k _) _
    · trivial
  · split
    · rename_i ti hti; exact rRange_ok hr (hT _ _ hti) (k _)
    · trivial
  · exact rNext_ok hr (k _)
  · exact rEntry_ok hr (k _)
  · split
    · rename_i ti hti
      split
      · rename_i n e hk
        split
        · rename_i te hte
          obtain ⟨d, hd, _, _, hkd⟩ := (hT _ _ hti).desc
          rw [hk] at hkd
          simp only at hkd
          subst hkd
          exact rIdx_ok hr hd (hT _ _ hte) (k _) (k _)
        · trivial
      · trivial
    · trivial
  · trivial
end
end Go.Eng
end

/- Values that mention few names. -/
section
namespace Go.Eng
open Go.RowKit
set_option linter.unusedVariables false

mutual
/-- Every name in it is below L, every own slice below M. -/
def Bd (L M : Nat) : SV → Prop
  | .any => True
  | .int _ _ => True
  | .bool _ => True
  | .str _ => True
  | .ptr nm _ => nm < L
  | .nilp => True
  | .nils _ _ => True
  | .rptr sz f => ∀ j, j < sz → Bd L M (f j)
  | .row n sz f => ∀ i j, i < n → j < sz → Bd L M (f i j)
  | .vec id _ => id < M
  | .vptr id _ _ _ _ => id < M
  | .func _ caps => BdL L M caps
  | .nilf => True
  | .iface _ v => Bd L M v
  | .nili => True
  | .agg l => BdL L M l
  | .tup l => BdL L M l
  | .yield nm => nm < L
  | .meth _ first => BdL L M first
  | .vcut id _ _ _ _ _ => id < M
  | .bsl nm _ _ => nm < L
  | .mapp nm => nm < L
def BdL (L M : Nat) : List SV → Prop
  | [] => True
  | x :: l => Bd L M x ∧ BdL L M l
end

theorem BdL_get {L M : Nat} : ∀ {l : List SV}, BdL L M l → ∀ (i : Nat) (x : SV), l[i]? = some x → Bd L M x
  | [], _, i, x, h => by simp at h
  | y :: l, hb, 0, x, h => by simp [BdL] at hb h; subst h; exact hb.1
  | y :: l, hb, i + 1, x, h => by simp [BdL] at hb h; exact BdL_get hb.2 i x h

/-- Seen from another ghost: what the value mentions bears the same there. -/
theorem Den.turn {E E' : Env} {w : World} {x : SV} {v : Value} (hd : Den E w x v) (hb : Bd E'.nb E'.nv x) (hrho : ∀ nm, nm < E'.nb → nm < E.nb → E'.rho nm = E.rho nm) (hval : ∀ id ver y, id < E'.nv → id < E.nv → E.val id ver = some y → E'.val id ver = some y)
    (hown : ∀ b, b < w.heap.size → E.own b = none → E'.own b = none) : Den E' w x v := by
  induction hd with
  | any v => exact .any v
  | int k n => exact .int k n
  | bool b => exact .bool b
  | str s => exact .str s
  | @ptr nm off hn => simp only [Bd] at hb; rw [← hrho nm hb hn]; exact .ptr hb
  | nilp => exact .nilp
  | nils h => exact .nils h
  | @rptr sz f A g hA ho hc h1 hd ih => simp only [Bd] at hb; exact .rptr A g hA (hown _ hA ho) hc h1 (fun j hj => ih j hj (hb j hj))
  | @row n sz f A cap g hA ho hn hc h1 hd ih => simp only [Bd] at hb; exact .row A cap g hA (hown _ hA ho) hn hc h1 (fun i j hi hj => ih i j hi hj (hb i j hi hj))
  | rowZ a cap => exact .rowZ a cap
  | vec hi hv => simp only [Bd] at hb; exact .vec hb (hval _ _ _ hb hi hv)
  | vptr hi hv => simp only [Bd] at hb; exact .vptr hb (hval _ _ _ hb hi hv)
  | vcut hi hv hn hc ha h0 hA hB => simp only [Bd] at hb; exact .vcut hb (hval _ _ _ hb hi hv) hn hc ha h0 hA hB
  | @bsl nm off n cap hn hc => simp only [Bd] at hb; rw [← hrho nm hb hn]; exact .bsl hb hc
  | @mapp nm hn => simp only [Bd] at hb; rw [← hrho nm hb hn]; exact .mapp hb
  | func vs hs hd ih => simp only [Bd] at hb; exact .func vs hs (fun i x u hx hu => ih i x u hx hu (BdL_get hb i x hx))
  | meth vs hs hd ih => simp only [Bd] at hb; exact .meth vs hs (fun i x u hx hu => ih i x u hx hu (BdL_get hb i x hx))
  | nilf => exact .nilf
  | iface _ ih => simp only [Bd] at hb; exact .iface (ih hb)
  | nili => exact .nili
  | agg vs hs h1 hd ih => simp only [Bd] at hb; exact .agg vs hs h1 (fun i x u hx hu => ih i x u hx hu (BdL_get hb i x hx))
  | tup vs hs hd ih => simp only [Bd] at hb; exact .tup vs hs (fun i x u hx hu => ih i x u hx hu (BdL_get hb i x hx))
  | @yield nm hn => simp only [Bd] at hb; rw [← hrho nm hb hn]; exact .yield hb
end Go.Eng
end

/- The symbolic machine. -/
section
namespace Go.Eng
open Go.RowKit
set_option linter.unusedVariables false

inductive It : Type 1
  | code (c : Code)
  | blk (id : Nat)
  | inv (ι : Type) (st : ι → List SV × HS) (μ : ι → Nat) (i : ι) (body : Code)
  | reg (ops : Array Oper) (idx : List Nat)
  | inRng (nm : Nat)
  | endRng (nm : Nat)
  | beginR
  | endR (nm : Nat)
  /-- A loop, round by round. -/
  | aga (body : Code)
  | scp (body : Code)
/-- What lies to be done, in the machine's words. -/
def items (ρ : Nat → Nat) : List It → List Item
  | [] => []
  | .code c :: k => .code c :: items ρ k
  | .blk id :: k => .inBlock id :: items ρ k
  | .inv _ _ _ _ body :: k => .inLoop body :: items ρ k
  | .reg ops idx :: k => .inRegion ops idx :: items ρ k
  | .inRng nm :: k => .inRangeFunc (ρ nm) :: items ρ k
  | .endRng nm :: k => .endRangeFunc (ρ nm) :: items ρ k
  | .beginR :: k => .beginRound :: items ρ k
  | .aga body :: k => .inLoop body :: items ρ k
  | .scp body :: k => .inScope body :: items ρ k
  | .endR _ :: k => items ρ k
/-- The round's record, if this is a round's frame. -/
def rnd : List It → Option Nat
  | [] => none
  | .endR nm :: _ => some nm
  | .code _ :: k => rnd k
  | .blk _ :: k => rnd k
  | .inv _ _ _ _ _ :: k => rnd k
  | .reg _ _ :: k => rnd k
  | .inRng _ :: k => rnd k
  | .endRng _ :: k => rnd k
  | .beginR :: k => rnd k
  | .aga _ :: k => rnd k
  | .scp _ :: k => rnd k
/-- The names in it are below L; a round's end is the last. -/
def kb (L : Nat) : List It → Prop
  | [] => True
  | .code _ :: k => kb L k
  | .blk _ :: k => kb L k
  | .inv _ _ _ _ _ :: k => kb L k
  | .reg _ _ :: k => kb L k
  | .inRng nm :: k => nm < L ∧ kb L k
  | .endRng nm :: k => nm < L ∧ kb L k
  | .beginR :: k => kb L k
  | .aga _ :: k => kb L k
  | .scp _ :: k => kb L k
  | .endR nm :: k => nm < L ∧ k = []

/-- How a run ends: with a result, in a panic, or (a bottom frame that has calls deferred) with the slots that its results lie in. -/
inductive Out : Type 1 where
  | ret (v : SV)
  | pan (v : SV)
  | fin (p : Option SV) (ts : List SV)
  | stop (k : List It) (t : List SV)
  /-- A round, run by itself, has ended. -/
  | rnd (v : SV)
def keepN (t : List SV) : List Nat → List SV
  | [] => []
  | k :: l => nth t k :: keepN t l
structure Fr where
  fid : Nat
  k : List It
  t : List SV

/-- A way through a region whose order is drawn: quiet operations as soon as they are ready, the others in every order. -/
inductive Plan where
  | done
  | quiet (i : Nat) (p : Plan)
  | loud (i : Nat) (re : List Nat) (p : Plan)
  | both (p q : Plan)

abbrev Spec : Type := List SV → HS → Option (Prop × SV × HS)
structure Ctx where
  P : Program
  T : Nat → Option TI
  F : Nat → Bool
  FN : Nat → Option Func
  inl : Nat → Bool
  G : Nat → Option Spec
  plan : Nat → Nat → Option Plan
  /-- None: the plain machine. Some l: the bottom frame alone, its calls run apart; l: the slots that its results lie in. -/
  D : Option (List Nat)
  /-- The bottom frame is a round. -/
  rd : Bool := false
  /-- Rounds run apart. -/
  rs : Bool := false
def Ctx.off (C : Ctx) : Ctx := { C with D := none, rd := false, rs := false }
def Ctx.rnd (C : Ctx) : Ctx := { C with D := none, rd := true, rs := false }

abbrev Rn : Type 1 := Nat → List It → List SV → List Fr → HS → (Out → HS → Prop) → Prop

def getO : List Oper → Nat → Option Oper
  | [], _ => none
  | o :: _, 0 => some o
  | _ :: l, n + 1 => getO l n
theorem getO_eq : ∀ (l : List Oper) (n : Nat), getO l n = l[n]?
  | [], n => by simp [getO]
  | x :: l, 0 => by simp [getO]
  | x :: l, n + 1 => by simp [getO, getO_eq l n]
def upto : List Oper → Nat → List Nat
  | [], _ => []
  | _ :: l, n => n :: upto l (n + 1)
theorem upto_eq : ∀ (l : List Oper) (n : Nat), upto l n = List.range' n l.length
  | [], n => rfl
  | _ :: l, n => by simp [upto, upto_eq l (n + 1), List.range'_succ]
def put (t : List SV) (d : Option Nat) (v : SV) : List SV :=
  match d with
  | some i => upd t i v
  | none => t
def anys : Nat → List SV
  | 0 => []
  | n + 1 => .any :: anys n
theorem anys_eq : ∀ n, anys n = List.replicate n .any
  | 0 => rfl
  | n + 1 => by simp [anys, anys_eq n, List.replicate_succ]
def exitI (id : Nat) : List It → Option (List It)
  | [] => none
  | .blk id' :: k => if id' = id then some k else exitI id k
  | .code _ :: k => exitI id k
  | .inv _ _ _ _ _ :: k => exitI id k
  | .reg _ _ :: k => exitI id k
  | .inRng _ :: k => exitI id k
  | .endRng _ :: k => exitI id k
  | .beginR :: k => exitI id k
  | .aga _ :: k => exitI id k
  | .scp _ :: k => exitI id k
  | .endR _ :: k => exitI id k
def spl (q : Bool) (A B : Prop) : Prop := (q = true → A) ∧ (q = false → B)
theorem spl_true (A B : Prop) : spl true A B = A := by simp [spl]
theorem spl_false (A B : Prop) : spl false A B = B := by simp [spl]

/-- The results of a function, out of its temporaries. -/
def resL (T : Nat → Option TI) (t : List SV) (h : HS) : List ResultVar → Option (Prop × List SV)
  | [] => some (True, [])
  | .tmp i :: l => match resL T t h l with
    | some (p, vs) => some (p, nth t i :: vs)
    | none => none
  | .cell a ty :: l => match T ty with
    | some ti => match rLoad ti h (nth t a), resL T t h l with
      | .val q v _, some (p, vs) => some (q ∧ p, v :: vs)
      | _, _ => none
    | none => none
def oneR : List SV → SV
  | [v] => v
  | l => .tup l

def CallsS (P : Program) (g : Nat) (args : List SV) (h : HS) (K : Out → HS → Prop) : Prop :=
  ∀ (E : Env) (w : World) (vals : Array Value), RelH E h w → DenA E w args vals → Calls P g vals w fun e w' => ∃ o h' E', K o h' ∧ RelH E' h' w' ∧ Ext E w E' w' ∧
    match o, e with
    | .ret v, .returned val => Den E' w' v val
    | .pan v, .panicked chain => ∃ val, chain = [{ v := val, recovered := false }] ∧ Den E' w' v val
    | _, _ => False

/-- A round that runs by itself: the frame that called yield goes on. -/
def RoundS (P : Program) (nm rf : Nat) (rt : List SV) (assign body : Code) (h : HS) (K : SV → HS → Prop) : Prop :=
  ∀ (E : Env) (w : World) (tmps : Array Value) (c : Frame) (cs : List Frame), RelH E h w → DenA E w rt tmps → nm < E.nb →
    ∃ v val h' E' w', Steps P (lone (Frame.round (E.rho nm) rf tmps assign body .normal) (c :: cs) w) (lone (c.finish val) cs w') ∧ K v h' ∧ RelH E' h' w' ∧ Ext E w E' w' ∧ Den E' w' v val
/-- A panic at the frame in hand. -/
def panQ (D : Option (List Nat)) (Q : Out → HS → Prop) (t : List SV) (v : SV) (h : HS) : Prop :=
  match D with
  | none => Q (.pan v) h
  | some l => Q (.fin (some v) (keepN t l)) h
def outK (S : List SV → HS → Prop) (X : List SV → SV → HS → Prop) (t : List SV) (dst : Option Nat) (o : Out) (h : HS) : Prop :=
  match o with
  | .ret v => S (put t dst v) h
  | .pan v => X t v h
  | _ => False
/-- An operation that the machine does not know: the bottom frame may stop before it. -/
def stopQ (D : Option (List Nat)) (Q : Out → HS → Prop) (k : List It) (t : List SV) (h : HS) : Prop :=
  match D with
  | none => False
  | some _ => Q (.stop k t) h
section
variable (C : Ctx) (R R0 : Rn)
def popS (v : SV) (fs : List Fr) (h : HS) (Q : Out → HS → Prop) : Prop :=
  match fs with
  | [] => Q (.ret v) h
  | ⟨fid, .reg ops (i :: idx) :: k, t⟩ :: fs => match getO ops.toList i with
    | some o => R fid (.reg ops idx :: k) (put t o.dst v) fs h Q
    | none => False
  | ⟨fid, .inRng nm :: k, t⟩ :: fs => R fid (.endRng nm :: k) t fs h Q
  | _ => False
/-- A round ends: the frame that called yield goes on. -/
def popR (v : SV) (fs : List Fr) (h : HS) (Q : Out → HS → Prop) : Prop :=
  match fs with
  | ⟨fid, .reg ops (i :: idx) :: k, t⟩ :: fs => match getO ops.toList i with
    | some o => R fid (.reg ops idx :: k) (put t o.dst v) fs h Q
    | none => False
  | [] => match C.D, C.rd with
    | none, true => Q (.rnd v) h
    | _, _ => False
  | _ => False
def endRS (b : Blk) (nm : Nat) (jump : Option Code) (fs : List Fr) (h : HS) (Q : Out → HS → Prop) : Prop :=
  match b with
  | .loop _ _ fid t params assign body => popR C R (.bool jump.isNone) fs { h with blks := setB h.blks nm (.loop (if jump.isNone then .ready else .done) jump fid t params assign body) } Q
  | _ => False
def beginRS (x : Option Nat) (fid : Nat) (k : List It) (t : List SV) (fs : List Fr) (h : HS) (Q : Out → HS → Prop) : Prop :=
  match x with
  | some nm => match getB h.blks nm with
    | .loop .ready pend fid' t' params assign body => R fid k t fs { h with blks := setB h.blks nm (.loop .busy pend fid' t' params assign body) } Q
    | _ => False
  | none => False
def endRngS (b : Blk) (nm fid : Nat) (k : List It) (t : List SV) (fs : List Fr) (h : HS) (Q : Out → HS → Prop) : Prop :=
  match b with
  | .loop .ready none _ _ _ _ _ => R fid k t fs { h with blks := setB h.blks nm .dead } Q
  | .loop .done none _ _ _ _ _ => R fid k t fs { h with blks := setB h.blks nm .dead } Q
  | .loop .done (some c) _ _ _ _ _ => R fid (.code c :: k) t fs { h with blks := setB h.blks nm .dead } Q
  | _ => False
def retS (x : Option Nat) (jump : Code) (fs : List Fr) (h : HS) (Q : Out → HS → Prop) (els : Prop) : Prop :=
  match x with
  | none => els
  | some nm => endRS C R (getB h.blks nm) nm (some jump) fs h Q
def leaveS (D : Option (List Nat)) (fid : Nat) (t : List SV) (fs : List Fr) (h : HS) (Q : Out → HS → Prop) (fn : Option Func) : Prop :=
  match D with
  | none => match fn with
    | some fn => match resL C.T t h fn.results.toList with
      | some (p, vs) => p ∧ popS R (oneR vs) fs h Q
      | none => False
    | none => False
  | some l => Q (.fin none (keepN t l)) h
def condS (x : SV) (fid : Nat) (a b : Code) (k : List It) (t : List SV) (fs : List Fr) (h : HS) (Q : Out → HS → Prop) : Prop :=
  match x with
  | .bool q => spl q (R fid (.code a :: k) t fs h Q) (R fid (.code b :: k) t fs h Q)
  | _ => False
def exitS (id : Nat) (k0 : List It) (k : Option (List It)) (fid : Nat) (t : List SV) (fs : List Fr) (h : HS) (Q : Out → HS → Prop) : Prop :=
  match k with
  | some k => R fid k t fs h Q
  | none => retS C R (rnd k0) (.exit id) fs h Q False
def rngGo (D : Option (List Nat)) (fn : Option Func) (g : Nat) (args : List SV) (nm fid : Nat) (k : List It) (t : List SV) (fs : List Fr) (h : HS) (Q : Out → HS → Prop) : Prop :=
  match fn with
  | some fn => match fn.body with
    | some c => match D with
      | none => R g [.code c] (catS args (anys (fn.ntmps - lenS args))) (⟨fid, .inRng nm :: k, t⟩ :: fs) h Q
      | some _ => R0 g [.code c] (catS args (anys (fn.ntmps - lenS args))) [] h (outK (fun t' h' => R fid (.endRng nm :: k) t' fs h' Q) (panQ C.D Q) t none)
    | none => False
  | none => False
/-- A range over a function: its record is laid, the function called. -/
def rngS (f : SV) (params : Array Nat) (assign body : Code) (fid : Nat) (k : List It) (t : List SV) (fs : List Fr) (h : HS) (Q : Out → HS → Prop) : Prop :=
  match f with
  | .func g caps => C.F g = true ∧ rnd k = none ∧ rngGo C R R0 C.D (C.FN g) g (.yield (lenB h.blks) :: caps) (lenB h.blks) fid k t fs { h with blks := snocB h.blks (.loop .ready none fid t params assign body) } Q
  | _ => False
def roundS (rs : Bool) (D : Option (List Nat)) (ok : Bool) (nm rf : Nat) (rt : List SV) (assign body : Code) (fid : Nat) (ops : Array Oper) (i : Nat) (idx : List Nat) (dst : Option Nat) (k : List It) (t : List SV) (fs : List Fr) (h : HS) (Q : Out → HS → Prop) : Prop :=
  match rs, D with
  | true, _ => RoundS C.P nm rf rt assign body h (fun v h' => R fid (.reg ops idx :: k) (put t dst v) fs h' Q)
  | false, none => ok = true ∧ R rf [.code assign, .beginR, .code body, .endR nm] rt (⟨fid, .reg ops (i :: idx) :: k, t⟩ :: fs) h Q
  | false, some _ => False
/-- Inlined call, or one by contract; else an obligation of its own. -/
def callS (g : Nat) (args : List SV) (fid : Nat) (ops : Array Oper) (i : Nat) (idx : List Nat) (dst : Option Nat) (k : List It) (t : List SV) (fs : List Fr) (h : HS) (Q : Out → HS → Prop) : Prop :=
  CallsS C.P g args h (outK (fun t' h' => R fid (.reg ops idx :: k) t' fs h' Q) (panQ C.D Q) t dst)
def specS (r : Option (Prop × SV × HS)) (fid : Nat) (ops : Array Oper) (idx : List Nat) (dst : Option Nat) (k : List It) (t : List SV) (fs : List Fr) (Q : Out → HS → Prop) : Prop :=
  match r with
  | some (p, v, h') => p ∧ R fid (.reg ops idx :: k) (put t dst v) fs h' Q
  | none => False
def inlS (D : Option (List Nat)) (fn : Option Func) (g : Nat) (args : List SV) (fid : Nat) (ops : Array Oper) (i : Nat) (idx : List Nat) (dst : Option Nat) (k : List It) (t : List SV) (fs : List Fr) (h : HS) (Q : Out → HS → Prop) : Prop :=
  match fn with
  | some fn => match fn.body with
    | some c => match D with
      | none => R g [.code c] (catS args (anys (fn.ntmps - lenS args))) (⟨fid, .reg ops (i :: idx) :: k, t⟩ :: fs) h Q
      | some _ => R0 g [.code c] (catS args (anys (fn.ntmps - lenS args))) [] h (outK (fun t' h' => R fid (.reg ops idx :: k) t' fs h' Q) (panQ C.D Q) t dst)
    | none => False
  | none => False
def goS (sp : Option Spec) (il : Bool) (g : Nat) (args : List SV) (fid : Nat) (ops : Array Oper) (i : Nat) (idx : List Nat) (dst : Option Nat) (k : List It) (t : List SV) (fs : List Fr) (h : HS) (Q : Out → HS → Prop) : Prop :=
  match sp, il with
  | some f, _ => specS R (f args h) fid ops idx dst k t fs Q
  | none, true => inlS C R R0 C.D (C.FN g) g args fid ops i idx dst k t fs h Q
  | none, false => callS C R g args fid ops i idx dst k t fs h Q
def execS (r : Res) (fid : Nat) (ops : Array Oper) (i : Nat) (idx : List Nat) (dst : Option Nat) (k : List It) (t : List SV) (fs : List Fr) (h : HS) (Q : Out → HS → Prop) : Prop :=
  match r with
  | .val p v h' => p ∧ R fid (.reg ops idx :: k) (put t dst v) fs h' Q
  | .skip p h' => p ∧ R fid (.reg ops idx :: k) (put t dst .any) fs h' Q
  | .fork p v u h' => (p → R fid (.reg ops idx :: k) (put t dst v) fs h' Q) ∧ R fid (.reg ops idx :: k) (put t dst u) fs h' Q
  | .pan v => panQ C.D Q t v h
  | .call g args => goS C R R0 (C.G g) (C.inl g) g args fid ops i idx dst k t fs h Q
  | .callN p g args h' => p ∧ goS C R R0 (C.G g) (C.inl g) g args fid ops i idx dst k t fs h' Q
  | .pick c n p v g u h' => c ∧ (∀ i, i < n → p i = true → R fid (.reg ops idx :: k) (put t dst (v i)) fs (g i) Q) ∧ ((∀ i, i < n → p i = false) → R fid (.reg ops idx :: k) (put t dst u) fs h' Q)
  | .round nm rf rt assign body => roundS C R C.rs C.D (C.FN rf).isSome nm rf rt assign body fid ops i idx dst k t fs h Q
  | .bad => stopQ C.D Q (.reg ops (i :: idx) :: k) t h
def wantS (b want : Bool) (o : Oper) (fid : Nat) (ops : Array Oper) (i : Nat) (idx : List Nat) (k : List It) (t : List SV) (fs : List Fr) (h : HS) (Q : Out → HS → Prop) : Prop :=
  match b, want with
  | true, true => execS C R R0 (opRes C.T C.F t h o) fid ops i idx o.dst k t fs h Q
  | false, false => execS C R R0 (opRes C.T C.F t h o) fid ops i idx o.dst k t fs h Q
  | _, _ => R fid (.reg ops idx :: k) (put t o.dst (.tup [])) fs h Q
def guardS (x : SV) (d : Nat) (want : Bool) (o : Oper) (fid : Nat) (ops : Array Oper) (i : Nat) (idx : List Nat) (k : List It) (t : List SV) (fs : List Fr) (h : HS) (Q : Out → HS → Prop) : Prop :=
  match x with
  | .bool q => spl q (wantS C R R0 true want o fid ops i idx k (upd t d (.bool true)) fs h Q) (wantS C R R0 false want o fid ops i idx k (upd t d (.bool false)) fs h Q)
  | .tup [] => R fid (.reg ops idx :: k) (put t o.dst (.tup [])) fs h Q
  | _ => False
def guard1 (oj : Option Oper) (want : Bool) (o : Oper) (fid : Nat) (ops : Array Oper) (i : Nat) (idx : List Nat) (k : List It) (t : List SV) (fs : List Fr) (h : HS) (Q : Out → HS → Prop) : Prop :=
  match oj with
  | some { dst := some d, .. } => guardS C R R0 (nth t d) d want o fid ops i idx k t fs h Q
  | _ => False
def opS (o : Option Oper) (fid : Nat) (ops : Array Oper) (i : Nat) (idx : List Nat) (k : List It) (t : List SV) (fs : List Fr) (h : HS) (Q : Out → HS → Prop) : Prop :=
  match o with
  | some ⟨dst, op, ty, pos, aft, none⟩ => execS C R R0 (opRes C.T C.F t h ⟨dst, op, ty, pos, aft, none⟩) fid ops i idx dst k t fs h Q
  | some ⟨dst, op, ty, pos, aft, some (j, want)⟩ => guard1 C R R0 (getO ops.toList j) want ⟨dst, op, ty, pos, aft, some (j, want)⟩ fid ops i idx k t fs h Q
  | none => False
end

/- ### regions whose order is drawn -/
def quietR (r : Option (Prop × SV × HS)) (h : HS) : Option (Prop × SV) :=
  match r with
  | some (p, v, h') => some (p ∧ h' = h, v)
  | none => none
/-- A result that leaves memory as it was. -/
def resQ (G : Nat → Option Spec) (r : Res) (h : HS) : Option (Prop × SV) :=
  match r with
  | .val p v h' => some (p ∧ h' = h, v)
  | .call g args => match G g with
    | some f => quietR (f args h) h
    | none => none
  | _ => none
/-- Read again, an operation gives what it gave. -/
def reS1 (r : Option (Prop × SV)) (dst : Option Nat) (t : List SV) : Prop :=
  match r, dst with
  | some (p, v), some d => p ∧ v = nth t d
  | some (p, _), none => p
  | none, _ => False
def reW (b want : Bool) (r : Option (Prop × SV)) (dst : Option Nat) (t : List SV) : Prop :=
  match b, want with
  | true, true => reS1 r dst t
  | false, false => reS1 r dst t
  | _, _ => True
def reG (x : SV) (want : Bool) (r : Option (Prop × SV)) (dst : Option Nat) (t : List SV) : Prop :=
  match x with
  | .bool b => reW b want r dst t
  | .tup [] => True
  | _ => False
def reO (C : Ctx) (ops : Array Oper) (t : List SV) (h : HS) (o : Option Oper) : Prop :=
  match o with
  | some ⟨dst, op, ty, pos, aft, none⟩ => reS1 (resQ C.G (opRes C.T C.F t h ⟨dst, op, ty, pos, aft, none⟩) h) dst t
  | some ⟨dst, op, ty, pos, aft, some (j, want)⟩ => match getO ops.toList j with
    | some { dst := some d, .. } => reG (nth t d) want (resQ C.G (opRes C.T C.F t h ⟨dst, op, ty, pos, aft, some (j, want)⟩) h) dst t
    | _ => False
  | none => False
def reA (C : Ctx) (ops : Array Oper) (t : List SV) (h : HS) : List Nat → Prop
  | [] => True
  | k :: l => reO C ops t h (getO ops.toList k) ∧ reA C ops t h l
/-- Must j follow k? -/
def befGo (k : Nat) : List Oper → Nat → Nat → Nat
  | [], _, m => m
  | o :: os, j, m => befGo k os (j + 1) (if o.after.any fun e => Region.binds .any e && (e.on == k || m.testBit e.on) then m ||| 1 <<< j else m)
def bef (ops : Array Oper) (j k : Nat) : Bool := (befGo k ((ops.toList.take (j + 1)).drop (k + 1)) (k + 1) 0).testBit j
/-- An operation that asks nothing of memory. -/
def flat (o : Oper) : Bool :=
  match o.op with
  | .pick _ _ _ | .nilCheck _ | .binOp _ _ _ _ _ | .unOp _ _ _ | .convert _ _ _ | .makeInterface _ _ | .makeFunc _ _ _ | .extract _ _ => true
  | .move x | .assign x => match x with
    | .const (.slice none 0 0) => false
    | _ => true
  | _ => false
def flatAt (ops : Array Oper) (i : Nat) : Bool := match ops[i]? with
  | some o => flat o
  | none => false
/-- Each slot is written once, and who reads it comes behind (or, where memory is not asked, before). -/
def ssaOk (ops : Array Oper) : Bool :=
  (List.range ops.size).all fun a => match ops[a]? with
    | some oa => match oa.dst with
      | some d => (List.range ops.size).all fun b => match ops[b]? with
        | some ob => (a == b || ob.dst != some d) && (!(ob.looksAt ops).contains d || (a != b && (bef ops b a || (bef ops a b && flat ob))))
        | none => true
      | none => true
    | none => true
def firsts : Plan → List Nat
  | .loud i _ _ => [i]
  | .both p q => firsts p ++ firsts q
  | _ => []
def okP (ops : Array Oper) : Bool → Plan → Nat → Array Bool → List Nat → Bool
  | top, .done, _, l, _ => top && (Region.ready .any ops l).isEmpty
  | top, .quiet i p, n + 1, l, pd => top && (Region.ready .any ops l).contains i && okP ops true p n (l.setIfInBounds i true) (if flatAt ops i then pd else i :: pd)
  | top, .loud i re p, n + 1, l, pd => (!top || ((Region.ready .any ops l).all (· == i) && (Region.ready .any ops l).contains i)) && (pd.filter fun k => !bef ops i k).all re.contains && okP ops true p n (l.setIfInBounds i true) (pd.filter fun k => !bef ops i k)
  | top, .both p q, n, l, pd => (!top || ((Region.ready .any ops l).all (firsts p ++ firsts q).contains && !(Region.ready .any ops l).isEmpty)) && okP ops false p n l pd && okP ops false q n l pd
  | _, _, 0, _, _ => false
def planOk (ops : Array Oper) (p : Plan) : Bool := ssaOk ops && Region.noSelect ops && okP ops true p ops.size (Array.replicate ops.size false) []
/-- No operation writes a slot that is kept. -/
def keepW (ops : Array Oper) (l : List Nat) : Bool := ops.all fun o => match o.dst with
  | some d => !l.contains d
  | none => true
/-- No operation calls a function. -/
def callFree (ops : Array Oper) : Bool := ops.all fun o => match o.op with
  | .call c => match c.callee with
    | .builtin _ => true
    | _ => false
  | _ => true
def keepOk (ops : Array Oper) (D : Option (List Nat)) : Bool :=
  match D with
  | none => true
  | some l => keepW ops l || callFree ops
section
variable (C : Ctx) (R R0 : Rn) (X : List SV → SV → HS → Prop) (Q : Out → HS → Prop)
def qGo (r : Option (Prop × SV)) (dst : Option Nat) (S : List SV → HS → Prop) (t : List SV) (h : HS) : Prop :=
  match r with
  | some (p, v) => p ∧ S (put t dst v) h
  | none => False
def aGo (r : Option (Prop × SV × HS)) (dst : Option Nat) (S : List SV → HS → Prop) (t : List SV) : Prop :=
  match r with
  | some (p, v, h') => p ∧ S (put t dst v) h'
  | none => False
def nestS (fn : Option Func) (g : Nat) (args : List SV) (dst : Option Nat) (S : List SV → HS → Prop) (t : List SV) (h : HS) : Prop :=
  match fn with
  | some fn => match fn.body with
    | some c => R0 g [.code c] (catS args (anys (fn.ntmps - lenS args))) [] h (outK S X t dst)
    | none => False
  | none => False
def lCall (sp : Option Spec) (il : Bool) (g : Nat) (args : List SV) (dst : Option Nat) (S : List SV → HS → Prop) (t : List SV) (h : HS) : Prop :=
  match sp, il with
  | some f, _ => aGo (f args h) dst S t
  | none, true => nestS R0 X (C.FN g) g args dst S t h
  | none, false => CallsS C.P g args h (outK S X t dst)
def lGo (r : Res) (dst : Option Nat) (S : List SV → HS → Prop) (t : List SV) (h : HS) : Prop :=
  match r with
  | .val p v h' => p ∧ S (put t dst v) h'
  | .skip p h' => p ∧ S (put t dst .any) h'
  | .call g args => lCall C R0 X (C.G g) (C.inl g) g args dst S t h
  | .callN p g args h' => p ∧ lCall C R0 X (C.G g) (C.inl g) g args dst S t h'
  | .round nm rf rt assign body => RoundS C.P nm rf rt assign body h (fun v h' => S (put t dst v) h')
  | _ => False
/-- One operation of such a region: quiet, or in its turn. -/
def goP (quiet : Bool) (o : Oper) (S : List SV → HS → Prop) (t : List SV) (h : HS) : Prop :=
  match quiet with
  | true => qGo (resQ C.G (opRes C.T C.F t h o) h) o.dst S t h
  | false => lGo C R0 X (opRes C.T C.F t h o) o.dst S t h
def gateW (b want : Bool) (quiet : Bool) (o : Oper) (S : List SV → HS → Prop) (t : List SV) (h : HS) : Prop :=
  match b, want with
  | true, true => goP C R0 X quiet o S t h
  | false, false => goP C R0 X quiet o S t h
  | _, _ => S (put t o.dst (.tup [])) h
def gateG (x : SV) (d : Nat) (want : Bool) (quiet : Bool) (o : Oper) (S : List SV → HS → Prop) (t : List SV) (h : HS) : Prop :=
  match x with
  | .bool q => spl q (gateW C R0 X true want quiet o S (upd t d (.bool true)) h) (gateW C R0 X false want quiet o S (upd t d (.bool false)) h)
  | .tup [] => S (put t o.dst (.tup [])) h
  | _ => False
def gate (ops : Array Oper) (quiet : Bool) (o : Option Oper) (S : List SV → HS → Prop) (t : List SV) (h : HS) : Prop :=
  match o with
  | some ⟨dst, op, ty, pos, aft, none⟩ => goP C R0 X quiet ⟨dst, op, ty, pos, aft, none⟩ S t h
  | some ⟨dst, op, ty, pos, aft, some (j, want)⟩ => match getO ops.toList j with
    | some { dst := some d, .. } => gateG C R0 X (nth t d) d want quiet ⟨dst, op, ty, pos, aft, some (j, want)⟩ S t h
    | _ => False
  | none => False
def thenS (ops : Array Oper) (re : List Nat) (S : List SV → HS → Prop) (t : List SV) (h : HS) : Prop := reA C ops t h re ∧ S t h
def planS (fid : Nat) (ops : Array Oper) (k : List It) (fs : List Fr) : Plan → List SV → HS → Prop
  | .done, t, h => R fid k t fs h Q
  | .quiet i p, t, h => gate C R0 X ops true (getO ops.toList i) (planS fid ops k fs p) t h
  | .loud i re p, t, h => gate C R0 X ops false (getO ops.toList i) (thenS C ops re (planS fid ops k fs p)) t h
  | .both p q, t, h => planS fid ops k fs p t h ∧ planS fid ops k fs q t h
def drawS (p : Option Plan) (fid : Nat) (ops : Array Oper) (k : List It) (t : List SV) (fs : List Fr) (h : HS) : Prop :=
  match p with
  | some p => (planOk ops p = true ∧ keepOk ops C.D = true) ∧ planS C R R0 (panQ C.D Q) Q fid ops k fs p t h
  | none => False
end

/-- What one state says is no more than what another one says. -/
def subX (x y : SV) : Prop :=
  match y with
  | .any => True
  | .row n sz f => match x with
    | .row n' sz' f' => n' = n ∧ sz' = sz ∧ ∀ i j, i < n → j < sz → f' i j = f i j
    | _ => False
  | y => x = y
def subL : List SV → List SV → Prop
  | [], [] => True
  | x :: l, y :: k => subX x y ∧ subL l k
  | _, _ => False
def subBk (x y : Blk) : Prop :=
  match y with
  | .dead => True
  | .live ty c => match x with
    | .live ty' c' => ty' = ty ∧ subL c' c
    | _ => False
  | y => x = y
def subB : List Blk → List Blk → Prop
  | _, [] => True
  | [], _ :: _ => False
  | x :: l, y :: k => subBk x y ∧ subB l k
def subVk (x y : Vc) : Prop :=
  match y with
  | .dead => True
  | .live ver ty sz n f => match x with
    | .live ver' ty' sz' n' f' => ver' = ver ∧ ty' = ty ∧ sz' = sz ∧ n' = n ∧ ∀ i j, i < n → j < sz → f' i j = f i j
    | .dead => False
def subV : List Vc → List Vc → Prop
  | _, [] => True
  | [], _ :: _ => False
  | x :: l, y :: k => subVk x y ∧ subV l k
def itB (L : Nat) : Option (Nat × Nat × List Nat) → Prop
  | none => True
  | some (a, _, _) => a < L
/-- The same as bdB, with iterators. -/
def bdB2 (L M : Nat) : List Blk → Prop
  | [] => True
  | .live _ c :: l => BdL L M c ∧ bdB2 L M l
  | .dead :: l => bdB2 L M l
  | .loop _ _ _ t _ _ _ :: l => BdL L M t ∧ bdB2 L M l
  | .mp m :: l => itB L m.it ∧ bdB2 L M l
def bdB (L M : Nat) : List Blk → Prop
  | [] => True
  | .live _ c :: l => BdL L M c ∧ bdB L M l
  | .dead :: l => bdB L M l
  | .loop _ _ _ t _ _ _ :: l => BdL L M t ∧ bdB L M l
  | .mp m :: l => m.it = none ∧ bdB L M l
def bdV (L M : Nat) : List Vc → Prop
  | [] => True
  | .live _ _ sz n f :: l => (∀ i j, i < n → j < sz → Bd L M (f i j)) ∧ bdV L M l
  | .dead :: l => bdV L M l
structure SubS (t : List SV) (h : HS) (s : List SV × HS) : Prop where
  t : subL t s.1
  b : subB h.blks s.2.blks
  v : subV h.vecs s.2.vecs
  bt : BdL (lenB s.2.blks) (lenV s.2.vecs) s.1
  bb : bdB2 (lenB s.2.blks) (lenV s.2.vecs) s.2.blks
  bv : bdV (lenB s.2.blks) (lenV s.2.vecs) s.2.vecs

def updA : List SV → List Nat → SV → List SV
  | t, [], _ => t
  | t, j :: js, x => updA (upd t j x) js x
/-- The same with slices that change their names: an own slice takes over what another one is. -/
inductive SubM : List SV → HS → List SV × HS → Prop
  | sub {t h s} : SubS t h s → SubM t h s
  | mv {t h s} (i0 i1 : Nat) (js : List Nat) {v0 ty0 sz0 n0 f0 v1 ty sz n f} : getV h.vecs i0 = .live v0 ty0 sz0 n0 f0 → getV h.vecs i1 = .live v1 ty sz n f → i0 ≠ i1 → (∀ j, j ∈ js → nth t j = .vec i1 v1) →
      SubM (updA t js (.vec i0 (v0 + 1))) { h with vecs := setV (setV h.vecs i0 (.live (v0 + 1) ty sz n f)) i1 .dead } s → SubM t h s
  | fz {t h s} (id : Nat) (js : List Nat) {v ty sz n f} : getV h.vecs id = .live v ty sz n f → (∀ j, j ∈ js → nth t j = .vec id v) →
      SubM (updA t js (.row n sz f)) { h with vecs := setV h.vecs id .dead } s → SubM t h s
  | fzV {t h s} (id ov : Nat) (js : List Nat) {v ty sz n f vo tyo szo no fo fo'} : getV h.vecs id = .live v ty sz n f → getV h.vecs ov = .live vo tyo szo no fo → ov ≠ id → (∀ j, j ∈ js → nth t j = .vec id v) →
      (∀ i j, i < no → j < szo → fo' i j = fo i j ∨ (fo i j = .vec id v ∧ fo' i j = .row n sz f)) →
      SubM (updA t js (.row n sz f)) { h with vecs := setV (setV h.vecs id .dead) ov (.live vo tyo szo no fo') } s → SubM t h s
  | mvV {t h s} (i0 i1 ov : Nat) {v0 ty0 sz0 n0 f0 v1 ty sz n f vo tyo szo no fo} (fo' : Nat → Nat → SV) : getV h.vecs i0 = .live v0 ty0 sz0 n0 f0 → getV h.vecs i1 = .live v1 ty sz n f → getV h.vecs ov = .live vo tyo szo no fo → i0 ≠ i1 → ov ≠ i0 → ov ≠ i1 →
      (∀ i j, i < no → j < szo → fo' i j = fo i j ∨ (fo i j = .vec i1 v1 ∧ fo' i j = .vec i0 (v0 + 1))) →
      SubM t { h with vecs := setV (setV (setV h.vecs i0 (.live (v0 + 1) ty sz n f)) i1 .dead) ov (.live vo tyo szo no fo') } s → SubM t h s
  | fzB {t h s} (id nm k : Nat) {v ty sz n f bty cells} : getV h.vecs id = .live v ty sz n f → getB h.blks nm = .live bty cells → nth cells k = .vec id v →
      SubM t { blks := setB h.blks nm (.live bty (upd cells k (.row n sz f))), vecs := setV h.vecs id .dead } s → SubM t h s
/-- Own slices that are nil, made for a loop. -/
def mkH : List (TypeId × Nat) → HS → HS
  | [], h => h
  | (ty, sz) :: l, h => mkH l { h with vecs := snocV h.vecs (.live 0 ty sz 0 fun _ _ => .any) }

def LoopOb (R : Rn) (fid : Nat) (body : Code) (k : List It) (t : List SV) (fs : List Fr) (h : HS) (Q : Out → HS → Prop) : Prop :=
  (∃ (ι : Type) (st : ι → List SV × HS) (μ : ι → Nat) (mk : List (TypeId × Nat)), (∀ p, p ∈ mk → 0 < p.2) ∧ (∀ i, lenB h.blks ≤ lenB (st i).2.blks ∧ lenV h.vecs + mk.length ≤ lenV (st i).2.vecs) ∧ (∃ i, SubM t (mkH mk h) (st i)) ∧
    ∀ i, R fid (.code body :: .inv ι st μ i body :: k) (st i).1 fs (st i).2 Q) ∨ R fid (.code body :: .aga body :: k) t fs h Q

def run : Ctx → Nat → Rn
  | _, 0, _, _, _, _, _, _ => False
  | C, n + 1, fid, [], t, fs, h, Q => leaveS C (run C n) C.D fid t fs h Q (C.FN fid)
  | C, n + 1, fid, .code .skip :: k, t, fs, h, Q => run C n fid k t fs h Q
  | C, n + 1, fid, .code (.label _) :: k, t, fs, h, Q => run C n fid k t fs h Q
  | C, n + 1, fid, .code (.seq a b) :: k, t, fs, h, Q => run C n fid (.code a :: .code b :: k) t fs h Q
  | C, n + 1, fid, .code (.cond c a b) :: k, t, fs, h, Q => condS (run C n) (ev t c) fid a b k t fs h Q
  | C, n + 1, fid, .code (.block id c) :: k, t, fs, h, Q => run C n fid (.code c :: .blk id :: k) t fs h Q
  | C, n + 1, fid, .code (.loop body) :: k, t, fs, h, Q => LoopOb (run C n) fid body k t fs h Q
  | C, n + 1, fid, .code (.exit id) :: k, t, fs, h, Q => exitS C (run C n) id k (exitI id k) fid t fs h Q
  | C, n + 1, fid, .code (.rangeFunc f params assign body) :: k, t, fs, h, Q => rngS C (run C n) (run C.off n) (ev t f) params assign body fid k t fs h Q
  | C, n + 1, fid, .code .ret :: k, t, fs, h, Q => retS C (run C n) (rnd k) .ret fs h Q (leaveS C (run C n) C.D fid t fs h Q (C.FN fid))
  | C, n + 1, fid, .code (.region _ ops false) :: k, t, fs, h, Q => run C n fid (.reg ops (upto ops.toList 0) :: k) t fs h Q
  | C, n + 1, fid, .code (.region id ops true) :: k, t, fs, h, Q => drawS C (run C n) (run C.off n) Q (C.plan fid id) fid ops k t fs h
  | C, n + 1, fid, .blk _ :: k, t, fs, h, Q => run C n fid k t fs h Q
  | C, n + 1, fid, .inv ι st μ i body :: k, t, fs, h, Q => ∃ i', μ i' < μ i ∧ SubM t h (st i')
  | C, n + 1, fid, .aga body :: k, t, fs, h, Q => run C n fid (.code body :: .aga body :: k) t fs h Q
  | C, n + 1, fid, .code (.scope body) :: k, t, fs, h, Q => run C n fid (.code body :: .scp body :: k) t fs h Q
  | C, n + 1, fid, .scp _ :: k, t, fs, h, Q => run C n fid k t fs h Q
  | C, n + 1, fid, .reg ops [] :: k, t, fs, h, Q => run C n fid k t fs h Q
  | C, n + 1, fid, .reg ops (i :: idx) :: k, t, fs, h, Q => opS C (run C n) (run C.off n) (getO ops.toList i) fid ops i idx k t fs h Q
  | C, n + 1, fid, .endRng nm :: k, t, fs, h, Q => endRngS (run C n) (getB h.blks nm) nm fid k t fs h Q
  | C, n + 1, fid, .beginR :: k, t, fs, h, Q => beginRS (run C n) (rnd k) fid k t fs h Q
  | C, n + 1, fid, .endR nm :: _, t, fs, h, Q => endRS C (run C n) (getB h.blks nm) nm none fs h Q
  | _, _ + 1, _, .inRng _ :: _, _, _, _, _ => False
  | _, _ + 1, _, .code _ :: _, _, _, _, _ => False
end Go.Eng
end

/- The symbolic machine is right: what it shows, the machine does. -/
section
namespace Go.Eng
open Go.RowKit
set_option linter.unusedVariables false

/-- A running frame of function fid. -/
structure Bt where
  ds : List Deferred
  kd : CallKind
  Fin : Ending → Machine → Prop
def fra (B : Bt) (ds : List Deferred) (ro : Option Nat) (fid : Nat) (tmps : Array Value) (todo : List Item) : Frame := { fn := fid, tmps, todo, defers := ds, mode := .run, kind := B.kd, roundOf := ro }
def base (B : Bt) (ro : Option Nat) (fid : Nat) : Frame := { (default : Frame) with fn := fid, kind := B.kd, roundOf := ro }
theorem fra_at (B : Bt) (ds : List Deferred) (ro : Option Nat) (fid : Nat) (tmps : Array Value) (todo : List Item) : fra B ds ro fid tmps todo = (base B ro fid).atR ⟨tmps, ds⟩ todo := rfl

structure CtxOk (C : Ctx) : Prop where
  T : TOk C.P C.T
  F : FOk C.P C.F
  FN : ∀ g fn, C.FN g = some fn → C.P.funcs[g]? = some fn
  G : ∀ g f, C.G g = some f → ∀ args h p v h1, f args h = some (p, v, h1) → p → CallsS C.P g args h fun o h' => o = .ret v ∧ h' = h1
  mix : C.P.follows .mixedOrders = true

/- ### names in what lies to be done -/
theorem kb_le {L M : Nat} (h : L ≤ M) : ∀ {k : List It}, kb L k → kb M k
  | [], _ => trivial
  | .code _ :: k, hk => by simp only [kb] at hk ⊢; exact kb_le h hk
  | .blk _ :: k, hk => by simp only [kb] at hk ⊢; exact kb_le h hk
  | .inv _ _ _ _ _ :: k, hk => by simp only [kb] at hk ⊢; exact kb_le h hk
  | .reg _ _ :: k, hk => by simp only [kb] at hk ⊢; exact kb_le h hk
  | .inRng nm :: k, hk => by simp only [kb] at hk ⊢; exact ⟨Nat.lt_of_lt_of_le hk.1 h, kb_le h hk.2⟩
  | .endRng nm :: k, hk => by simp only [kb] at hk ⊢; exact ⟨Nat.lt_of_lt_of_le hk.1 h, kb_le h hk.2⟩
  | .beginR :: k, hk => by simp only [kb] at hk ⊢; exact kb_le h hk
  | .aga _ :: k, hk => by simp only [kb] at hk ⊢; exact kb_le h hk
  | .scp _ :: k, hk => by simp only [kb] at hk ⊢; exact kb_le h hk
  | .endR nm :: k, hk => by simp only [kb] at hk ⊢; exact ⟨Nat.lt_of_lt_of_le hk.1 h, hk.2⟩
theorem items_eq {ρ ρ' : Nat → Nat} {L : Nat} (h : ∀ nm, nm < L → ρ' nm = ρ nm) : ∀ {k : List It}, kb L k → items ρ' k = items ρ k
  | [], _ => rfl
  | .code _ :: k, hk => by simp only [kb] at hk; simp only [items, items_eq h hk]
  | .blk _ :: k, hk => by simp only [kb] at hk; simp only [items, items_eq h hk]
  | .inv _ _ _ _ _ :: k, hk => by simp only [kb] at hk; simp only [items, items_eq h hk]
  | .reg _ _ :: k, hk => by simp only [kb] at hk; simp only [items, items_eq h hk]
  | .inRng nm :: k, hk => by simp only [kb] at hk; simp only [items, items_eq h hk.2, h nm hk.1]
  | .endRng nm :: k, hk => by simp only [kb] at hk; simp only [items, items_eq h hk.2, h nm hk.1]
  | .beginR :: k, hk => by simp only [kb] at hk; simp only [items, items_eq h hk]
  | .aga _ :: k, hk => by simp only [kb] at hk; simp only [items, items_eq h hk]
  | .scp _ :: k, hk => by simp only [kb] at hk; simp only [items, items_eq h hk]
  | .endR nm :: k, hk => by simp only [kb] at hk; simp only [items, hk.2]
def rnf (ρ : Nat → Nat) (k : List It) : Option Nat := (rnd k).map ρ
theorem rnd_lt {L : Nat} : ∀ {k : List It}, kb L k → ∀ nm, rnd k = some nm → nm < L
  | [], _, nm, h => by simp [rnd] at h
  | .code _ :: k, hk, nm, h => by simp only [kb] at hk; simp only [rnd] at h; exact rnd_lt hk nm h
  | .blk _ :: k, hk, nm, h => by simp only [kb] at hk; simp only [rnd] at h; exact rnd_lt hk nm h
  | .inv _ _ _ _ _ :: k, hk, nm, h => by simp only [kb] at hk; simp only [rnd] at h; exact rnd_lt hk nm h
  | .reg _ _ :: k, hk, nm, h => by simp only [kb] at hk; simp only [rnd] at h; exact rnd_lt hk nm h
  | .inRng _ :: k, hk, nm, h => by simp only [kb] at hk; simp only [rnd] at h; exact rnd_lt hk.2 nm h
  | .endRng _ :: k, hk, nm, h => by simp only [kb] at hk; simp only [rnd] at h; exact rnd_lt hk.2 nm h
  | .beginR :: k, hk, nm, h => by simp only [kb] at hk; simp only [rnd] at h; exact rnd_lt hk nm h
  | .aga _ :: k, hk, nm, h => by simp only [kb] at hk; simp only [rnd] at h; exact rnd_lt hk nm h
  | .scp _ :: k, hk, nm, h => by simp only [kb] at hk; simp only [rnd] at h; exact rnd_lt hk nm h
  | .endR m :: k, hk, nm, h => by simp only [kb] at hk; simp only [rnd, Option.some.injEq] at h; subst h; exact hk.1
theorem rnf_eq {ρ ρ' : Nat → Nat} {L : Nat} (h : ∀ nm, nm < L → ρ' nm = ρ nm) {k : List It} (hk : kb L k) : rnf ρ' k = rnf ρ k := by
  unfold rnf
  cases hr : rnd k with
  | none => rfl
  | some nm => simp only [Option.map_some, h nm (rnd_lt hk nm hr)]

/- ### marks -/
def mk1 (D : Nat) : Deferred := { target := .collected D, args := #[] }
def marks : List Nat → List Deferred
  | [] => []
  | D :: l => mk1 D :: marks l
/-- The marks among a frame's deferred calls: blocks of their own, from s on, below u. -/
def MarkOk (E : Env) (w : World) (s u : Nat) (l : List Nat) : Prop := l.Nodup ∧ ∀ D ∈ l, s ≤ D ∧ D < u ∧ D < w.heap.size ∧ E.own D = none ∧ w.heap[D]? = some (.deferred (some []))
def DsOk (E : Env) (w : World) (B : Bt) (s u : Nat) (ds : List Deferred) : Prop := ∃ l, ds = marks l ++ B.ds ∧ MarkOk E w s u l
theorem DsOk.ext {E E' : Env} {w w' : World} (hx : Ext E w E' w') {B : Bt} {s u u' : Nat} (hu : u ≤ u') {ds : List Deferred} (h : DsOk E w B s u ds) : DsOk E' w' B s u' ds := by
  obtain ⟨l, h1, h2, h3⟩ := h
  refine ⟨l, h1, h2, fun D hD => ?_⟩
  obtain ⟨a, b, c, d, e⟩ := h3 D hD
  obtain ⟨k1, k2⟩ := hx.keep D c d
  exact ⟨a, Nat.lt_of_lt_of_le b hu, Nat.lt_of_lt_of_le c hx.size, k1, k2.trans e⟩

section
variable (C : Ctx) (cs : List Frame) (B : Bt)
def Goal (m : Machine) : Prop := ∃ e m', B.Fin e m' ∧ Comes C.P m m' e

variable {C cs B}
theorem Goal.of_steps {m m' : Machine} (h : Steps C.P m m') (g : Goal C B m') : Goal C B m := by
  obtain ⟨e, m', f, c⟩ := g
  exact ⟨e, m', f, Comes.of_steps h c⟩
theorem Goal.step {m m' : Machine} (h : step C.P m = .next m') (g : Goal C B m') : Goal C B m := g.of_steps (.one h)

variable (C cs B)
/-- The loops that lie about: entered no later than u. -/
def InvK (E : Env) (w : World) (s u : Nat) (fid : Nat) (frs : List Frame) : List It → Prop
  | [] => True
  | .inv ι st μ i body :: k => (∃ Ee we, we.heap.size ≤ u ∧ Ext Ee we E w ∧ kb Ee.nb k ∧ (∀ j, Ee.nb ≤ lenB (st j).2.blks ∧ Ee.nv ≤ lenV (st j).2.vecs) ∧
      ∀ j, μ j < μ i → ∀ E' w' tmps' ds', Ext Ee we E' w' → DenA E' w' (st j).1 tmps' → RelH E' (st j).2 w' → DsOk E' w' B s w'.heap.size ds' →
        Goal C B (lone (fra B ds' (rnf E'.rho k) fid tmps' (.code body :: .inLoop body :: items E'.rho k)) (frs ++ cs) w')) ∧ InvK E w s u fid frs k
  | .code _ :: k => InvK E w s u fid frs k
  | .blk _ :: k => InvK E w s u fid frs k
  | .reg _ _ :: k => InvK E w s u fid frs k
  | .inRng _ :: k => InvK E w s u fid frs k
  | .endRng _ :: k => InvK E w s u fid frs k
  | .beginR :: k => InvK E w s u fid frs k
  | .aga _ :: k => InvK E w s u fid frs k
  | .scp _ :: k => InvK E w s u fid frs k
  | .endR _ :: k => True
/-- The frames beneath: each with the world's size at which it was entered (s1), below that at which the one above it was (s). -/
def StkOk (E : Env) (w : World) (s0 : Nat) : Nat → List Fr → List Frame → Prop
  | s, [], [] => s0 ≤ s
  | s, ⟨fid, k, t⟩ :: fs, fr :: frs => ∃ s1 ds tmps, s1 ≤ s ∧ s ≤ w.heap.size ∧ fr = fra B ds (rnf E.rho k) fid tmps (items E.rho k) ∧ DenA E w t tmps ∧ kb E.nb k ∧ DsOk E w B s1 s ds ∧ (∃ fn, C.P.funcs[fid]? = some fn) ∧ InvK C cs B E w s1 s fid frs k ∧ StkOk E w s0 s1 fs frs
  | _, _, _ => False
variable {C cs B}
theorem InvK.ext {E E' : Env} {w w' : World} (hx : Ext E w E' w') {s u u' : Nat} (hu : u ≤ u') {fid : Nat} {frs : List Frame} : ∀ {k : List It}, InvK C cs B E w s u fid frs k → InvK C cs B E' w' s u' fid frs k
  | [], _ => trivial
  | .inv ι st μ i body :: k, h => by
    simp only [InvK] at h ⊢
    obtain ⟨⟨Ee, we, h0, h1, h2⟩, h3⟩ := h
    exact ⟨⟨Ee, we, Nat.le_trans h0 hu, h1.trans hx, h2⟩, h3.ext hx hu⟩
  | .code _ :: k, h => by simp only [InvK] at h ⊢; exact InvK.ext hx hu h
  | .blk _ :: k, h => by simp only [InvK] at h ⊢; exact InvK.ext hx hu h
  | .reg _ _ :: k, h => by simp only [InvK] at h ⊢; exact InvK.ext hx hu h
  | .inRng _ :: k, h => by simp only [InvK] at h ⊢; exact InvK.ext hx hu h
  | .endRng _ :: k, h => by simp only [InvK] at h ⊢; exact InvK.ext hx hu h
  | .beginR :: k, h => by simp only [InvK] at h ⊢; exact InvK.ext hx hu h
  | .aga _ :: k, h => by simp only [InvK] at h ⊢; exact InvK.ext hx hu h
  | .scp _ :: k, h => by simp only [InvK] at h ⊢; exact InvK.ext hx hu h
  | .endR _ :: k, h => by simp only [InvK]
theorem StkOk.ext {E E' : Env} {w w' : World} (hx : Ext E w E' w') {s0 : Nat} : ∀ {s : Nat} {fs : List Fr} {frs : List Frame}, StkOk C cs B E w s0 s fs frs → StkOk C cs B E' w' s0 s fs frs
  | s, [], [], h => h
  | s, [], _ :: _, h => by simp only [StkOk] at h
  | s, ⟨fid, k, t⟩ :: fs, [], h => by simp only [StkOk] at h
  | s, ⟨fid, k, t⟩ :: fs, fr :: frs, h => by
    simp only [StkOk] at h ⊢
    obtain ⟨s1, ds, tmps, h1, h2, h3, h4, h5, h6, h7, h8, h9⟩ := h
    refine ⟨s1, ds, tmps, h1, Nat.le_trans h2 hx.size, ?_, h4.ext hx, kb_le hx.nb h5, h6.ext hx (Nat.le_refl _), h7, h8.ext hx (Nat.le_refl _), h9.ext hx⟩
    rw [h3, items_eq (fun nm hn => hx.rho nm hn) h5, rnf_eq (fun nm hn => hx.rho nm hn) h5]

theorem items_exit {ρ : Nat → Nat} (id : Nat) : ∀ (k k' : List It) {L : Nat}, kb L k → exitI id k = some k' → exitTo id (items ρ k) = some (items ρ k')
  | [], k', _, _, h => by simp [exitI] at h
  | .blk id' :: k, k', L, hk, h => by
    simp only [exitI] at h
    simp only [kb] at hk
    simp only [items, exitTo]
    split at h
    · rename_i e; subst e; cases h; simp
    · rename_i e
      have : (id' == id) = false := by simpa using e
      simp only [this, Bool.false_eq_true, if_false]
      exact items_exit id k k' hk h
  | .code _ :: k, k', L, hk, h => by simp only [exitI] at h; simp only [kb] at hk; simp only [items, exitTo]; exact items_exit id k k' hk h
  | .inv _ _ _ _ _ :: k, k', L, hk, h => by simp only [exitI] at h; simp only [kb] at hk; simp only [items, exitTo]; exact items_exit id k k' hk h
  | .reg _ _ :: k, k', L, hk, h => by simp only [exitI] at h; simp only [kb] at hk; simp only [items, exitTo]; exact items_exit id k k' hk h
  | .inRng _ :: k, k', L, hk, h => by simp only [exitI] at h; simp only [kb] at hk; simp only [items, exitTo]; exact items_exit id k k' hk.2 h
  | .endRng _ :: k, k', L, hk, h => by simp only [exitI] at h; simp only [kb] at hk; simp only [items, exitTo]; exact items_exit id k k' hk.2 h
  | .beginR :: k, k', L, hk, h => by simp only [exitI] at h; simp only [kb] at hk; simp only [items, exitTo]; exact items_exit id k k' hk h
  | .aga _ :: k, k', L, hk, h => by simp only [exitI] at h; simp only [kb] at hk; simp only [items, exitTo]; exact items_exit id k k' hk h
  | .scp _ :: k, k', L, hk, h => by simp only [exitI] at h; simp only [kb] at hk; simp only [items, exitTo]; exact items_exit id k k' hk h
  | .endR _ :: k, k', L, hk, h => by simp only [kb] at hk; obtain ⟨_, rfl⟩ := hk; simp [exitI] at h
theorem items_noexit {ρ : Nat → Nat} (id : Nat) : ∀ (k : List It) {L : Nat}, kb L k → exitI id k = none → exitTo id (items ρ k) = none
  | [], _, _, h => by simp [items, exitTo]
  | .blk id' :: k, L, hk, h => by
    simp only [exitI] at h
    simp only [kb] at hk
    simp only [items, exitTo]
    split at h
    · cases h
    · rename_i e
      have : (id' == id) = false := by simpa using e
      simp only [this, Bool.false_eq_true, if_false]
      exact items_noexit id k hk h
  | .code _ :: k, L, hk, h => by simp only [exitI] at h; simp only [kb] at hk; simp only [items, exitTo]; exact items_noexit id k hk h
  | .inv _ _ _ _ _ :: k, L, hk, h => by simp only [exitI] at h; simp only [kb] at hk; simp only [items, exitTo]; exact items_noexit id k hk h
  | .reg _ _ :: k, L, hk, h => by simp only [exitI] at h; simp only [kb] at hk; simp only [items, exitTo]; exact items_noexit id k hk h
  | .inRng _ :: k, L, hk, h => by simp only [exitI] at h; simp only [kb] at hk; simp only [items, exitTo]; exact items_noexit id k hk.2 h
  | .endRng _ :: k, L, hk, h => by simp only [exitI] at h; simp only [kb] at hk; simp only [items, exitTo]; exact items_noexit id k hk.2 h
  | .beginR :: k, L, hk, h => by simp only [exitI] at h; simp only [kb] at hk; simp only [items, exitTo]; exact items_noexit id k hk h
  | .aga _ :: k, L, hk, h => by simp only [exitI] at h; simp only [kb] at hk; simp only [items, exitTo]; exact items_noexit id k hk h
  | .scp _ :: k, L, hk, h => by simp only [exitI] at h; simp only [kb] at hk; simp only [items, exitTo]; exact items_noexit id k hk h
  | .endR _ :: k, L, hk, h => by simp only [kb] at hk; obtain ⟨_, rfl⟩ := hk; simp [items, exitTo]
theorem exit_keeps {E : Env} {w : World} {s u : Nat} {fid : Nat} {frs : List Frame} (id : Nat) : ∀ (k k' : List It), kb E.nb k → exitI id k = some k' → InvK C cs B E w s u fid frs k → InvK C cs B E w s u fid frs k' ∧ kb E.nb k' ∧ rnd k' = rnd k
  | [], k', _, h, _ => by simp [exitI] at h
  | .blk id' :: k, k', hk, h, hi => by
    simp only [exitI] at h
    simp only [InvK] at hi
    simp only [kb] at hk
    split at h
    · cases h; exact ⟨hi, hk, by simp only [rnd]⟩
    · obtain ⟨a, b, c⟩ := exit_keeps id k k' hk h hi; exact ⟨a, b, by simp only [rnd]; exact c⟩
  | .code _ :: k, k', hk, h, hi => by simp only [exitI] at h; simp only [InvK] at hi; simp only [kb] at hk; simp only [rnd]; exact exit_keeps id k k' hk h hi
  | .inv _ _ _ _ _ :: k, k', hk, h, hi => by simp only [exitI] at h; simp only [InvK] at hi; simp only [kb] at hk; simp only [rnd]; exact exit_keeps id k k' hk h hi.2
  | .reg _ _ :: k, k', hk, h, hi => by simp only [exitI] at h; simp only [InvK] at hi; simp only [kb] at hk; simp only [rnd]; exact exit_keeps id k k' hk h hi
  | .inRng _ :: k, k', hk, h, hi => by simp only [exitI] at h; simp only [InvK] at hi; simp only [kb] at hk; simp only [rnd]; exact exit_keeps id k k' hk.2 h hi
  | .endRng _ :: k, k', hk, h, hi => by simp only [exitI] at h; simp only [InvK] at hi; simp only [kb] at hk; simp only [rnd]; exact exit_keeps id k k' hk.2 h hi
  | .beginR :: k, k', hk, h, hi => by simp only [exitI] at h; simp only [InvK] at hi; simp only [kb] at hk; simp only [rnd]; exact exit_keeps id k k' hk h hi
  | .aga _ :: k, k', hk, h, hi => by simp only [exitI] at h; simp only [InvK] at hi; simp only [kb] at hk; simp only [rnd]; exact exit_keeps id k k' hk h hi
  | .scp _ :: k, k', hk, h, hi => by simp only [exitI] at h; simp only [InvK] at hi; simp only [kb] at hk; simp only [rnd]; exact exit_keeps id k k' hk h hi
  | .endR _ :: k, k', hk, h, hi => by simp only [kb] at hk; obtain ⟨_, rfl⟩ := hk; simp [exitI] at h

theorem put_den {ds : List Deferred} {E : Env} {w : World} {t : List SV} {tmps : Array Value} (h : DenA E w t tmps) (d : Option Nat) {x : SV} {v : Value} (hx : Den E w x v) : DenA E w (put t d x) ((⟨tmps, ds⟩ : Act).put d v).tmps := by
  cases d with
  | none => exact h
  | some i => exact h.set i hx

/- ### subsumption -/
theorem subX_den {E : Env} {w : World} {x y : SV} {v : Value} (h : subX x y) (hd : Den E w x v) : Den E w y v := by
  unfold subX at h
  split at h
  · exact .any v
  · split at h
    · obtain ⟨rfl, rfl, hf⟩ := h
      cases hd
      · rename_i A cap g hA ho hn hc h1 hd
        exact .row A cap g hA ho hn hc h1 (fun i j hi hj => by rw [← hf i j hi hj]; exact hd i j hi hj)
      · exact .rowZ _ _
    · exact h.elim
  · subst h; exact hd
theorem subL_den {E : Env} {w : World} : ∀ {l k : List SV}, subL l k → l.length = k.length ∧ ∀ (i : Nat) (y : SV), k[i]? = some y → ∃ x, l[i]? = some x ∧ subX x y
  | [], [], _ => ⟨rfl, fun i y h => by simp at h⟩
  | x :: l, y :: k, h => by
    simp only [subL] at h
    obtain ⟨h1, h2⟩ := subL_den (E := E) (w := w) h.2
    refine ⟨by simp [h1], fun i z hz => ?_⟩
    cases i with
    | zero => simp at hz; subst hz; exact ⟨x, rfl, h.1⟩
    | succ i => simp at hz; simpa using h2 i z hz
  | [], _ :: _, h => by simp [subL] at h
  | _ :: _, [], h => by simp [subL] at h
theorem subL_denA {E : Env} {w : World} {l k : List SV} {vs : Array Value} (h : subL l k) (hd : DenA E w l vs) : DenA E w k vs := by
  obtain ⟨h1, h2⟩ := subL_den (E := E) (w := w) h
  refine ⟨by rw [hd.1, h1], fun i y u hy hu => ?_⟩
  obtain ⟨x, hx, hs⟩ := h2 i y hy
  exact subX_den hs (hd.2 i x u hx hu)
theorem subB_get : ∀ {l k : List Blk} {nm ty c}, subB l k → getB k nm = .live ty c → ∃ c', getB l nm = .live ty c' ∧ subL c' c
  | _, [], nm, ty, c, _, h => by simp [getB] at h
  | [], _ :: _, nm, ty, c, h, _ => by simp [subB] at h
  | x :: l, y :: k, 0, ty, c, h, hg => by
    simp only [subB] at h
    simp only [getB] at hg ⊢
    subst hg
    have h1 := h.1
    cases x with
    | dead => simp [subBk] at h1
    | live ty' c' => simp only [subBk] at h1; obtain ⟨rfl, h2⟩ := h1; exact ⟨c', rfl, h2⟩
    | loop _ _ _ _ _ _ _ => simp [subBk] at h1
    | mp _ => simp [subBk] at h1
  | x :: l, y :: k, nm + 1, ty, c, h, hg => by simp only [subB] at h; simp only [getB] at hg ⊢; exact subB_get h.2 hg
theorem subB_getL : ∀ {l k : List Blk} {nm a b c d e f g}, subB l k → getB k nm = .loop a b c d e f g → getB l nm = .loop a b c d e f g
  | _, [], nm, _, _, _, _, _, _, _, _, h => by simp [getB] at h
  | [], _ :: _, nm, _, _, _, _, _, _, _, h, _ => by simp [subB] at h
  | x :: l, y :: k, 0, _, _, _, _, _, _, _, h, hg => by
    simp only [subB] at h
    simp only [getB] at hg ⊢
    subst hg
    have h1 := h.1
    simp only [subBk] at h1
    exact h1
  | x :: l, y :: k, nm + 1, _, _, _, _, _, _, _, h, hg => by simp only [subB] at h; simp only [getB] at hg ⊢; exact subB_getL h.2 hg
theorem subB_getM : ∀ {l k : List Blk} {nm m}, subB l k → getB k nm = .mp m → getB l nm = .mp m
  | _, [], nm, _, _, h => by simp [getB] at h
  | [], _ :: _, nm, _, h, _ => by simp [subB] at h
  | x :: l, y :: k, 0, _, h, hg => by
    simp only [subB] at h
    simp only [getB] at hg ⊢
    subst hg
    have h1 := h.1
    simp only [subBk] at h1
    exact h1
  | x :: l, y :: k, nm + 1, _, h, hg => by simp only [subB] at h; simp only [getB] at hg ⊢; exact subB_getM h.2 hg
theorem subV_get : ∀ {l k : List Vc} {id ver ty sz n f}, subV l k → getV k id = .live ver ty sz n f → ∃ f', getV l id = .live ver ty sz n f' ∧ ∀ i j, i < n → j < sz → f' i j = f i j
  | _, [], id, ver, ty, sz, n, f, _, h => by simp [getV] at h
  | [], _ :: _, id, ver, ty, sz, n, f, h, _ => by simp [subV] at h
  | x :: l, y :: k, 0, ver, ty, sz, n, f, h, hg => by
    simp only [subV] at h
    simp only [getV] at hg ⊢
    subst hg
    have h1 := h.1
    cases x with
    | dead => simp [subVk] at h1
    | live a b c d e => simp only [subVk] at h1; obtain ⟨rfl, rfl, rfl, rfl, h2⟩ := h1; exact ⟨e, rfl, h2⟩
  | x :: l, y :: k, id + 1, ver, ty, sz, n, f, h, hg => by simp only [subV] at h; simp only [getV] at hg ⊢; exact subV_get h.2 hg
theorem bdB_get {L M : Nat} : ∀ {l : List Blk} {nm ty c}, bdB L M l → getB l nm = .live ty c → BdL L M c
  | [], nm, ty, c, _, h => by simp [getB] at h
  | .live _ _ :: l, 0, ty, c, h, hg => by simp only [bdB] at h; simp only [getB] at hg; cases hg; exact h.1
  | .dead :: l, 0, ty, c, h, hg => by simp [getB] at hg
  | .loop _ _ _ _ _ _ _ :: l, 0, ty, c, h, hg => by simp [getB] at hg
  | .mp _ :: l, 0, ty, c, h, hg => by simp [getB] at hg
  | .mp _ :: l, nm + 1, ty, c, h, hg => by simp only [bdB] at h; simp only [getB] at hg; exact bdB_get h.2 hg
  | .loop _ _ _ _ _ _ _ :: l, nm + 1, ty, c, h, hg => by simp only [bdB] at h; simp only [getB] at hg; exact bdB_get h.2 hg
  | .live _ _ :: l, nm + 1, ty, c, h, hg => by simp only [bdB] at h; simp only [getB] at hg; exact bdB_get h.2 hg
  | .dead :: l, nm + 1, ty, c, h, hg => by simp only [bdB] at h; simp only [getB] at hg; exact bdB_get h hg
theorem bdB_getL {L M : Nat} : ∀ {l : List Blk} {nm a b c d e f g}, bdB L M l → getB l nm = .loop a b c d e f g → BdL L M d
  | [], nm, _, _, _, _, _, _, _, _, h => by simp [getB] at h
  | .live _ _ :: l, 0, _, _, _, _, _, _, _, h, hg => by simp [getB] at hg
  | .dead :: l, 0, _, _, _, _, _, _, _, h, hg => by simp [getB] at hg
  | .mp _ :: l, 0, _, _, _, _, _, _, _, h, hg => by simp [getB] at hg
  | .mp _ :: l, nm + 1, _, _, _, _, _, _, _, h, hg => by simp only [bdB] at h; simp only [getB] at hg; exact bdB_getL h.2 hg
  | .loop _ _ _ _ _ _ _ :: l, 0, _, _, _, _, _, _, _, h, hg => by simp only [bdB] at h; simp only [getB] at hg; cases hg; exact h.1
  | .live _ _ :: l, nm + 1, _, _, _, _, _, _, _, h, hg => by simp only [bdB] at h; simp only [getB] at hg; exact bdB_getL h.2 hg
  | .dead :: l, nm + 1, _, _, _, _, _, _, _, h, hg => by simp only [bdB] at h; simp only [getB] at hg; exact bdB_getL h hg
  | .loop _ _ _ _ _ _ _ :: l, nm + 1, _, _, _, _, _, _, _, h, hg => by simp only [bdB] at h; simp only [getB] at hg; exact bdB_getL h.2 hg
theorem bdB2_get {L M : Nat} : ∀ {l : List Blk} {nm ty c}, bdB2 L M l → getB l nm = .live ty c → BdL L M c
  | [], nm, ty, c, _, h => by simp [getB] at h
  | .live _ _ :: l, 0, ty, c, h, hg => by simp only [bdB2] at h; simp only [getB] at hg; cases hg; exact h.1
  | .dead :: l, 0, ty, c, h, hg => by simp [getB] at hg
  | .loop _ _ _ _ _ _ _ :: l, 0, ty, c, h, hg => by simp [getB] at hg
  | .mp _ :: l, 0, ty, c, h, hg => by simp [getB] at hg
  | .mp _ :: l, nm + 1, ty, c, h, hg => by simp only [bdB2] at h; simp only [getB] at hg; exact bdB2_get h.2 hg
  | .loop _ _ _ _ _ _ _ :: l, nm + 1, ty, c, h, hg => by simp only [bdB2] at h; simp only [getB] at hg; exact bdB2_get h.2 hg
  | .live _ _ :: l, nm + 1, ty, c, h, hg => by simp only [bdB2] at h; simp only [getB] at hg; exact bdB2_get h.2 hg
  | .dead :: l, nm + 1, ty, c, h, hg => by simp only [bdB2] at h; simp only [getB] at hg; exact bdB2_get h hg
theorem bdB2_getL {L M : Nat} : ∀ {l : List Blk} {nm a b c d e f g}, bdB2 L M l → getB l nm = .loop a b c d e f g → BdL L M d
  | [], nm, _, _, _, _, _, _, _, _, h => by simp [getB] at h
  | .live _ _ :: l, 0, _, _, _, _, _, _, _, h, hg => by simp [getB] at hg
  | .dead :: l, 0, _, _, _, _, _, _, _, h, hg => by simp [getB] at hg
  | .mp _ :: l, 0, _, _, _, _, _, _, _, h, hg => by simp [getB] at hg
  | .mp _ :: l, nm + 1, _, _, _, _, _, _, _, h, hg => by simp only [bdB2] at h; simp only [getB] at hg; exact bdB2_getL h.2 hg
  | .loop _ _ _ _ _ _ _ :: l, 0, _, _, _, _, _, _, _, h, hg => by simp only [bdB2] at h; simp only [getB] at hg; cases hg; exact h.1
  | .live _ _ :: l, nm + 1, _, _, _, _, _, _, _, h, hg => by simp only [bdB2] at h; simp only [getB] at hg; exact bdB2_getL h.2 hg
  | .dead :: l, nm + 1, _, _, _, _, _, _, _, h, hg => by simp only [bdB2] at h; simp only [getB] at hg; exact bdB2_getL h hg
  | .loop _ _ _ _ _ _ _ :: l, nm + 1, _, _, _, _, _, _, _, h, hg => by simp only [bdB2] at h; simp only [getB] at hg; exact bdB2_getL h.2 hg
theorem bdB2_getM {L M : Nat} : ∀ {l : List Blk} {nm m}, bdB2 L M l → getB l nm = .mp m → itB L m.it
  | [], nm, m, _, h => by simp [getB] at h
  | .live _ _ :: l, 0, m, h, hg => by simp [getB] at hg
  | .dead :: l, 0, m, h, hg => by simp [getB] at hg
  | .loop _ _ _ _ _ _ _ :: l, 0, m, h, hg => by simp [getB] at hg
  | .mp _ :: l, 0, m, h, hg => by simp only [bdB2] at h; simp only [getB] at hg; cases hg; exact h.1
  | .mp _ :: l, nm + 1, m, h, hg => by simp only [bdB2] at h; simp only [getB] at hg; exact bdB2_getM h.2 hg
  | .loop _ _ _ _ _ _ _ :: l, nm + 1, m, h, hg => by simp only [bdB2] at h; simp only [getB] at hg; exact bdB2_getM h.2 hg
  | .live _ _ :: l, nm + 1, m, h, hg => by simp only [bdB2] at h; simp only [getB] at hg; exact bdB2_getM h.2 hg
  | .dead :: l, nm + 1, m, h, hg => by simp only [bdB2] at h; simp only [getB] at hg; exact bdB2_getM h hg
theorem bdB_getM {L M : Nat} : ∀ {l : List Blk} {nm m}, bdB L M l → getB l nm = .mp m → m.it = none
  | [], nm, m, _, h => by simp [getB] at h
  | .live _ _ :: l, 0, m, h, hg => by simp [getB] at hg
  | .dead :: l, 0, m, h, hg => by simp [getB] at hg
  | .loop _ _ _ _ _ _ _ :: l, 0, m, h, hg => by simp [getB] at hg
  | .mp _ :: l, 0, m, h, hg => by simp only [bdB] at h; simp only [getB] at hg; cases hg; exact h.1
  | .mp _ :: l, nm + 1, m, h, hg => by simp only [bdB] at h; simp only [getB] at hg; exact bdB_getM h.2 hg
  | .loop _ _ _ _ _ _ _ :: l, nm + 1, m, h, hg => by simp only [bdB] at h; simp only [getB] at hg; exact bdB_getM h.2 hg
  | .live _ _ :: l, nm + 1, m, h, hg => by simp only [bdB] at h; simp only [getB] at hg; exact bdB_getM h.2 hg
  | .dead :: l, nm + 1, m, h, hg => by simp only [bdB] at h; simp only [getB] at hg; exact bdB_getM h hg
theorem bdV_get {L M : Nat} : ∀ {l : List Vc} {id ver ty sz n f}, bdV L M l → getV l id = .live ver ty sz n f → ∀ i j, i < n → j < sz → Bd L M (f i j)
  | [], id, ver, ty, sz, n, f, _, h => by simp [getV] at h
  | .live _ _ _ _ _ :: l, 0, ver, ty, sz, n, f, h, hg => by simp only [bdV] at h; simp only [getV] at hg; cases hg; exact h.1
  | .dead :: l, 0, ver, ty, sz, n, f, h, hg => by simp [getV] at hg
  | .live _ _ _ _ _ :: l, id + 1, ver, ty, sz, n, f, h, hg => by simp only [bdV] at h; simp only [getV] at hg; exact bdV_get h.2 hg
  | .dead :: l, id + 1, ver, ty, sz, n, f, h, hg => by simp only [bdV] at h; simp only [getV] at hg; exact bdV_get h hg

/-- To a state that says less, with fewer names. -/
theorem SubS.go {E : Env} {w : World} {t : List SV} {h : HS} {s : List SV × HS} (hs : SubS t h s) {tmps : Array Value} (hd : DenA E w t tmps) (hr : RelH E h w) (L M : Nat) (hL : lenB s.2.blks = L) (hM : lenV s.2.vecs = M) (hLE : L ≤ E.nb) (hME : M ≤ E.nv) :
    DenA { E with nb := L, nv := M } w s.1 tmps ∧ RelH { E with nb := L, nv := M } s.2 w := by
  subst hL
  subst hM
  have turn : ∀ {x : SV} {v : Value}, Den E w x v → Bd (lenB s.2.blks) (lenV s.2.vecs) x → Den { E with nb := lenB s.2.blks, nv := lenV s.2.vecs } w x v := fun hx hb =>
    hx.turn hb (fun _ _ _ => rfl) (fun _ _ _ _ _ h => h) (fun _ _ h => h)
  have turnA : ∀ {l : List SV} {vs : Array Value}, DenA E w l vs → BdL (lenB s.2.blks) (lenV s.2.vecs) l → DenA { E with nb := lenB s.2.blks, nv := lenV s.2.vecs } w l vs := fun hx hb =>
    ⟨hx.1, fun i x u h1 h2 => turn (hx.2 i x u h1 h2) (BdL_get hb i x h1)⟩
  refine ⟨turnA (subL_denA hs.t hd) hs.bt, rfl, rfl, ?_, ?_, hr.own, fun nm st pend fid t params assign body hg => ?_, fun nm m hg => ?_⟩
  · intro nm ty c hg
    obtain ⟨c', h1, h2⟩ := subB_get hs.b hg
    obtain ⟨vs, a1, a2, a3, a4⟩ := hr.blk nm ty c' h1
    exact ⟨vs, a1, turnA (subL_denA h2 a2) (bdB2_get hs.bb hg), a3, a4⟩
  · intro id ver ty sz n f hg
    obtain ⟨f', h1, h2⟩ := subV_get hs.v hg
    obtain ⟨h0, ⟨a, cap, k1, k2⟩, k3⟩ := hr.vec _ _ _ _ _ _ h1
    refine ⟨h0, ⟨a, cap, k1, ?_⟩, k3⟩
    rcases k2 with hk | ⟨g1, o, cur, q1, q2, q3, q4, q5, q6, q7, q8⟩
    · exact .inl hk
    · exact .inr ⟨g1, o, cur, q1, q2, q3, q4, q5, q6, q7, fun i j u hi hj hu => turn (by rw [← h2 i j hi hj]; exact q8 i j u hi hj hu) (bdV_get hs.bv hg i j hi hj)⟩
  · obtain ⟨tmps', db, a1, a2, a3⟩ := hr.lp _ _ _ _ _ _ _ _ (subB_getL hs.b hg)
    exact ⟨tmps', db, a1, turnA a2 (bdB2_getL hs.bb hg), a3⟩
  · obtain ⟨q1, q2⟩ := hr.mp _ _ (subB_getM hs.b hg)
    refine ⟨q1, ?_⟩
    have hb := bdB2_getM hs.bb hg
    cases hi : m.it with
    | none => rw [hi] at q2; exact q2
    | some x =>
      rw [hi] at q2 hb
      obtain ⟨a1, a2, a3⟩ := x
      exact ⟨q2.1, hb⟩

def retag (i0 i1 : Nat) : Option Tag → Option Tag
  | some (.vec i) => if i = i1 then some (.vec i0) else some (.vec i)
  | x => x
theorem retag_none {i0 i1 : Nat} {x : Option Tag} (h : retag i0 i1 x = none) : x = none := by
  unfold retag at h
  split at h
  · split at h <;> cases h
  · exact h
theorem retag_some {i0 i1 : Nat} {x : Option Tag} {t : Tag} (h : retag i0 i1 x = some t) : ∃ t', x = some t' := by
  cases x with
  | none => simp [retag] at h
  | some t' => exact ⟨t', rfl⟩
def Env.mv (E : Env) (i0 v i1 v1 : Nat) : Env := { E with val := fun i u => if i = i0 ∧ u = v then E.val i1 v1 else E.val i u, own := fun b => retag i0 i1 (E.own b) }
theorem ext_mv {E : Env} {w : World} {i0 i1 v v1 : Nat} (hn : E.val i0 v = none) : Ext E w (E.mv i0 v i1 v1) w := by
  refine ⟨rfl, rfl, rfl, Nat.le_refl _, Nat.le_refl _, Nat.le_refl _, fun _ _ => rfl, fun id ver x _ h => ?_, fun b _ h => ⟨?_, rfl⟩, fun b h => ⟨?_, rfl⟩⟩
  · simp only [Env.mv]
    rw [if_neg]
    · exact h
    · rintro ⟨rfl, rfl⟩
      rw [hn] at h
      cases h
  · simp only [Env.mv]; rw [h]; rfl
  · simp only [Env.mv]; rw [h]; rfl
theorem mv_ok {E : Env} {w : World} {h : HS} (hr : RelH E h w) {i0 i1 v0 ty0 sz0 n0 f0 v1 ty sz n f} (h0 : getV h.vecs i0 = .live v0 ty0 sz0 n0 f0) (h1 : getV h.vecs i1 = .live v1 ty sz n f) (hne : i0 ≠ i1) :
    Ext E w (E.mv i0 (v0 + 1) i1 v1) w ∧ RelH (E.mv i0 (v0 + 1) i1 v1) { h with vecs := setV (setV h.vecs i0 (.live (v0 + 1) ty sz n f)) i1 .dead } w := by
  obtain ⟨a0, a1, a2⟩ := hr.vec _ _ _ _ _ _ h0
  have hx : Ext E w (E.mv i0 (v0 + 1) i1 v1) w := ext_mv (a2 _ (by omega))
  refine ⟨hx, hr.nb, by rw [lenV_set, lenV_set]; exact hr.nv, ?_, ?_, ?_, ?_, ?_⟩
  · intro nm ty' cells hb
    obtain ⟨cs, b1, b2, b3, b4⟩ := hr.blk nm ty' cells hb
    exact ⟨cs, b1, b2.ext hx, b3, by simp only [Env.mv]; rw [b4]; rfl⟩
  · intro id ver ty' sz' n' f' hg
    simp only [getV_set, lenV_set] at hg
    split at hg
    · cases hg
    · rename_i hid
      split at hg
      · rename_i hid0
        cases hg
        obtain ⟨rfl, _⟩ := hid0
        obtain ⟨c0, ⟨a, cap, k1, k2⟩, _⟩ := hr.vec _ _ _ _ _ _ h1
        refine ⟨c0, ⟨a, cap, by simp [Env.mv, k1], ?_⟩, fun v' hv' => by simp only [Env.mv]; rw [if_neg (by omega)]; exact a2 v' (by omega)⟩
        rcases k2 with hk | ⟨g1, o, cur, q1, q2, q3, q4, q5, q6, q7, q8⟩
        · exact .inl hk
        · exact .inr ⟨g1, o, cur, q1, q2, q3, q4, q5, by simp [Env.mv, q6, retag], q7, fun i j u hi hj hu => (q8 i j u hi hj hu).ext hx⟩
      · rename_i hid0
        have hlt := getV_lt hg
        have hi1 : id ≠ i1 := fun e => hid ⟨e, by rw [← e]; exact hlt⟩
        have hi0 : id ≠ i0 := fun e => hid0 ⟨e, by rw [← e]; exact hlt⟩
        obtain ⟨c0, ⟨a, cap, k1, k2⟩, k3⟩ := hr.vec _ _ _ _ _ _ hg
        refine ⟨c0, ⟨a, cap, by simp only [Env.mv]; rw [if_neg (by omega)]; exact k1, k2.ext hx (fun g hg' => ⟨rfl, by simp only [Env.mv]; rw [hg']; simp [retag, hi1]⟩)⟩, fun v' hv' => by simp only [Env.mv]; rw [if_neg (by omega)]; exact k3 v' hv'⟩
  · intro b t hb
    obtain ⟨t', ht'⟩ := retag_some hb
    exact hr.own _ _ ht'
  · intro nm st pend fid t params assign body hg
    exact (hr.lp _ _ _ _ _ _ _ _ hg).ext hx (fun ho => ⟨rfl, rfl, by simp only [Env.mv]; rw [ho]; rfl⟩)
  · intro nm m hg
    exact (hr.mp _ _ hg).ext hx (fun ho => ⟨rfl, rfl, by simp only [Env.mv]; rw [ho]; rfl⟩)
/-- An own slice's elements are told in other words. -/
theorem RelH.vsay {E : Env} {h : HS} {w : World} (hr : RelH E h w) {ov vo tyo szo no fo fo'} (hov : getV h.vecs ov = .live vo tyo szo no fo) (hf : ∀ i j, i < no → j < szo → ∀ u, Den E w (fo i j) u → Den E w (fo' i j) u) :
    RelH E { h with vecs := setV h.vecs ov (.live vo tyo szo no fo') } w := by
  refine ⟨hr.nb, by rw [lenV_set]; exact hr.nv, hr.blk, ?_, hr.own, hr.lp, hr.mp⟩
  intro id ver ty' sz' n' f' hg
  simp only [getV_set] at hg
  split at hg
  · rename_i hc
    obtain ⟨rfl, _⟩ := hc
    cases hg
    obtain ⟨c0, ⟨a, cap, k1, k2⟩, k3⟩ := hr.vec _ _ _ _ _ _ hov
    refine ⟨c0, ⟨a, cap, k1, ?_⟩, k3⟩
    rcases k2 with hk | ⟨g1, o, cur, q1, q2, q3, q4, q5, q6, q7, q8⟩
    · exact .inl hk
    · exact .inr ⟨g1, o, cur, q1, q2, q3, q4, q5, q6, q7, fun i j u hi hj hu => hf i j hi hj u (q8 i j u hi hj hu)⟩
  · exact hr.vec _ _ _ _ _ _ hg
theorem updA_den {E : Env} {w : World} {x : SV} : ∀ {js : List Nat} {l : List SV} {vs : Array Value}, DenA E w l vs → (∀ j, j ∈ js → Den E w x (vs.getD j undef)) → DenA E w (updA l js x) vs
  | [], _, _, hd, _ => hd
  | j :: js, l, vs, hd, h => by
    refine updA_den (js := js) ?_ (fun j' hj' => h j' (List.mem_cons_of_mem _ hj'))
    have := hd.set j (h j List.mem_cons_self)
    have e : vs.setIfInBounds j (vs.getD j undef) = vs := by
      apply Array.ext
      · simp
      · intro i h1 h2
        rw [Array.getElem_setIfInBounds]
        split
        · rename_i e; subst e; simp [Array.getD, h2]
        · rfl
    rw [e] at this
    exact this
/-- To a state of a loop. -/
def Env.give (E : Env) (id : Nat) : Env := { E with own := fun b => match E.own b with | some (.vec i) => if i = id then none else some (.vec i) | t => t }
theorem give_own {E : Env} {id b : Nat} {t : Tag} (h : E.own b = some t) (ht : t ≠ .vec id) : (E.give id).own b = E.own b := by
  simp only [Env.give, h]
  cases t <;> try rfl
  rename_i i
  simp only
  rw [if_neg (fun e => ht (by rw [e]))]
theorem give_ext (E : Env) (id : Nat) (w : World) : Ext E w (E.give id) w :=
  ⟨rfl, rfl, rfl, Nat.le_refl _, Nat.le_refl _, Nat.le_refl _, fun _ _ => rfl, fun _ _ _ _ h => h, fun b _ ho => ⟨by simp [Env.give, ho], rfl⟩, fun b ho => ⟨(give_own ho (by intro e; cases e)).trans ho, rfl⟩⟩
theorem give_rel {E : Env} {h : HS} {w : World} (hr : RelH E h w) (id : Nat) : RelH (E.give id) { h with vecs := setV h.vecs id .dead } w where
  nb := hr.nb
  nv := hr.nv.trans (lenV_set _ _ _).symm
  blk := fun nm ty cells hb => by
    obtain ⟨cs, h1, h2, h3, h4⟩ := hr.blk nm ty cells hb
    exact ⟨cs, h1, h2.ext (give_ext E id w), h3, (give_own h4 (by intro e; cases e)).trans h4⟩
  vec := fun i ver ty sz n f hv => by
    simp only [getV_set] at hv
    split at hv
    · cases hv
    · rename_i hne
      have hi : i ≠ id := fun e => by
        subst e
        exact hne ⟨rfl, getV_lt hv⟩
      obtain ⟨h0, ⟨a, cap, h1, h2⟩, h3⟩ := hr.vec i ver ty sz n f hv
      exact ⟨h0, ⟨a, cap, h1, h2.ext (give_ext E id w) (fun g hg => ⟨rfl, give_own hg (by intro e; cases e; exact hi rfl)⟩)⟩, h3⟩
  own := fun b t hb => by
    cases ho : E.own b with
    | none => simp [Env.give, ho] at hb
    | some t' => exact hr.own b t' ho
  lp := fun nm st pend fid t params assign body hb => (hr.lp _ _ _ _ _ _ _ _ hb).ext (give_ext E id w) (fun ho => ⟨rfl, rfl, give_own ho (by intro e; cases e)⟩)
  mp := fun nm m hb => (hr.mp _ _ hb).ext (give_ext E id w) (fun ho => ⟨rfl, rfl, give_own ho (by intro e; cases e)⟩)
theorem give_den {E : Env} {h : HS} {w : World} (hr : RelH E h w) {id ver ty sz n f} (hg : getV h.vecs id = .live ver ty sz n f) {v : Value} (hd : Den E w (.vec id ver) v) : Den (E.give id) w (.row n sz f) v := by
  obtain ⟨h0, ⟨a', cap', h2, h3⟩, h4⟩ := hr.vec id ver ty sz n f hg
  cases hd with
  | @vec _ _ a n' cap hi hv =>
    rw [hv] at h2
    cases h2
    rcases h3 with ⟨_, rfl, rfl⟩ | ⟨b, o, cur, rfl, k2, k3, k4, k5, k6, k7, k8⟩
    · exact .rowZ _ _
    · have hlt : ∀ i j, i < n → j < sz → i * sz + j < n * sz := fun i j hi hj => by
        have := Nat.mul_le_mul_right sz (Nat.succ_le_of_lt hi)
        rw [Nat.succ_mul] at this
        omega
      have hle : o + n * sz ≤ cur.size := Nat.le_trans (Nat.add_le_add_left (Nat.mul_le_mul_right sz k2) _) k5
      have hget : ∀ i j, i < n → j < sz → cur[o + (i * sz + j)]? = some (cur.getD (o + (i * sz + j)) undef) := fun i j hi hj => by
        have := hlt i j hi hj
        have h2 : o + (i * sz + j) < cur.size := by omega
        simp [Array.getD, h2]
      refine .row ⟨b, o, none⟩ cap' (fun i j => cur.getD (o + (i * sz + j)) undef) (hr.own _ _ k6) (by simp [Env.give, k6]) k2 (fun i j hi hj => ?_) (fun i j hi hj => k7 _ _ (hlt i j hi hj) (hget i j hi hj)) (fun i j hi hj => (k8 i j _ hi hj (hget i j hi hj)).ext (give_ext E id w))
      rw [Addr.add_lit]
      have h2 : o + (i * sz + j) < cur.size := by have := hlt i j hi hj; omega
      simp [World.cell?, k4, h2, Array.getD]
theorem give_relV {E : Env} {h : HS} {w : World} (hr : RelH E h w) {id ov v ty sz n f vo tyo szo no fo fo'} (hid : getV h.vecs id = .live v ty sz n f) (hov : getV h.vecs ov = .live vo tyo szo no fo) (hne : ov ≠ id)
    (hf : ∀ i j, i < no → j < szo → fo' i j = fo i j ∨ (fo i j = .vec id v ∧ fo' i j = .row n sz f)) : RelH (E.give id) { h with vecs := setV (setV h.vecs id .dead) ov (.live vo tyo szo no fo') } w := by
  have hg := give_rel hr id
  refine ⟨hg.nb, hg.nv.trans (lenV_set _ _ _).symm, hg.blk, ?_, hg.own, hg.lp, hg.mp⟩
  intro i ver ty' sz' n' f' hv
  simp only [getV_set (setV h.vecs id .dead)] at hv
  split at hv
  · rename_i hc
    obtain ⟨rfl, _⟩ := hc
    cases hv
    obtain ⟨h0, ⟨a, cap, h1, h2⟩, h3⟩ := hr.vec i _ _ _ _ _ hov
    refine ⟨h0, ⟨a, cap, h1, ?_⟩, h3⟩
    rcases h2 with h2 | ⟨g, o, cur, k1, k2, k3, k4, k5, k6, k7, k8⟩
    · exact .inl h2
    · refine .inr ⟨g, o, cur, k1, k2, k3, k4, k5, (give_own k6 (by intro e; cases e; exact hne rfl)).trans k6, k7, fun i j u hi hj hu => ?_⟩
      rcases hf i j hi hj with e | ⟨e1, e2⟩
      · rw [e]; exact (k8 i j u hi hj hu).ext (give_ext E id w)
      · rw [e2]
        have := k8 i j u hi hj hu
        rw [e1] at this
        exact give_den hr hid this
  · exact hg.vec i ver ty' sz' n' f' hv
theorem give_relB {E : Env} {h : HS} {w : World} (hr : RelH E h w) {id nm k v ty sz n f bty cells} (hid : getV h.vecs id = .live v ty sz n f) (hnm : getB h.blks nm = .live bty cells) (hk : nth cells k = .vec id v) :
    RelH (E.give id) { blks := setB h.blks nm (.live bty (upd cells k (.row n sz f))), vecs := setV h.vecs id .dead } w := by
  have hg := give_rel hr id
  refine ⟨hg.nb.trans (lenB_set _ _ _).symm, hg.nv, ?_, hg.vec, hg.own, ?_, ?_⟩
  · intro m ty' c' hb
    simp only [getB_set] at hb
    split at hb
    · rename_i hc
      obtain ⟨rfl, _⟩ := hc
      cases hb
      obtain ⟨cs, h1, h2, h3, h4⟩ := hr.blk _ _ _ hnm
      refine ⟨cs, h1, ⟨by rw [h2.1, upd_eq]; simp, fun i x u hx hu => ?_⟩, h3, (give_own h4 (by intro e; cases e)).trans h4⟩
      rw [upd_eq, List.getElem?_set] at hx
      split at hx
      · rename_i e
        subst e
        split at hx
        · rename_i hlt
          cases hx
          have h5 : cells[k]? = some (.vec id v) := by
            rw [nth_eq, List.getD_eq_getElem?_getD, List.getElem?_eq_getElem hlt] at hk
            rw [List.getElem?_eq_getElem hlt, ← hk]
            rfl
          exact give_den hr hid (h2.2 k _ u h5 hu)
        · cases hx
      · exact (h2.2 i x u hx hu).ext (give_ext E id w)
    · exact hg.blk m ty' c' hb
  · intro m st pend fid t params assign body hb
    simp only [getB_set] at hb
    split at hb
    · cases hb
    · exact hg.lp _ _ _ _ _ _ _ _ hb
  · intro m mp hb
    simp only [getB_set] at hb
    split at hb
    · cases hb
    · exact hg.mp _ _ hb
theorem subB_len : ∀ {l k : List Blk}, subB l k → lenB k ≤ lenB l
  | _, [], _ => Nat.zero_le _
  | [], _ :: _, h => h.elim
  | _ :: l, _ :: k, h => by have := subB_len (l := l) (k := k) h.2; simp only [lenB]; omega
theorem subV_len : ∀ {l k : List Vc}, subV l k → lenV k ≤ lenV l
  | _, [], _ => Nat.zero_le _
  | [], _ :: _, h => h.elim
  | _ :: l, _ :: k, h => by have := subV_len (l := l) (k := k) h.2; simp only [lenV]; omega
theorem SubM.len {t : List SV} {h : HS} {s : List SV × HS} (hs : SubM t h s) : lenB s.2.blks ≤ lenB h.blks ∧ lenV s.2.vecs ≤ lenV h.vecs := by
  induction hs with
  | sub hsub => exact ⟨subB_len hsub.b, subV_len hsub.v⟩
  | mv i0 i1 js h0 h1 hne hj _ ih => simpa only [lenV_set] using ih
  | fz id js h0 hj _ ih => simpa only [lenV_set] using ih
  | fzV id ov js h0 h1 hne hj hf _ ih => simpa only [lenV_set] using ih
  | mvV i0 i1 ov fo' h0 h1 h2 hne ho0 ho1 hf _ ih => simpa only [lenV_set] using ih
  | fzB id nm k h0 h1 hk _ ih => simpa only [lenV_set, lenB_set] using ih
theorem SubM.go {t : List SV} {h : HS} {s : List SV × HS} (hs : SubM t h s) : ∀ {E : Env} {w : World} {tmps : Array Value}, DenA E w t tmps → RelH E h w → ∀ (L M : Nat), lenB s.2.blks = L → lenV s.2.vecs = M → L ≤ E.nb → M ≤ E.nv →
    ∃ E', E'.rho = E.rho ∧ Ext E w E' w ∧ DenA { E' with nb := L, nv := M } w s.1 tmps ∧ RelH { E' with nb := L, nv := M } s.2 w := by
  induction hs with
  | sub hsub =>
    intro E w tmps hd hr L M hL hM h1 h2
    exact ⟨E, rfl, Ext.refl E w, hsub.go hd hr L M hL hM h1 h2⟩
  | mv i0 i1 js h0 h1 hne hj _ ih =>
    intro E w tmps hd hr L M hL hM hLE hME
    obtain ⟨hx, hr'⟩ := mv_ok hr h0 h1 hne
    obtain ⟨c0, ⟨a, cap, k1, k2⟩, _⟩ := hr.vec _ _ _ _ _ _ h1
    obtain ⟨E', e1, e2, e3⟩ := ih (updA_den (hd.ext hx) (fun j hjm => by
      have hj' := hd.nth j
      rw [hj j hjm] at hj'
      generalize tmps.getD j undef = u at hj' ⊢
      cases hj' with
      | vec hi hv =>
        rw [k1] at hv
        cases hv
        have hlt0 := getV_lt h0
        exact .vec (by simp only [Env.mv]; rw [hr.nv]; exact hlt0) (by simp [Env.mv, k1]))) hr' L M hL hM hLE hME
    exact ⟨E', e1, hx.trans e2, e3⟩
  | fz id js h0 hj _ ih =>
    intro E w tmps hd hr L M hL hM hLE hME
    have hx := give_ext E id w
    obtain ⟨E', e1, e2, e3⟩ := ih (updA_den (hd.ext hx) (fun j hjm => by
      have hj' := hd.nth j
      rw [hj j hjm] at hj'
      exact give_den hr h0 hj')) (give_rel hr id) L M hL hM hLE hME
    exact ⟨E', e1, hx.trans e2, e3⟩
  | fzV id ov js h0 h1 hne hj hf _ ih =>
    intro E w tmps hd hr L M hL hM hLE hME
    have hx := give_ext E id w
    obtain ⟨E', e1, e2, e3⟩ := ih (updA_den (hd.ext hx) (fun j hjm => by
      have hj' := hd.nth j
      rw [hj j hjm] at hj'
      exact give_den hr h0 hj')) (give_relV hr h0 h1 hne hf) L M hL hM hLE hME
    exact ⟨E', e1, hx.trans e2, e3⟩
  | @mvV t h s i0 i1 ov v0 ty0 sz0 n0 f0 v1 ty sz n f vo tyo szo no fo fo' h0 h1 h2 hne ho0 ho1 hf _ ih =>
    intro E w tmps hd hr L M hL hM hLE hME
    obtain ⟨hx, hr'⟩ := mv_ok hr h0 h1 hne
    obtain ⟨c0, ⟨a, cap, k1, k2⟩, _⟩ := hr.vec _ _ _ _ _ _ h1
    have hov : getV (setV (setV h.vecs i0 (.live (v0 + 1) ty sz n f)) i1 .dead) ov = .live vo tyo szo no fo := by rw [getV_set, if_neg (fun e => ho1 e.1), getV_set, if_neg (fun e => ho0 e.1)]; exact h2
    obtain ⟨E', e1, e2, e3⟩ := ih (E := E.mv i0 (v0 + 1) i1 v1) ⟨hd.1, fun i x u hx' hu => (hd.2 i x u hx' hu).ext hx⟩ (hr'.vsay hov (fun i j hi hj u hu => by
      rcases hf i j hi hj with e | ⟨e, e'⟩
      · rw [e]; exact hu
      · rw [e] at hu
        rw [e']
        cases hu with
        | vec hi hv =>
          rename_i a1 n1 cap1
          have hv' : E.val i1 v1 = some (a1, n1, cap1) := by simpa [Env.mv, Ne.symm hne] using hv
          rw [k1] at hv'
          cases hv'
          have hlt0 := getV_lt h0
          exact .vec (by simp only [Env.mv]; rw [hr.nv]; exact hlt0) (by simp [Env.mv, k1]))) L M hL hM hLE hME
    exact ⟨E', e1, hx.trans e2, e3⟩
  | fzB id nm k h0 h1 hk _ ih =>
    intro E w tmps hd hr L M hL hM hLE hME
    have hx := give_ext E id w
    obtain ⟨E', e1, e2, e3⟩ := ih ⟨hd.1, fun i x u hx' hu => (hd.2 i x u hx' hu).ext hx⟩ (give_relB hr h0 h1 hk) L M hL hM hLE hME
    exact ⟨E', e1, hx.trans e2, e3⟩
theorem mkH_ok : ∀ (mk : List (TypeId × Nat)), (∀ p, p ∈ mk → 0 < p.2) → ∀ {E : Env} {h : HS} {w : World}, RelH E h w → ∃ E', E'.rho = E.rho ∧ Ext E w E' w ∧ RelH E' (mkH mk h) w
  | [], _, E, _, w, hr => ⟨E, rfl, Ext.refl E w, hr⟩
  | (ty, sz) :: l, hp, E, h, w, hr => by
    obtain ⟨E', e1, e2, e3⟩ := mkH_ok l (fun p hm => hp p (List.mem_cons_of_mem _ hm)) (hr.newVec ty sz (hp _ List.mem_cons_self) (fun _ _ => .any))
    exact ⟨E', e1, (ext_newV E w).trans e2, e3⟩
theorem mkH_len : ∀ (mk : List (TypeId × Nat)) (h : HS), lenB (mkH mk h).blks = lenB h.blks ∧ lenV (mkH mk h).vecs = lenV h.vecs + mk.length
  | [], h => ⟨rfl, rfl⟩
  | (ty, sz) :: l, h => by
    obtain ⟨a, b⟩ := mkH_len l { h with vecs := snocV h.vecs (.live 0 ty sz 0 fun _ _ => .any) }
    exact ⟨a, by simp only [mkH]; rw [b, lenV_snoc]; simp only [List.length_cons]; omega⟩

/- ### results -/
def rv1 (tmps : Array Value) (r : ResultVar) : Sem Value :=
  match r with
  | .tmp t => pure (tmps.getD t undef)
  | .cell a t => do loadVar t (← asAddr (tmps.getD a undef))
theorem resL_ok {P : Program} {T : Nat → Option TI} (hT : TOk P T) {E : Env} {w : World} {t : List SV} {h : HS} {tmps : Array Value} (hd : DenA E w t tmps) (hr : RelH E h w) :
    ∀ (l : List ResultVar) (p : Prop) (vs : List SV), resL T t h l = some (p, vs) → p →
      ∃ us : List Value, (l.mapM (rv1 tmps)).run P w = .ok us w ∧ us.length = vs.length ∧ ∀ (i : Nat) (x : SV) (u : Value), vs[i]? = some x → us[i]? = some u → Den E w x u
  | [], p, vs, hl, hp => by simp [resL] at hl; obtain ⟨_, rfl⟩ := hl; exact ⟨[], by simp, rfl, fun i x u hx => by simp at hx⟩
  | .tmp i :: l, p, vs, hl, hp => by
    simp only [resL] at hl
    cases hr2 : resL T t h l with
    | none => simp [hr2] at hl
    | some pv =>
      obtain ⟨p', vs'⟩ := pv
      simp only [hr2, Option.some.injEq, Prod.mk.injEq] at hl
      obtain ⟨rfl, rfl⟩ := hl
      obtain ⟨us, h1, h2, h3⟩ := resL_ok hT hd hr l p' vs' hr2 hp
      refine ⟨tmps.getD i undef :: us, by simp [List.mapM_cons, rv1, h1], by simp [h2], fun k x u hx hu => ?_⟩
      cases k with
      | zero => simp at hx hu; subst hx hu; simpa using hd.nth i
      | succ k => simp at hx hu; exact h3 k x u hx hu
  | .cell a ty :: l, p, vs, hl, hp => by
    simp only [resL] at hl
    cases hti : T ty with
    | none => simp [hti] at hl
    | some ti =>
      simp only [hti] at hl
      have hload := rLoad_at (P := P) hr (hT _ _ hti) (hd.nth a)
      cases hrl : rLoad ti h (nth t a) with
      | val q v h' =>
        cases hr2 : resL T t h l with
        | none => simp [hrl, hr2] at hl
        | some pv =>
          obtain ⟨p', vs'⟩ := pv
          simp only [hrl, hr2, Option.some.injEq, Prod.mk.injEq] at hl
          obtain ⟨rfl, rfl⟩ := hl
          obtain ⟨us, h1, h2, h3⟩ := resL_ok hT hd hr l p' vs' hr2 hp.2
          rw [hrl] at hload
          obtain ⟨A, val, e, k1, k2, _⟩ := hload hp.1
          refine ⟨val :: us, by simp only [List.mapM_cons, rv1, e]; simp [asAddr, k1, h1], by simp [h2], fun k x u hx hu => ?_⟩
          cases k with
          | zero => simp at hx hu; subst hx hu; exact k2
          | succ k => simp at hx hu; exact h3 k x u hx hu
      | _ => simp [hrl] at hl
theorem results_ok {P : Program} {T : Nat → Option TI} (hT : TOk P T) {E : Env} {w : World} {t : List SV} {h : HS} {tmps : Array Value} (hd : DenA E w t tmps) (hr : RelH E h w) (fn : Func)
    {p : Prop} {vs : List SV} (hl : resL T t h fn.results.toList = some (p, vs)) (hp : p) : ∃ v, (results fn tmps).run P w = .ok v w ∧ Den E w (oneR vs) v := by
  obtain ⟨us, h1, h2, h3⟩ := resL_ok (P := P) hT hd hr _ _ _ hl hp
  have hres : results fn tmps = (fn.results.mapM (rv1 tmps) >>= fun vs => pure (if h : vs.size = 1 then vs[0] else .tuple vs)) := by
    unfold results
    congr 1
  have e : (results fn tmps).run P w = .ok (if h : us.toArray.size = 1 then us.toArray[0] else .tuple us.toArray) w := by
    rw [hres, Array.mapM_eq_mapM_toList]
    simp only [Sem.run_bind, Sem.run_map, h1, Result.andThen_ok, Sem.run_pure]
  refine ⟨_, e, ?_⟩
  match vs, us, h2, h3 with
  | [x], [u], _, h3 => exact h3 0 x u rfl rfl
  | [], [], _, h3 => exact .tup _ rfl (fun i x u hx => by simp at hx)
  | x :: y :: l, u :: v :: k, h2, h3 =>
    simp only [oneR]
    rw [dif_neg (by simp)]
    exact .tup _ (by simpa using h2) (fun i a b ha hb => h3 i a b ha (by simpa using hb))
end
end Go.Eng
end

/- The symbolic machine is right: frames and their ends. -/
section
namespace Go.Eng
open Go.RowKit
set_option linter.unusedVariables false

section
variable {P : Program} {b : Frame} {a : Act} {k : List Item} {cs : List Frame} {w w' : World} {ops : Array Oper} {i : Nat} {rest : List Nat} {o : Oper}
theorem op_value (hn : ∀ c, o.op ≠ .defer c) (ho : ops[i]? = some o) (hw : Region.wanted o (yielded ops a.tmps) = true) {v : Value} (hr : (execOp a.eval o).run P w = .ok (.value v) w') :
    step P (lone (b.atR a (.inRegion ops (i :: rest) :: k)) cs w) = .next (lone (b.atR (a.put o.dst v) (.inRegion ops rest :: k)) cs w') := by
  have hg := stepGR_op (P := P) (b := b) (k := k) (cs := cs) (w := w) (rest := rest) ho hw
  rw [Oper.semAt_eq _ _ _ hn] at hg
  have hfin : (b.atR a (.inRegion ops (i :: rest) :: k)).finish v = b.atR (a.put o.dst v) (.inRegion ops rest :: k) := by rw [Frame.finish_atR, ho]; rfl
  exact step_lone_go (by rw [hg, ← hfin]; simp [stepG.apply, hr])
theorem op_skip (hn : ∀ c, o.op ≠ .defer c) (ho : ops[i]? = some o) (hw : Region.wanted o (yielded ops a.tmps) = true) (hr : (execOp a.eval o).run P w = .ok .skip w') :
    step P (lone (b.atR a (.inRegion ops (i :: rest) :: k)) cs w) = .next (lone (b.atR (a.put o.dst undef) (.inRegion ops rest :: k)) cs w') := by
  have hg := stepGR_op (P := P) (b := b) (k := k) (cs := cs) (w := w) (rest := rest) ho hw
  rw [Oper.semAt_eq _ _ _ hn] at hg
  have hfin : (b.atR a (.inRegion ops (i :: rest) :: k)).finish undef = b.atR (a.put o.dst undef) (.inRegion ops rest :: k) := by rw [Frame.finish_atR, ho]; rfl
  exact step_lone_go (by rw [hg, ← hfin]; simp [stepG.apply, hr])
theorem op_enter (hn : ∀ c, o.op ≠ .defer c) (ho : ops[i]? = some o) (hw : Region.wanted o (yielded ops a.tmps) = true) {f : Nat} {args : Array Value} (hr : (execOp a.eval o).run P w = .ok (.enter f args) w') :
    step P (lone (b.atR a (.inRegion ops (i :: rest) :: k)) cs w) = .next (lone (Frame.enter P f args .normal) (b.atR a (.inRegion ops (i :: rest) :: k) :: cs) w') := by
  have hg := stepGR_op (P := P) (b := b) (k := k) (cs := cs) (w := w) (rest := rest) ho hw
  rw [Oper.semAt_eq _ _ _ hn] at hg
  exact step_lone_go (by rw [hg]; simp [stepG.apply, hr, Frame.atR])
theorem op_round (hn : ∀ c, o.op ≠ .defer c) (ho : ops[i]? = some o) (hw : Region.wanted o (yielded ops a.tmps) = true) {l f : Nat} {tmps : Array Value} {x y : Code} (hr : (execOp a.eval o).run P w = .ok (.round l f tmps x y) w') :
    step P (lone (b.atR a (.inRegion ops (i :: rest) :: k)) cs w) = .next (lone (Frame.round l f tmps x y .normal) (b.atR a (.inRegion ops (i :: rest) :: k) :: cs) w') := by
  have hg := stepGR_op (P := P) (b := b) (k := k) (cs := cs) (w := w) (rest := rest) ho hw
  rw [Oper.semAt_eq _ _ _ hn] at hg
  exact step_lone_go (by rw [hg]; simp [stepG.apply, hr, Frame.atR])
theorem op_panic (hn : ∀ c, o.op ≠ .defer c) (ho : ops[i]? = some o) (hw : Region.wanted o (yielded ops a.tmps) = true) {v : Value} (hr : (execOp a.eval o).run P w = .halt (.panic v) w') :
    step P (lone (b.atR a (.inRegion ops (i :: rest) :: k)) cs w) = .next (lone { b.atR a (.inRegion ops (i :: rest) :: k) with mode := .panicking [{ v, recovered := false }] } cs w') := by
  have hg := stepGR_op (P := P) (b := b) (k := k) (cs := cs) (w := w) (rest := rest) ho hw
  rw [Oper.semAt_eq _ _ _ hn] at hg
  exact step_lone_go (by rw [hg, ← Frame.raise_atR]; simp [stepG.apply, hr])
end

/- ### marks are taken -/
structure Tk (E : Env) (w w1 : World) (s : Nat) : Prop where
  os : w1.os = w.os
  tape : w1.tape = w.tape
  output : w1.output = w.output
  size : w1.heap.size = w.heap.size
  low : ∀ b, b < s → w1.heap[b]? = w.heap[b]?
  own : ∀ b t, E.own b = some t → w1.heap[b]? = w.heap[b]?
  cell : ∀ a v, w.cell? a = some v → w1.cell? a = some v
theorem Tk.refl (E : Env) (w : World) (s : Nat) : Tk E w w s := ⟨rfl, rfl, rfl, rfl, fun _ _ => rfl, fun _ _ _ => rfl, fun _ _ h => h⟩
theorem Tk.trans {E : Env} {w w1 w2 : World} {s : Nat} (h : Tk E w w1 s) (k : Tk E w1 w2 s) : Tk E w w2 s :=
  ⟨k.os.trans h.os, k.tape.trans h.tape, k.output.trans h.output, k.size.trans h.size, fun b hb => (k.low b hb).trans (h.low b hb), fun b t ho => (k.own b t ho).trans (h.own b t ho), fun a v hv => k.cell a v (h.cell a v hv)⟩
theorem Tk.less {E : Env} {w w1 : World} {s s' : Nat} (h : Tk E w w1 s) (hs : s' ≤ s) : Tk E w w1 s' := { h with low := fun b hb => h.low b (Nat.lt_of_lt_of_le hb hs) }
theorem Tk.one {E : Env} {w : World} {s D : Nat} (h1 : s ≤ D) (h2 : E.own D = none) (h3 : w.heap[D]? = some (.deferred (some []))) : Tk E w (w.putObj D (.deferred none)) s := by
  refine ⟨rfl, rfl, rfl, World.putObj_size, fun b hb => World.putObj_heap_other (by omega), fun b t ho => World.putObj_heap_other (fun e => by subst e; rw [h2] at ho; cases ho), fun a v hv => ?_⟩
  have hne : a.block ≠ D := fun e => by
    unfold World.cell? at hv
    rw [e, h3] at hv
    simp at hv
  exact (World.cell?_of_block (World.putObj_heap_other hne)).trans hv
theorem Tk.den {E : Env} {w w1 : World} {s : Nat} (h : Tk E w w1 s) {x : SV} {v : Value} (hd : Den E w x v) : Den E w1 x v := by
  induction hd with
  | any v => exact .any v
  | int k n => exact .int k n
  | bool b => exact .bool b
  | str s => exact .str s
  | ptr hn => exact .ptr hn
  | nilp => exact .nilp
  | nils h => exact .nils h
  | @rptr sz f A g hA ho hc h1 hd ih => exact .rptr A g (by rw [h.size]; exact hA) ho (fun j hj => h.cell _ _ (hc j hj)) h1 ih
  | @row n sz f A cap g hA ho hn hc h1 hd ih => exact .row A cap g (by rw [h.size]; exact hA) ho hn (fun i j hi hj => h.cell _ _ (hc i j hi hj)) h1 ih
  | rowZ a cap => exact .rowZ a cap
  | vec hi hv => exact .vec hi hv
  | vptr hi hv => exact .vptr hi hv
  | vcut hi hv hn hc ha h0 hA hB => exact .vcut hi hv hn hc ha h0 hA hB
  | bsl hn hc => exact .bsl hn hc
  | mapp hn => exact .mapp hn
  | func vs hs hd ih => exact .func vs hs ih
  | meth vs hs hd ih => exact .meth vs hs ih
  | nilf => exact .nilf
  | iface _ ih => exact .iface ih
  | nili => exact .nili
  | agg vs hs h1 hd ih => exact .agg vs hs h1 ih
  | tup vs hs hd ih => exact .tup vs hs ih
  | yield hn => exact .yield hn
theorem Tk.denA {E : Env} {w w1 : World} {s : Nat} (h : Tk E w w1 s) {l : List SV} {vs : Array Value} (hd : DenA E w l vs) : DenA E w1 l vs := ⟨hd.1, fun i x u hx hu => h.den (hd.2 i x u hx hu)⟩
theorem Tk.rel {E : Env} {w w1 : World} {s : Nat} (h : Tk E w w1 s) {hh : HS} (hr : RelH E hh w) : RelH E hh w1 where
  nb := hr.nb
  nv := hr.nv
  blk := fun nm ty cells hb => by
    obtain ⟨cs, h1, h2, h3, h4⟩ := hr.blk nm ty cells hb
    exact ⟨cs, (h.own _ _ h4).trans h1, h.denA h2, h3, h4⟩
  vec := fun id ver ty sz n f hv => by
    obtain ⟨h0, ⟨a, cap, h1, h2⟩, h3⟩ := hr.vec id ver ty sz n f hv
    refine ⟨h0, ⟨a, cap, h1, ?_⟩, h3⟩
    rcases h2 with hk | ⟨g, o, cur, q1, q2, q3, q4, q5, q6, q7, q8⟩
    · exact .inl hk
    · exact .inr ⟨g, o, cur, q1, q2, q3, (h.own _ _ q6).trans q4, q5, q6, q7, fun i j u hi hj hu => h.den (q8 i j u hi hj hu)⟩
  own := fun b t hb => by rw [h.size]; exact hr.own b t hb
  lp := fun nm st pend fid t params assign body hb => by
    obtain ⟨tmps, db, h1, h2, h3⟩ := hr.lp _ _ _ _ _ _ _ _ hb
    exact ⟨tmps, db, (h.own _ _ h3).trans h1, h.denA h2, h3⟩
  mp := fun nm m hb => (hr.mp _ _ hb).ext' (Nat.le_refl _) (fun _ _ => rfl) (fun ho => ⟨rfl, h.own _ _ ho, rfl⟩)
theorem Tk.ext {E Ea : Env} {w w1 wa : World} {s : Nat} (h : Tk E w w1 s) (hx : Ext Ea wa E w) (hs : wa.heap.size ≤ s) : Ext Ea wa E w1 :=
  ⟨h.os.trans hx.os, h.tape.trans hx.tape, h.output.trans hx.output, by rw [h.size]; exact hx.size, hx.nb, hx.nv, hx.rho, hx.val,
   fun b hb ho => let ⟨k1, k2⟩ := hx.keep b hb ho; ⟨k1, (h.low b (Nat.lt_of_lt_of_le hb hs)).trans k2⟩,
   fun b ho => let ⟨k1, k2⟩ := hx.oth b ho; ⟨k1, (h.own b _ k1).trans k2⟩⟩
theorem Tk.ds {E : Env} {w w1 : World} {s s' u : Nat} (h : Tk E w w1 s) (hu : u ≤ s) {B : Bt} {ds : List Deferred} (hd : DsOk E w B s' u ds) : DsOk E w1 B s' u ds := by
  obtain ⟨l, h1, h2, h3⟩ := hd
  refine ⟨l, h1, h2, fun D hD => ?_⟩
  obtain ⟨a, b, c, d, e⟩ := h3 D hD
  exact ⟨a, b, by rw [h.size]; exact c, d, (h.low D (Nat.lt_of_lt_of_le b hu)).trans e⟩
section
variable {C : Ctx} {cs : List Frame} {B : Bt}
theorem Tk.inv {E : Env} {w w1 : World} {s s' u : Nat} (h : Tk E w w1 s) (hu : u ≤ s) {fid : Nat} {frs : List Frame} : ∀ {k : List It}, InvK C cs B E w s' u fid frs k → InvK C cs B E w1 s' u fid frs k
  | [], _ => trivial
  | .inv ι st μ i body :: k, hi => by
    simp only [InvK] at hi ⊢
    obtain ⟨⟨Ee, we, h0, h1, h2⟩, h3⟩ := hi
    exact ⟨⟨Ee, we, h0, h.ext h1 (Nat.le_trans h0 hu), h2⟩, h.inv hu h3⟩
  | .code _ :: k, hi => by simp only [InvK] at hi ⊢; exact h.inv hu hi
  | .blk _ :: k, hi => by simp only [InvK] at hi ⊢; exact h.inv hu hi
  | .reg _ _ :: k, hi => by simp only [InvK] at hi ⊢; exact h.inv hu hi
  | .inRng _ :: k, hi => by simp only [InvK] at hi ⊢; exact h.inv hu hi
  | .endRng _ :: k, hi => by simp only [InvK] at hi ⊢; exact h.inv hu hi
  | .beginR :: k, hi => by simp only [InvK] at hi ⊢; exact h.inv hu hi
  | .aga _ :: k, hi => by simp only [InvK] at hi ⊢; exact h.inv hu hi
  | .scp _ :: k, hi => by simp only [InvK] at hi ⊢; exact h.inv hu hi
  | .endR _ :: k, hi => by simp only [InvK]
theorem Tk.stk {E : Env} {w w1 : World} {s0 : Nat} : ∀ {s : Nat} (h : Tk E w w1 s) {fs : List Fr} {frs : List Frame}, StkOk C cs B E w s0 s fs frs → StkOk C cs B E w1 s0 s fs frs
  | s, h, [], [], hs => hs
  | s, h, [], _ :: _, hs => by simp only [StkOk] at hs
  | s, h, ⟨fid, k, t⟩ :: fs, [], hs => by simp only [StkOk] at hs
  | s, h, ⟨fid, k, t⟩ :: fs, fr :: frs, hs => by
    simp only [StkOk] at hs ⊢
    obtain ⟨s1, ds, tmps, h1, h2, h3, h4, h5, h6, h7, h8, h9⟩ := hs
    exact ⟨s1, ds, tmps, h1, by rw [h.size]; exact h2, h3, h.denA h4, h5, h.ds (Nat.le_refl _) h6, h7, h.inv (Nat.le_refl _) h8, (h.less h1).stk h9⟩
theorem stk_le {E : Env} {w : World} {s0 : Nat} : ∀ {s : Nat} {fs : List Fr} {frs : List Frame}, StkOk C cs B E w s0 s fs frs → s0 ≤ s
  | s, [], [], h => h
  | s, [], _ :: _, h => by simp only [StkOk] at h
  | s, ⟨fid, k, t⟩ :: fs, [], h => by simp only [StkOk] at h
  | s, ⟨fid, k, t⟩ :: fs, fr :: frs, h => by
    simp only [StkOk] at h
    obtain ⟨s1, ds, tmps, h1, h2, h3, h4, h5, h6, h7, h8, h9⟩ := h
    exact Nat.le_trans (stk_le h9) h1

theorem take_steps {P : Program} {E : Env} {s u : Nat} {D0 : List Deferred} {cs : List Frame} : ∀ (l : List Nat) (fr : Frame) (w : World), fr.mode ≠ .run → fr.defers = marks l ++ D0 → MarkOk E w s u l →
    ∃ w1, Steps P (lone fr cs w) (lone { fr with defers := D0 } cs w1) ∧ Tk E w w1 s
  | [], fr, w, hm, hd, hk => ⟨w, by rw [show ({ fr with defers := D0 } : Frame) = fr from by cases fr; simp only [marks, List.nil_append] at hd; subst hd; rfl]; exact Steps.refl _ _, Tk.refl E w s⟩
  | D :: l, fr, w, hm, hd, hk => by
    obtain ⟨hnd, hall⟩ := hk
    obtain ⟨h1, h2, h3, h4, h5⟩ := hall D (by simp)
    have hstep := step_collected (P := P) (fr := fr) (cs := cs) (w := w) (d := mk1 D) (r := D) (ds := marks l ++ D0) hm hd rfl (run_takeDeferred h5)
    rw [List.nodup_cons] at hnd
    have hk' : MarkOk E (w.putObj D (.deferred none)) s u l := ⟨hnd.2, fun D' hD' => by
      obtain ⟨a, b, c, d, e⟩ := hall D' (by simp [hD'])
      exact ⟨a, b, by rw [World.putObj_size]; exact c, d, (World.putObj_heap_other (fun e => by subst e; exact hnd.1 hD')).trans e⟩⟩
    obtain ⟨w1, g1, g2⟩ := take_steps l { fr with defers := marks l ++ D0 } _ hm rfl hk'
    exact ⟨w1, .head hstep g1, (Tk.one h1 h4 h5).trans g2⟩
end
end Go.Eng
end
