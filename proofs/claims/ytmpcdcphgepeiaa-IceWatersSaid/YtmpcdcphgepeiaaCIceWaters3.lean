/-
  Towards IceWaters: a part of the symbolic machine, of its soundness, and of what the functions compute. No condition.
-/
import Derived.Attr
import Derived.OpenShut
import Derived.Carry
import Derived.ChangeArms
import Derived.WideShapes
import Derived.WideWitness
import Derived.ProofKit
import Derived.Test.YtmpcdcphgepeiaaCIceWaters2
set_option linter.unusedSimpArgs false
set_option linter.unusedVariables false
/- Facts for reckoning the machine out, one for each case. -/
section
namespace Go.Eng
open Go Go.RowKit

def oAlloc (o : Option TI) (e : TypeId) (h : HS) : Res := match o with | some ti => rAlloc ti e h | none => .bad
def oBuildA (o : Option TI) (ti : TI) (ps : List (Nat × SV)) (h : HS) : Res := match o with | some te => rBuild ti te.size ps h | none => .bad
def oBuild (T : Nat → Option TI) (ps : List (Nat × SV)) (h : HS) : Option TI → Res
  | some ti => match ti.kind with
    | .array _ e => oBuildA (T e) ti ps h
    | _ => rBuild ti 0 ps h
  | none => .bad
def oBuildSl2 (o : Option TI) (e len : Nat) (ps : List (Nat × SV)) (h : HS) : Res := match o with | some te => rBuildSlice e te len ps h | none => .bad
def oBuildSl (T : Nat → Option TI) (len : Nat) (ps : List (Nat × SV)) (h : HS) : Option TI → Res
  | some { kind := .slice e, .. } => oBuildSl2 (T e) e len ps h
  | _ => .bad
def oLoad (o : Option TI) (h : HS) (x : SV) : Res := match o with | some ti => rLoad ti h x | none => .bad
def oStore (T : Nat → Option TI) (o : Option TI) (h : HS) (x : SV) (b : Bool) (y : SV) : Res := match o with | some ti => rStoreN T h ti x b y | none => .bad
def oConv (o o' : Option TI) (x : SV) (h : HS) : Res := match o, o' with | some _, some td => rConv td x h | _, _ => .bad
def oIface (o : Option TI) (ty : TypeId) (x : SV) (h : HS) : Res := match o with | some ti => rIface ti ty x h | none => .bad
def oSlice2 (o : Option TI) (ti : TI) (x : SV) (lo hi : Option SV) (h : HS) : Res := match o with | some te => if te.size = rowSz x then rSlice ti x lo hi h else .bad | none => .bad
def oSlice (T : Nat → Option TI) (x : SV) (lo hi : Option SV) (h : HS) : Option TI → Res
  | some ti => match ti.kind with
    | .slice e => oSlice2 (T e) ti x lo hi h
    | _ => .bad
  | none => .bad
def oField (o : Option TI) (h : HS) (x : SV) (k : Nat) : Res := match o with | some ti => rField ti h x k | none => .bad
def oIndex2 (o : Option TI) (ti : TI) (h : HS) (x y : SV) : Res := match o with | some te => rIndex ti te.size h x y | none => .bad
def oIndex (T : Nat → Option TI) (h : HS) (x y : SV) : Option TI → Res
  | some ti => match ti.kind with
    | .slice e => oIndex2 (T e) ti h x y
    | .array _ e => oIndex2 (T e) ti h x y
    | _ => .bad
  | none => .bad
def oAssert (o : Option TI) (ty : TypeId) (x : SV) (ok : Bool) (h : HS) : Res := match o with | some ti => rAssert ti ty x ok h | none => .bad
def bLoad (ti : TI) (h : HS) (off : Nat) : Blk → Res
  | .live _ cells => .val (off + ti.size ≤ lenS cells) (ofCells ti.agg ti.size cells off) h
  | _ => .bad
def vLoad (ti : TI) (h : HS) (ver sz i off : Nat) : Vc → Res
  | .live ver' _ sz' n f => .val (ver = ver' ∧ sz = sz' ∧ i < n ∧ off + ti.size ≤ sz) (if ti.agg then .agg (cellsF (fun j => f i (off + j)) ti.size 0) else f i off) h
  | .dead => .bad
theorem opRes_move (T : Nat → Option TI) (F : Nat → Bool) (t : List SV) (h : HS) (dst : Option Nat) (ty : TypeId) (pos : String) (aft : Array Edge) (g : Option (Nat × Bool)) (x : Operand) : opRes T F t h ⟨dst, .move x, ty, pos, aft, g⟩ = rMove T t h ty x := rfl
theorem opRes_assign (T : Nat → Option TI) (F : Nat → Bool) (t : List SV) (h : HS) (dst : Option Nat) (ty : TypeId) (pos : String) (aft : Array Edge) (g : Option (Nat × Bool)) (x : Operand) : opRes T F t h ⟨dst, .assign x, ty, pos, aft, g⟩ = rMove T t h ty x := rfl
theorem opRes_pick (T : Nat → Option TI) (F : Nat → Bool) (t : List SV) (h : HS) (dst : Option Nat) (ty : TypeId) (pos : String) (aft : Array Edge) (g : Option (Nat × Bool)) (c a b : Operand) : opRes T F t h ⟨dst, .pick c a b, ty, pos, aft, g⟩ = rPick h (ev t c) (ev t a) (ev t b) := rfl
theorem opRes_alloc (T : Nat → Option TI) (F : Nat → Bool) (t : List SV) (h : HS) (dst : Option Nat) (ty : TypeId) (pos : String) (aft : Array Edge) (g : Option (Nat × Bool)) (e : TypeId) : opRes T F t h ⟨dst, .alloc e, ty, pos, aft, g⟩ = oAlloc (T e) e h := rfl
theorem opRes_box (T : Nat → Option TI) (F : Nat → Bool) (t : List SV) (h : HS) (dst : Option Nat) (ty : TypeId) (pos : String) (aft : Array Edge) (g : Option (Nat × Bool)) (e : TypeId) (x : Operand) : opRes T F t h ⟨dst, .box e x, ty, pos, aft, g⟩ = rBox e (ev t x) h := rfl
theorem opRes_build (T : Nat → Option TI) (F : Nat → Bool) (t : List SV) (h : HS) (dst : Option Nat) (ty : TypeId) (pos : String) (aft : Array Edge) (g : Option (Nat × Bool)) (e : TypeId) (ps : Array (Nat × Operand)) : opRes T F t h ⟨dst, .build e ps, ty, pos, aft, g⟩ = oBuild T (evP t ps.toList) h (T e) := rfl
theorem opRes_buildSlice (T : Nat → Option TI) (F : Nat → Bool) (t : List SV) (h : HS) (dst : Option Nat) (ty : TypeId) (pos : String) (aft : Array Edge) (g : Option (Nat × Bool)) (e : TypeId) (len : Nat) (ps : Array (Nat × Operand)) : opRes T F t h ⟨dst, .buildSlice e len ps, ty, pos, aft, g⟩ = oBuildSl T len (evP t ps.toList) h (T e) := rfl
theorem opRes_load (T : Nat → Option TI) (F : Nat → Bool) (t : List SV) (h : HS) (dst : Option Nat) (ty : TypeId) (pos : String) (aft : Array Edge) (g : Option (Nat × Bool)) (e : TypeId) (x : Operand) : opRes T F t h ⟨dst, .load e x, ty, pos, aft, g⟩ = oLoad (T e) h (ev t x) := rfl
theorem opRes_store (T : Nat → Option TI) (F : Nat → Bool) (t : List SV) (h : HS) (dst : Option Nat) (ty : TypeId) (pos : String) (aft : Array Edge) (g : Option (Nat × Bool)) (e : TypeId) (x y : Operand) : opRes T F t h ⟨dst, .store e x y, ty, pos, aft, g⟩ = oStore T (T e) h (ev t x) (isNilSl y) (ev t y) := rfl
theorem opRes_nilCheck (T : Nat → Option TI) (F : Nat → Bool) (t : List SV) (h : HS) (dst : Option Nat) (ty : TypeId) (pos : String) (aft : Array Edge) (g : Option (Nat × Bool)) (x : Operand) : opRes T F t h ⟨dst, .nilCheck x, ty, pos, aft, g⟩ = rNil h (ev t x) := rfl
theorem opRes_binOp (T : Nat → Option TI) (F : Nat → Bool) (t : List SV) (h : HS) (dst : Option Nat) (ty : TypeId) (pos : String) (aft : Array Edge) (g : Option (Nat × Bool)) (o : BinOp) (e : TypeId) (x y : Operand) (e2 : TypeId) : opRes T F t h ⟨dst, .binOp o e x y e2, ty, pos, aft, g⟩ = rBin2 (T e) (isConst x || isConst y) o (ev t x) (ev t y) h := rfl
theorem opRes_unOp (T : Nat → Option TI) (F : Nat → Bool) (t : List SV) (h : HS) (dst : Option Nat) (ty : TypeId) (pos : String) (aft : Array Edge) (g : Option (Nat × Bool)) (o : UnOp) (e : TypeId) (x : Operand) : opRes T F t h ⟨dst, .unOp o e x, ty, pos, aft, g⟩ = rUn o (ev t x) h := rfl
theorem opRes_convert (T : Nat → Option TI) (F : Nat → Bool) (t : List SV) (h : HS) (dst : Option Nat) (ty : TypeId) (pos : String) (aft : Array Edge) (g : Option (Nat × Bool)) (s d : TypeId) (x : Operand) : opRes T F t h ⟨dst, .convert s d x, ty, pos, aft, g⟩ = oConv (T s) (T d) (ev t x) h := rfl
theorem opRes_makeInterface (T : Nat → Option TI) (F : Nat → Bool) (t : List SV) (h : HS) (dst : Option Nat) (ty : TypeId) (pos : String) (aft : Array Edge) (g : Option (Nat × Bool)) (e : TypeId) (x : Operand) : opRes T F t h ⟨dst, .makeInterface e x, ty, pos, aft, g⟩ = oIface (T e) e (ev t x) h := rfl
theorem opRes_makeFunc (T : Nat → Option TI) (F : Nat → Bool) (t : List SV) (h : HS) (dst : Option Nat) (ty : TypeId) (pos : String) (aft : Array Edge) (g : Option (Nat × Bool)) (fn : Fn) (first caps : Array Operand) : opRes T F t h ⟨dst, .makeFunc fn first caps, ty, pos, aft, g⟩ = rFunc h fn first.toList (evL t caps.toList) := rfl
theorem opRes_slice (T : Nat → Option TI) (F : Nat → Bool) (t : List SV) (h : HS) (dst : Option Nat) (ty : TypeId) (pos : String) (aft : Array Edge) (g : Option (Nat × Bool)) (e : TypeId) (x : Operand) (lo hi : Option Operand) : opRes T F t h ⟨dst, .slice e x lo hi none, ty, pos, aft, g⟩ = oSlice T (ev t x) (evO t lo) (evO t hi) h (T e) := rfl
theorem opRes_fieldAddr (T : Nat → Option TI) (F : Nat → Bool) (t : List SV) (h : HS) (dst : Option Nat) (ty : TypeId) (pos : String) (aft : Array Edge) (g : Option (Nat × Bool)) (e : TypeId) (x : Operand) (k : Nat) : opRes T F t h ⟨dst, .fieldAddr e x k, ty, pos, aft, g⟩ = oField (T e) h (ev t x) k := rfl
theorem opRes_indexAddr (T : Nat → Option TI) (F : Nat → Bool) (t : List SV) (h : HS) (dst : Option Nat) (ty : TypeId) (pos : String) (aft : Array Edge) (g : Option (Nat × Bool)) (e : TypeId) (x y : Operand) : opRes T F t h ⟨dst, .indexAddr e x y, ty, pos, aft, g⟩ = oIndex T h (ev t x) (ev t y) (T e) := rfl
theorem opRes_typeAssert (T : Nat → Option TI) (F : Nat → Bool) (t : List SV) (h : HS) (dst : Option Nat) (ty : TypeId) (pos : String) (aft : Array Edge) (g : Option (Nat × Bool)) (x : Operand) (xt e : TypeId) (ok : Bool) : opRes T F t h ⟨dst, .typeAssert x xt e ok, ty, pos, aft, g⟩ = oAssert (T e) e (ev t x) ok h := rfl
theorem opRes_extract (T : Nat → Option TI) (F : Nat → Bool) (t : List SV) (h : HS) (dst : Option Nat) (ty : TypeId) (pos : String) (aft : Array Edge) (g : Option (Nat × Bool)) (x : Operand) (k : Nat) : opRes T F t h ⟨dst, .extract x k, ty, pos, aft, g⟩ = rExtract (ev t x) k h := rfl
theorem opRes_call (T : Nat → Option TI) (F : Nat → Bool) (t : List SV) (h : HS) (dst : Option Nat) (ty : TypeId) (pos : String) (aft : Array Edge) (g : Option (Nat × Bool)) (f : Operand) (args : Array Operand) (tys : Array TypeId) : opRes T F t h ⟨dst, .call ⟨.value f, args, tys⟩, ty, pos, aft, g⟩ = rCall F h (ev t f) (evL t args.toList) := rfl
theorem opRes_callB (T : Nat → Option TI) (F : Nat → Bool) (t : List SV) (h : HS) (dst : Option Nat) (ty : TypeId) (pos : String) (aft : Array Edge) (g : Option (Nat × Bool)) (f : Builtin) (args : Array Operand) (tys : Array TypeId) : opRes T F t h ⟨dst, .call ⟨.builtin f, args, tys⟩, ty, pos, aft, g⟩ = rBuiltin T h f tys.toList (evL t args.toList) := rfl
theorem opRes_panic (T : Nat → Option TI) (F : Nat → Bool) (t : List SV) (h : HS) (dst : Option Nat) (ty : TypeId) (pos : String) (aft : Array Edge) (g : Option (Nat × Bool)) (x : Operand) : opRes T F t h ⟨dst, .panic x, ty, pos, aft, g⟩ = rPanic (ev t x) := rfl
theorem opRes_defer (T : Nat → Option TI) (F : Nat → Bool) (t : List SV) (h : HS) (dst : Option Nat) (ty : TypeId) (pos : String) (aft : Array Edge) (g : Option (Nat × Bool)) (c : Call) : opRes T F t h ⟨dst, .defer c, ty, pos, aft, g⟩ = .bad := rfl
theorem oBuild_a (T : Nat → Option TI) (ps : List (Nat × SV)) (h : HS) (n e : Nat) (agg ifc : Bool) (size bytes : Nat) (zero : List ZC) (eq : Option (List LK)) : oBuild T ps h (some ⟨.array n e, agg, ifc, size, bytes, zero, eq⟩) = oBuildA (T e) ⟨.array n e, agg, ifc, size, bytes, zero, eq⟩ ps h := rfl
theorem oBuild_s (T : Nat → Option TI) (ps : List (Nat × SV)) (h : HS) (o : List (Nat × Nat)) (agg ifc : Bool) (size bytes : Nat) (zero : List ZC) (eq : Option (List LK)) : oBuild T ps h (some ⟨.struct o, agg, ifc, size, bytes, zero, eq⟩) = rBuild ⟨.struct o, agg, ifc, size, bytes, zero, eq⟩ 0 ps h := rfl
theorem rBuild_a (se : Nat) (ps : List (Nat × SV)) (h : HS) (n e : Nat) (agg ifc : Bool) (size bytes : Nat) (zero : List ZC) (eq : Option (List LK)) : rBuild ⟨.array n e, agg, ifc, size, bytes, zero, eq⟩ se ps h = fin2 (fillS (placeA se) ps (zcs zero)) h := rfl
theorem rBuild_s (se : Nat) (ps : List (Nat × SV)) (h : HS) (o : List (Nat × Nat)) (agg ifc : Bool) (size bytes : Nat) (zero : List ZC) (eq : Option (List LK)) : rBuild ⟨.struct o, agg, ifc, size, bytes, zero, eq⟩ se ps h = fin2 (fillS (placeS o) ps (zcs zero)) h := rfl
theorem oSlice_s (T : Nat → Option TI) (x : SV) (lo hi : Option SV) (h : HS) (e : Nat) (agg ifc : Bool) (size bytes : Nat) (zero : List ZC) (eq : Option (List LK)) : oSlice T x lo hi h (some ⟨.slice e, agg, ifc, size, bytes, zero, eq⟩) = oSlice2 (T e) ⟨.slice e, agg, ifc, size, bytes, zero, eq⟩ x lo hi h := rfl
theorem oIndex_s (T : Nat → Option TI) (h : HS) (x y : SV) (e : Nat) (agg ifc : Bool) (size bytes : Nat) (zero : List ZC) (eq : Option (List LK)) : oIndex T h x y (some ⟨.slice e, agg, ifc, size, bytes, zero, eq⟩) = oIndex2 (T e) ⟨.slice e, agg, ifc, size, bytes, zero, eq⟩ h x y := rfl
theorem oIndex_a (T : Nat → Option TI) (h : HS) (x y : SV) (n e : Nat) (agg ifc : Bool) (size bytes : Nat) (zero : List ZC) (eq : Option (List LK)) : oIndex T h x y (some ⟨.array n e, agg, ifc, size, bytes, zero, eq⟩) = oIndex2 (T e) ⟨.array n e, agg, ifc, size, bytes, zero, eq⟩ h x y := rfl
theorem rIndex_r (e : Nat) (agg ifc : Bool) (size bytes : Nat) (zero : List ZC) (eq : Option (List LK)) (se : Nat) (h : HS) (n sz : Nat) (f : Nat → Nat → SV) (k : IntKind) (i : Int) : rIndex ⟨.slice e, agg, ifc, size, bytes, zero, eq⟩ se h (.row n sz f) (.int k i) = .val (se = sz ∧ 0 ≤ i ∧ i < (n : Int)) (.rptr sz (f i.toNat)) h := rfl
def vIndex (se : Nat) (h : HS) (id ver : Nat) (i : Int) : Vc → Res
  | .live ver' _ sz n _ => .val (ver = ver' ∧ se = sz ∧ 0 ≤ i ∧ i < (n : Int)) (.vptr id ver sz i.toNat 0) h
  | .dead => .bad
theorem rIndex_v (e : Nat) (agg ifc : Bool) (size bytes : Nat) (zero : List ZC) (eq : Option (List LK)) (se : Nat) (h : HS) (id ver : Nat) (k : IntKind) (i : Int) : rIndex ⟨.slice e, agg, ifc, size, bytes, zero, eq⟩ se h (.vec id ver) (.int k i) = vIndex se h id ver i (getV h.vecs id) := rfl
theorem rIndex_a (n e : Nat) (agg ifc : Bool) (size bytes : Nat) (zero : List ZC) (eq : Option (List LK)) (se : Nat) (h : HS) (nm off : Nat) (k : IntKind) (i : Int) : rIndex ⟨.array n e, agg, ifc, size, bytes, zero, eq⟩ se h (.ptr nm off) (.int k i) = .val (0 ≤ i ∧ i < (n : Int)) (.ptr nm (off + i.toNat * se)) h := rfl
theorem rLen_r (e : Nat) (agg ifc : Bool) (size bytes : Nat) (zero : List ZC) (eq : Option (List LK)) (h : HS) (n sz : Nat) (f : Nat → Nat → SV) : rLen ⟨.slice e, agg, ifc, size, bytes, zero, eq⟩ h (.row n sz f) = .val True (.int .i64 (n : Int)) h := rfl
def vLen (h : HS) (ver : Nat) : Vc → Res
  | .live ver' _ _ n _ => .val (ver = ver') (.int .i64 (n : Int)) h
  | .dead => .bad
theorem rLen_v (e : Nat) (agg ifc : Bool) (size bytes : Nat) (zero : List ZC) (eq : Option (List LK)) (h : HS) (id ver : Nat) : rLen ⟨.slice e, agg, ifc, size, bytes, zero, eq⟩ h (.vec id ver) = vLen h ver (getV h.vecs id) := rfl
theorem rConv_i (kd : IntKind) (agg ifc : Bool) (size bytes : Nat) (zero : List ZC) (eq : Option (List LK)) (k : IntKind) (n : Int) (h : HS) : rConv ⟨.int kd, agg, ifc, size, bytes, zero, eq⟩ (.int k n) h = .val True (.int kd (kd.wrap n)) h := rfl
theorem rSlice_a (e : Nat) (agg ifc : Bool) (size bytes : Nat) (zero : List ZC) (eq : Option (List LK)) (n sz : Nat) (f : Nat → Nat → SV) (k1 : IntKind) (l : Int) (k2 : IntKind) (u : Int) (h : HS) : rSlice ⟨.slice e, agg, ifc, size, bytes, zero, eq⟩ (.row n sz f) (some (.int k1 l)) (some (.int k2 u)) h = .val (0 ≤ l ∧ l ≤ u ∧ u ≤ (n : Int)) (.row (u.toNat - l.toNat) sz (fun i j => f (l.toNat + i) j)) h := rfl
theorem rSlice_b (e : Nat) (agg ifc : Bool) (size bytes : Nat) (zero : List ZC) (eq : Option (List LK)) (n sz : Nat) (f : Nat → Nat → SV) (k1 : IntKind) (l : Int)  (h : HS) : rSlice ⟨.slice e, agg, ifc, size, bytes, zero, eq⟩ (.row n sz f) (some (.int k1 l)) (none) h = .val (0 ≤ l ∧ l ≤ (n : Int)) (.row (n - l.toNat) sz (fun i j => f (l.toNat + i) j)) h := rfl
theorem rSlice_c (e : Nat) (agg ifc : Bool) (size bytes : Nat) (zero : List ZC) (eq : Option (List LK)) (n sz : Nat) (f : Nat → Nat → SV) (k2 : IntKind) (u : Int) (h : HS) : rSlice ⟨.slice e, agg, ifc, size, bytes, zero, eq⟩ (.row n sz f) (none) (some (.int k2 u)) h = .val (0 ≤ u ∧ u ≤ (n : Int)) (.row u.toNat sz f) h := rfl
def bMv2 (o : Option TI) (e : Nat) (h : HS) : Res := match o with | some te => .val (0 < te.size) (.vec (lenV h.vecs) 0) { h with vecs := snocV h.vecs (.live 0 e te.size 0 (fun _ _ => .any)) } | none => .bad
def bMv (T : Nat → Option TI) (h : HS) : Option TI → Res
  | some { kind := .slice e, .. } => bMv2 (T e) e h
  | _ => .val True (.row 0 1 (fun _ _ => .any)) h
theorem rMove_nil (T : Nat → Option TI) (t : List SV) (h : HS) (ty : TypeId) : rMove T t h ty (.const (.slice none 0 0)) = bMv T h (T ty) := by
  rw [rMove.eq_1]; unfold bMv bMv2
  cases T ty with
  | none => rfl
  | some ti => cases ti; rename_i kk _ _ _ _ _ _; cases kk <;> rfl
theorem rMove_tmp (T : Nat → Option TI) (t : List SV) (h : HS) (ty : TypeId) (i : Nat) : rMove T t h ty (.tmp i) = .val True (nth t i) h := rfl
theorem rMove_func (T : Nat → Option TI) (t : List SV) (h : HS) (ty : TypeId) (i : Nat) : rMove T t h ty (.func i) = .val True (.func i []) h := rfl
theorem rMove_int (T : Nat → Option TI) (t : List SV) (h : HS) (ty : TypeId) (k : IntKind) (n : Int) : rMove T t h ty (.const (.int k n)) = .val True (.int k n) h := rfl
theorem svC_int (k : IntKind) (n : Int) : svC (.int k n) = .int k n := rfl
theorem rMove_bool (T : Nat → Option TI) (t : List SV) (h : HS) (ty : TypeId) (b : Bool) : rMove T t h ty (.const (.bool b)) = .val True (.bool b) h := rfl
theorem svC_bool (b : Bool) : svC (.bool b) = .bool b := rfl
theorem rMove_string (T : Nat → Option TI) (t : List SV) (h : HS) (ty : TypeId) (b : ByteArray) : rMove T t h ty (.const (.string b)) = .val True (.str b) h := rfl
theorem svC_string (b : ByteArray) : svC (.string b) = .str b := rfl
theorem rMove_nilf (T : Nat → Option TI) (t : List SV) (h : HS) (ty : TypeId) : rMove T t h ty (.const (.nilFunc)) = .val True .nilf h := rfl
theorem svC_nilf : svC (.nilFunc) = .nilf := rfl
theorem rMove_nili (T : Nat → Option TI) (t : List SV) (h : HS) (ty : TypeId) : rMove T t h ty (.const (.nilIface)) = .val True .nili h := rfl
theorem svC_nili : svC (.nilIface) = .nili := rfl
theorem rMove_nilp (T : Nat → Option TI) (t : List SV) (h : HS) (ty : TypeId) : rMove T t h ty (.const (.pointer none)) = .val True .nilp h := rfl
theorem svC_nilp : svC (.pointer none) = .nilp := rfl
theorem svC_nils : svC (.slice none 0 0) = .row 0 1 (fun _ _ => .any) := rfl
theorem rMove_agg (T : Nat → Option TI) (t : List SV) (h : HS) (ty : TypeId) (cs : Array Value) : rMove T t h ty (.const (.agg cs)) = .val True (svC (.agg cs)) h := rfl
theorem isConst_tmp (i : Nat) : isConst (.tmp i) = false := rfl
theorem isConst_func (i : Nat) : isConst (.func i) = false := rfl
theorem frzF_any (d : Nat) (h : HS) : frzF (d + 1) h SV.any = SV.any := rfl
theorem Fl1_any  : Fl1 SV.any = Sc SV.any := rfl
theorem Fl_any  : Fl SV.any = Fl1 SV.any := rfl
theorem OwnL_any (h : HS) (ty : TypeId) (x : SV) (us vs : List SV) : OwnL h ty (x :: us) (SV.any :: vs) = (x = SV.any ∧ Fl1 SV.any ∧ OwnL h ty us vs) := rfl
theorem takeL_any (M : Nat) (ty : TypeId) (vs : List SV) : takeL M ty (SV.any :: vs) = (SV.any :: (takeL M ty vs).1, (takeL M ty vs).2) := rfl
theorem OwnT_any (h : HS) (ty : TypeId) (n1 sz1 : Nat) (f1 : Nat → Nat → SV) : OwnT h ty SV.any (.row n1 sz1 f1) = IsVec h ty n1 sz1 f1 SV.any := rfl
theorem IsVec_any (h : HS) (ty : TypeId) (n1 sz1 : Nat) (f1 : Nat → Nat → SV) : IsVec h ty n1 sz1 f1 SV.any = False := rfl
theorem cellsOf_int  (k : IntKind) (n : Int) : cellsOf (SV.int k n) = some [(SV.int k n)] := rfl
theorem frzF_int (d : Nat) (h : HS) (k : IntKind) (n : Int) : frzF (d + 1) h (SV.int k n) = (SV.int k n) := rfl
theorem Fl1_int  (k : IntKind) (n : Int) : Fl1 (SV.int k n) = Sc (SV.int k n) := rfl
theorem Fl_int  (k : IntKind) (n : Int) : Fl (SV.int k n) = Fl1 (SV.int k n) := rfl
theorem OwnL_int (h : HS) (ty : TypeId) (x : SV) (us vs : List SV) (k : IntKind) (n : Int) : OwnL h ty (x :: us) ((SV.int k n) :: vs) = (x = (SV.int k n) ∧ Fl1 (SV.int k n) ∧ OwnL h ty us vs) := rfl
theorem takeL_int (M : Nat) (ty : TypeId) (vs : List SV) (k : IntKind) (n : Int) : takeL M ty ((SV.int k n) :: vs) = ((SV.int k n) :: (takeL M ty vs).1, (takeL M ty vs).2) := rfl
theorem OwnT_int (h : HS) (ty : TypeId) (k : IntKind) (n : Int) (n1 sz1 : Nat) (f1 : Nat → Nat → SV) : OwnT h ty (SV.int k n) (.row n1 sz1 f1) = IsVec h ty n1 sz1 f1 (SV.int k n) := rfl
theorem IsVec_int (h : HS) (ty : TypeId) (k : IntKind) (n : Int) (n1 sz1 : Nat) (f1 : Nat → Nat → SV) : IsVec h ty n1 sz1 f1 (SV.int k n) = False := rfl
theorem subX_int (x : SV) (k : IntKind) (n : Int) : subX x (SV.int k n) = (x = (SV.int k n)) := rfl
theorem cellsOf_bool  (b : Bool) : cellsOf (SV.bool b) = some [(SV.bool b)] := rfl
theorem frzF_bool (d : Nat) (h : HS) (b : Bool) : frzF (d + 1) h (SV.bool b) = (SV.bool b) := rfl
theorem Fl1_bool  (b : Bool) : Fl1 (SV.bool b) = Sc (SV.bool b) := rfl
theorem Fl_bool  (b : Bool) : Fl (SV.bool b) = Fl1 (SV.bool b) := rfl
theorem OwnL_bool (h : HS) (ty : TypeId) (x : SV) (us vs : List SV) (b : Bool) : OwnL h ty (x :: us) ((SV.bool b) :: vs) = (x = (SV.bool b) ∧ Fl1 (SV.bool b) ∧ OwnL h ty us vs) := rfl
theorem takeL_bool (M : Nat) (ty : TypeId) (vs : List SV) (b : Bool) : takeL M ty ((SV.bool b) :: vs) = ((SV.bool b) :: (takeL M ty vs).1, (takeL M ty vs).2) := rfl
theorem OwnT_bool (h : HS) (ty : TypeId) (b : Bool) (n1 sz1 : Nat) (f1 : Nat → Nat → SV) : OwnT h ty (SV.bool b) (.row n1 sz1 f1) = IsVec h ty n1 sz1 f1 (SV.bool b) := rfl
theorem IsVec_bool (h : HS) (ty : TypeId) (b : Bool) (n1 sz1 : Nat) (f1 : Nat → Nat → SV) : IsVec h ty n1 sz1 f1 (SV.bool b) = False := rfl
theorem subX_bool (x : SV) (b : Bool) : subX x (SV.bool b) = (x = (SV.bool b)) := rfl
theorem cellsOf_str  (s : ByteArray) : cellsOf (SV.str s) = some [(SV.str s)] := rfl
theorem frzF_str (d : Nat) (h : HS) (s : ByteArray) : frzF (d + 1) h (SV.str s) = (SV.str s) := rfl
theorem Fl1_str  (s : ByteArray) : Fl1 (SV.str s) = Sc (SV.str s) := rfl
theorem Fl_str  (s : ByteArray) : Fl (SV.str s) = Fl1 (SV.str s) := rfl
theorem OwnL_str (h : HS) (ty : TypeId) (x : SV) (us vs : List SV) (s : ByteArray) : OwnL h ty (x :: us) ((SV.str s) :: vs) = (x = (SV.str s) ∧ Fl1 (SV.str s) ∧ OwnL h ty us vs) := rfl
theorem takeL_str (M : Nat) (ty : TypeId) (vs : List SV) (s : ByteArray) : takeL M ty ((SV.str s) :: vs) = ((SV.str s) :: (takeL M ty vs).1, (takeL M ty vs).2) := rfl
theorem OwnT_str (h : HS) (ty : TypeId) (s : ByteArray) (n1 sz1 : Nat) (f1 : Nat → Nat → SV) : OwnT h ty (SV.str s) (.row n1 sz1 f1) = IsVec h ty n1 sz1 f1 (SV.str s) := rfl
theorem IsVec_str (h : HS) (ty : TypeId) (s : ByteArray) (n1 sz1 : Nat) (f1 : Nat → Nat → SV) : IsVec h ty n1 sz1 f1 (SV.str s) = False := rfl
theorem subX_str (x : SV) (s : ByteArray) : subX x (SV.str s) = (x = (SV.str s)) := rfl
theorem cellsOf_ptr  (nm : Nat) (off : Nat) : cellsOf (SV.ptr nm off) = some [(SV.ptr nm off)] := rfl
theorem Fl1_ptr  (nm : Nat) (off : Nat) : Fl1 (SV.ptr nm off) = Sc (SV.ptr nm off) := rfl
theorem Fl_ptr  (nm : Nat) (off : Nat) : Fl (SV.ptr nm off) = Fl1 (SV.ptr nm off) := rfl
theorem OwnL_ptr (h : HS) (ty : TypeId) (x : SV) (us vs : List SV) (nm : Nat) (off : Nat) : OwnL h ty (x :: us) ((SV.ptr nm off) :: vs) = (x = (SV.ptr nm off) ∧ Fl1 (SV.ptr nm off) ∧ OwnL h ty us vs) := rfl
theorem takeL_ptr (M : Nat) (ty : TypeId) (vs : List SV) (nm : Nat) (off : Nat) : takeL M ty ((SV.ptr nm off) :: vs) = ((SV.ptr nm off) :: (takeL M ty vs).1, (takeL M ty vs).2) := rfl
theorem OwnT_ptr (h : HS) (ty : TypeId) (nm : Nat) (off : Nat) (n1 sz1 : Nat) (f1 : Nat → Nat → SV) : OwnT h ty (SV.ptr nm off) (.row n1 sz1 f1) = IsVec h ty n1 sz1 f1 (SV.ptr nm off) := rfl
theorem IsVec_ptr (h : HS) (ty : TypeId) (nm : Nat) (off : Nat) (n1 sz1 : Nat) (f1 : Nat → Nat → SV) : IsVec h ty n1 sz1 f1 (SV.ptr nm off) = False := rfl
theorem subX_ptr (x : SV) (nm : Nat) (off : Nat) : subX x (SV.ptr nm off) = (x = (SV.ptr nm off)) := rfl
theorem cellsOf_nilp  : cellsOf SV.nilp = some [SV.nilp] := rfl
theorem frzF_nilp (d : Nat) (h : HS) : frzF (d + 1) h SV.nilp = SV.nilp := rfl
theorem Fl1_nilp  : Fl1 SV.nilp = Sc SV.nilp := rfl
theorem Fl_nilp  : Fl SV.nilp = Fl1 SV.nilp := rfl
theorem OwnL_nilp (h : HS) (ty : TypeId) (x : SV) (us vs : List SV) : OwnL h ty (x :: us) (SV.nilp :: vs) = (x = SV.nilp ∧ Fl1 SV.nilp ∧ OwnL h ty us vs) := rfl
theorem takeL_nilp (M : Nat) (ty : TypeId) (vs : List SV) : takeL M ty (SV.nilp :: vs) = (SV.nilp :: (takeL M ty vs).1, (takeL M ty vs).2) := rfl
theorem OwnT_nilp (h : HS) (ty : TypeId) (n1 sz1 : Nat) (f1 : Nat → Nat → SV) : OwnT h ty SV.nilp (.row n1 sz1 f1) = IsVec h ty n1 sz1 f1 SV.nilp := rfl
theorem IsVec_nilp (h : HS) (ty : TypeId) (n1 sz1 : Nat) (f1 : Nat → Nat → SV) : IsVec h ty n1 sz1 f1 SV.nilp = False := rfl
theorem subX_nilp (x : SV) : subX x SV.nilp = (x = SV.nilp) := rfl
theorem cellsOf_rptr  (sz : Nat) (f : Nat → SV) : cellsOf (SV.rptr sz f) = some [(SV.rptr sz f)] := rfl
theorem frzF_rptr (d : Nat) (h : HS) (sz : Nat) (f : Nat → SV) : frzF (d + 1) h (SV.rptr sz f) = (SV.rptr sz f) := rfl
theorem Fl1_rptr  (sz : Nat) (f : Nat → SV) : Fl1 (SV.rptr sz f) = Sc (SV.rptr sz f) := rfl
theorem Fl_rptr  (sz : Nat) (f : Nat → SV) : Fl (SV.rptr sz f) = Fl1 (SV.rptr sz f) := rfl
theorem OwnL_rptr (h : HS) (ty : TypeId) (x : SV) (us vs : List SV) (sz : Nat) (f : Nat → SV) : OwnL h ty (x :: us) ((SV.rptr sz f) :: vs) = (x = (SV.rptr sz f) ∧ Fl1 (SV.rptr sz f) ∧ OwnL h ty us vs) := rfl
theorem takeL_rptr (M : Nat) (ty : TypeId) (vs : List SV) (sz : Nat) (f : Nat → SV) : takeL M ty ((SV.rptr sz f) :: vs) = ((SV.rptr sz f) :: (takeL M ty vs).1, (takeL M ty vs).2) := rfl
theorem OwnT_rptr (h : HS) (ty : TypeId) (sz : Nat) (f : Nat → SV) (n1 sz1 : Nat) (f1 : Nat → Nat → SV) : OwnT h ty (SV.rptr sz f) (.row n1 sz1 f1) = IsVec h ty n1 sz1 f1 (SV.rptr sz f) := rfl
theorem IsVec_rptr (h : HS) (ty : TypeId) (sz : Nat) (f : Nat → SV) (n1 sz1 : Nat) (f1 : Nat → Nat → SV) : IsVec h ty n1 sz1 f1 (SV.rptr sz f) = False := rfl
theorem subX_rptr (x : SV) (sz : Nat) (f : Nat → SV) : subX x (SV.rptr sz f) = (x = (SV.rptr sz f)) := rfl
theorem cellsOf_row  (n : Nat) (sz : Nat) (f : Nat → Nat → SV) : cellsOf (SV.row n sz f) = some [(SV.row n sz f)] := rfl
theorem frzF_row (d : Nat) (h : HS) (n : Nat) (sz : Nat) (f : Nat → Nat → SV) : frzF (d + 1) h (SV.row n sz f) = (SV.row n sz f) := rfl
theorem Fl1_row  (n : Nat) (sz : Nat) (f : Nat → Nat → SV) : Fl1 (SV.row n sz f) = Sc (SV.row n sz f) := rfl
theorem Fl_row  (n : Nat) (sz : Nat) (f : Nat → Nat → SV) : Fl (SV.row n sz f) = Fl1 (SV.row n sz f) := rfl
theorem cellsOf_vec  (id : Nat) (ver : Nat) : cellsOf (SV.vec id ver) = some [(SV.vec id ver)] := rfl
theorem Fl1_vec  (id : Nat) (ver : Nat) : Fl1 (SV.vec id ver) = Sc (SV.vec id ver) := rfl
theorem Fl_vec  (id : Nat) (ver : Nat) : Fl (SV.vec id ver) = Fl1 (SV.vec id ver) := rfl
theorem OwnL_vec (h : HS) (ty : TypeId) (x : SV) (us vs : List SV) (id : Nat) (ver : Nat) : OwnL h ty (x :: us) ((SV.vec id ver) :: vs) = (x = (SV.vec id ver) ∧ Fl1 (SV.vec id ver) ∧ OwnL h ty us vs) := rfl
theorem takeL_vec (M : Nat) (ty : TypeId) (vs : List SV) (id : Nat) (ver : Nat) : takeL M ty ((SV.vec id ver) :: vs) = ((SV.vec id ver) :: (takeL M ty vs).1, (takeL M ty vs).2) := rfl
theorem OwnT_vec (h : HS) (ty : TypeId) (id : Nat) (ver : Nat) (n1 sz1 : Nat) (f1 : Nat → Nat → SV) : OwnT h ty (SV.vec id ver) (.row n1 sz1 f1) = IsVec h ty n1 sz1 f1 (SV.vec id ver) := rfl
theorem subX_vec (x : SV) (id : Nat) (ver : Nat) : subX x (SV.vec id ver) = (x = (SV.vec id ver)) := rfl
theorem cellsOf_vptr  (id : Nat) (ver : Nat) (sz : Nat) (i : Nat) (off : Nat) : cellsOf (SV.vptr id ver sz i off) = some [(SV.vptr id ver sz i off)] := rfl
theorem frzF_vptr (d : Nat) (h : HS) (id : Nat) (ver : Nat) (sz : Nat) (i : Nat) (off : Nat) : frzF (d + 1) h (SV.vptr id ver sz i off) = (SV.vptr id ver sz i off) := rfl
theorem Fl1_vptr  (id : Nat) (ver : Nat) (sz : Nat) (i : Nat) (off : Nat) : Fl1 (SV.vptr id ver sz i off) = Sc (SV.vptr id ver sz i off) := rfl
theorem Fl_vptr  (id : Nat) (ver : Nat) (sz : Nat) (i : Nat) (off : Nat) : Fl (SV.vptr id ver sz i off) = Fl1 (SV.vptr id ver sz i off) := rfl
theorem OwnL_vptr (h : HS) (ty : TypeId) (x : SV) (us vs : List SV) (id : Nat) (ver : Nat) (sz : Nat) (i : Nat) (off : Nat) : OwnL h ty (x :: us) ((SV.vptr id ver sz i off) :: vs) = (x = (SV.vptr id ver sz i off) ∧ Fl1 (SV.vptr id ver sz i off) ∧ OwnL h ty us vs) := rfl
theorem takeL_vptr (M : Nat) (ty : TypeId) (vs : List SV) (id : Nat) (ver : Nat) (sz : Nat) (i : Nat) (off : Nat) : takeL M ty ((SV.vptr id ver sz i off) :: vs) = ((SV.vptr id ver sz i off) :: (takeL M ty vs).1, (takeL M ty vs).2) := rfl
theorem OwnT_vptr (h : HS) (ty : TypeId) (id : Nat) (ver : Nat) (sz : Nat) (i : Nat) (off : Nat) (n1 sz1 : Nat) (f1 : Nat → Nat → SV) : OwnT h ty (SV.vptr id ver sz i off) (.row n1 sz1 f1) = IsVec h ty n1 sz1 f1 (SV.vptr id ver sz i off) := rfl
theorem IsVec_vptr (h : HS) (ty : TypeId) (id : Nat) (ver : Nat) (sz : Nat) (i : Nat) (off : Nat) (n1 sz1 : Nat) (f1 : Nat → Nat → SV) : IsVec h ty n1 sz1 f1 (SV.vptr id ver sz i off) = False := rfl
theorem subX_vptr (x : SV) (id : Nat) (ver : Nat) (sz : Nat) (i : Nat) (off : Nat) : subX x (SV.vptr id ver sz i off) = (x = (SV.vptr id ver sz i off)) := rfl
theorem cellsOf_func  (g : Nat) (caps : List SV) : cellsOf (SV.func g caps) = some [(SV.func g caps)] := rfl
theorem frzF_func (d : Nat) (h : HS) (g : Nat) (caps : List SV) : frzF (d + 1) h (SV.func g caps) = (SV.func g caps) := rfl
theorem Fl1_func  (g : Nat) (caps : List SV) : Fl1 (SV.func g caps) = Sc (SV.func g caps) := rfl
theorem Fl_func  (g : Nat) (caps : List SV) : Fl (SV.func g caps) = Fl1 (SV.func g caps) := rfl
theorem OwnL_func (h : HS) (ty : TypeId) (x : SV) (us vs : List SV) (g : Nat) (caps : List SV) : OwnL h ty (x :: us) ((SV.func g caps) :: vs) = (x = (SV.func g caps) ∧ Fl1 (SV.func g caps) ∧ OwnL h ty us vs) := rfl
theorem takeL_func (M : Nat) (ty : TypeId) (vs : List SV) (g : Nat) (caps : List SV) : takeL M ty ((SV.func g caps) :: vs) = ((SV.func g caps) :: (takeL M ty vs).1, (takeL M ty vs).2) := rfl
theorem OwnT_func (h : HS) (ty : TypeId) (g : Nat) (caps : List SV) (n1 sz1 : Nat) (f1 : Nat → Nat → SV) : OwnT h ty (SV.func g caps) (.row n1 sz1 f1) = IsVec h ty n1 sz1 f1 (SV.func g caps) := rfl
theorem IsVec_func (h : HS) (ty : TypeId) (g : Nat) (caps : List SV) (n1 sz1 : Nat) (f1 : Nat → Nat → SV) : IsVec h ty n1 sz1 f1 (SV.func g caps) = False := rfl
theorem subX_func (x : SV) (g : Nat) (caps : List SV) : subX x (SV.func g caps) = (x = (SV.func g caps)) := rfl
theorem cellsOf_nilf  : cellsOf SV.nilf = some [SV.nilf] := rfl
theorem frzF_nilf (d : Nat) (h : HS) : frzF (d + 1) h SV.nilf = SV.nilf := rfl
theorem Fl1_nilf  : Fl1 SV.nilf = Sc SV.nilf := rfl
theorem Fl_nilf  : Fl SV.nilf = Fl1 SV.nilf := rfl
theorem OwnL_nilf (h : HS) (ty : TypeId) (x : SV) (us vs : List SV) : OwnL h ty (x :: us) (SV.nilf :: vs) = (x = SV.nilf ∧ Fl1 SV.nilf ∧ OwnL h ty us vs) := rfl
theorem takeL_nilf (M : Nat) (ty : TypeId) (vs : List SV) : takeL M ty (SV.nilf :: vs) = (SV.nilf :: (takeL M ty vs).1, (takeL M ty vs).2) := rfl
theorem OwnT_nilf (h : HS) (ty : TypeId) (n1 sz1 : Nat) (f1 : Nat → Nat → SV) : OwnT h ty SV.nilf (.row n1 sz1 f1) = IsVec h ty n1 sz1 f1 SV.nilf := rfl
theorem IsVec_nilf (h : HS) (ty : TypeId) (n1 sz1 : Nat) (f1 : Nat → Nat → SV) : IsVec h ty n1 sz1 f1 SV.nilf = False := rfl
theorem subX_nilf (x : SV) : subX x SV.nilf = (x = SV.nilf) := rfl
theorem cellsOf_iface  (t : TypeId) (v : SV) : cellsOf (SV.iface t v) = some [(SV.iface t v)] := rfl
theorem frzF_iface (d : Nat) (h : HS) (t : TypeId) (v : SV) : frzF (d + 1) h (SV.iface t v) = (SV.iface t v) := rfl
theorem Fl1_iface  (t : TypeId) (v : SV) : Fl1 (SV.iface t v) = Sc (SV.iface t v) := rfl
theorem Fl_iface  (t : TypeId) (v : SV) : Fl (SV.iface t v) = Fl1 (SV.iface t v) := rfl
theorem OwnL_iface (h : HS) (ty : TypeId) (x : SV) (us vs : List SV) (t : TypeId) (v : SV) : OwnL h ty (x :: us) ((SV.iface t v) :: vs) = (x = (SV.iface t v) ∧ Fl1 (SV.iface t v) ∧ OwnL h ty us vs) := rfl
theorem takeL_iface (M : Nat) (ty : TypeId) (vs : List SV) (t : TypeId) (v : SV) : takeL M ty ((SV.iface t v) :: vs) = ((SV.iface t v) :: (takeL M ty vs).1, (takeL M ty vs).2) := rfl
theorem OwnT_iface (h : HS) (ty : TypeId) (t : TypeId) (v : SV) (n1 sz1 : Nat) (f1 : Nat → Nat → SV) : OwnT h ty (SV.iface t v) (.row n1 sz1 f1) = IsVec h ty n1 sz1 f1 (SV.iface t v) := rfl
theorem IsVec_iface (h : HS) (ty : TypeId) (t : TypeId) (v : SV) (n1 sz1 : Nat) (f1 : Nat → Nat → SV) : IsVec h ty n1 sz1 f1 (SV.iface t v) = False := rfl
theorem subX_iface (x : SV) (t : TypeId) (v : SV) : subX x (SV.iface t v) = (x = (SV.iface t v)) := rfl
theorem cellsOf_nili  : cellsOf SV.nili = some [SV.nili] := rfl
theorem frzF_nili (d : Nat) (h : HS) : frzF (d + 1) h SV.nili = SV.nili := rfl
theorem Fl1_nili  : Fl1 SV.nili = Sc SV.nili := rfl
theorem Fl_nili  : Fl SV.nili = Fl1 SV.nili := rfl
theorem OwnL_nili (h : HS) (ty : TypeId) (x : SV) (us vs : List SV) : OwnL h ty (x :: us) (SV.nili :: vs) = (x = SV.nili ∧ Fl1 SV.nili ∧ OwnL h ty us vs) := rfl
theorem takeL_nili (M : Nat) (ty : TypeId) (vs : List SV) : takeL M ty (SV.nili :: vs) = (SV.nili :: (takeL M ty vs).1, (takeL M ty vs).2) := rfl
theorem OwnT_nili (h : HS) (ty : TypeId) (n1 sz1 : Nat) (f1 : Nat → Nat → SV) : OwnT h ty SV.nili (.row n1 sz1 f1) = IsVec h ty n1 sz1 f1 SV.nili := rfl
theorem IsVec_nili (h : HS) (ty : TypeId) (n1 sz1 : Nat) (f1 : Nat → Nat → SV) : IsVec h ty n1 sz1 f1 SV.nili = False := rfl
theorem subX_nili (x : SV) : subX x SV.nili = (x = SV.nili) := rfl
theorem Fl_agg  (l : List SV) : Fl (SV.agg l) = Fl1 (SV.agg l) := rfl
theorem OwnL_agg (h : HS) (ty : TypeId) (x : SV) (us vs : List SV) (l : List SV) : OwnL h ty (x :: us) ((SV.agg l) :: vs) = (x = (SV.agg l) ∧ Fl1 (SV.agg l) ∧ OwnL h ty us vs) := rfl
theorem takeL_agg (M : Nat) (ty : TypeId) (vs : List SV) (l : List SV) : takeL M ty ((SV.agg l) :: vs) = ((SV.agg l) :: (takeL M ty vs).1, (takeL M ty vs).2) := rfl
theorem OwnT_agg (h : HS) (ty : TypeId) (l : List SV) (n1 sz1 : Nat) (f1 : Nat → Nat → SV) : OwnT h ty (SV.agg l) (.row n1 sz1 f1) = IsVec h ty n1 sz1 f1 (SV.agg l) := rfl
theorem IsVec_agg (h : HS) (ty : TypeId) (l : List SV) (n1 sz1 : Nat) (f1 : Nat → Nat → SV) : IsVec h ty n1 sz1 f1 (SV.agg l) = False := rfl
theorem subX_agg (x : SV) (l : List SV) : subX x (SV.agg l) = (x = (SV.agg l)) := rfl
theorem frzF_tup (d : Nat) (h : HS) (l : List SV) : frzF (d + 1) h (SV.tup l) = (SV.tup l) := rfl
theorem OwnL_tup (h : HS) (ty : TypeId) (x : SV) (us vs : List SV) (l : List SV) : OwnL h ty (x :: us) ((SV.tup l) :: vs) = (x = (SV.tup l) ∧ Fl1 (SV.tup l) ∧ OwnL h ty us vs) := rfl
theorem takeL_tup (M : Nat) (ty : TypeId) (vs : List SV) (l : List SV) : takeL M ty ((SV.tup l) :: vs) = ((SV.tup l) :: (takeL M ty vs).1, (takeL M ty vs).2) := rfl
theorem IsVec_tup (h : HS) (ty : TypeId) (l : List SV) (n1 sz1 : Nat) (f1 : Nat → Nat → SV) : IsVec h ty n1 sz1 f1 (SV.tup l) = False := rfl
theorem subX_tup (x : SV) (l : List SV) : subX x (SV.tup l) = (x = (SV.tup l)) := rfl
theorem cellsOf_yield  (nm : Nat) : cellsOf (SV.yield nm) = some [(SV.yield nm)] := rfl
theorem frzF_yield (d : Nat) (h : HS) (nm : Nat) : frzF (d + 1) h (SV.yield nm) = (SV.yield nm) := rfl
theorem Fl1_yield  (nm : Nat) : Fl1 (SV.yield nm) = Sc (SV.yield nm) := rfl
theorem Fl_yield  (nm : Nat) : Fl (SV.yield nm) = Fl1 (SV.yield nm) := rfl
theorem OwnL_yield (h : HS) (ty : TypeId) (x : SV) (us vs : List SV) (nm : Nat) : OwnL h ty (x :: us) ((SV.yield nm) :: vs) = (x = (SV.yield nm) ∧ Fl1 (SV.yield nm) ∧ OwnL h ty us vs) := rfl
theorem takeL_yield (M : Nat) (ty : TypeId) (vs : List SV) (nm : Nat) : takeL M ty ((SV.yield nm) :: vs) = ((SV.yield nm) :: (takeL M ty vs).1, (takeL M ty vs).2) := rfl
theorem OwnT_yield (h : HS) (ty : TypeId) (nm : Nat) (n1 sz1 : Nat) (f1 : Nat → Nat → SV) : OwnT h ty (SV.yield nm) (.row n1 sz1 f1) = IsVec h ty n1 sz1 f1 (SV.yield nm) := rfl
theorem IsVec_yield (h : HS) (ty : TypeId) (nm : Nat) (n1 sz1 : Nat) (f1 : Nat → Nat → SV) : IsVec h ty n1 sz1 f1 (SV.yield nm) = False := rfl
theorem subX_yield (x : SV) (nm : Nat) : subX x (SV.yield nm) = (x = (SV.yield nm)) := rfl
theorem subBk_loop (x : Blk) (st : LoopState) (pend : Option Code) (fid : Nat) (t : List SV) (params : Array Nat) (assign body : Code) : subBk x (.loop st pend fid t params assign body) = (x = .loop st pend fid t params assign body) := rfl
theorem wantS_tf (C : Ctx) (R R0 : Rn) (o : Oper) (fid : Nat) (ops : Array Oper) (i : Nat) (idx : List Nat) (k : List It) (t : List SV) (fs : List Fr) (h : HS) (Q : Out → HS → Prop) : wantS C R R0 true false o fid ops i idx k t fs h Q = R fid (.reg ops idx :: k) (put t o.dst (.tup [])) fs h Q := rfl
theorem gateW_tf (C : Ctx) (R0 : Rn) (X : List SV → SV → HS → Prop) (q : Bool) (o : Oper) (S : List SV → HS → Prop) (t : List SV) (h : HS) : gateW C R0 X true false q o S t h = S (put t o.dst (.tup [])) h := rfl
theorem reW_tf (r : Option (Prop × SV)) (dst : Option Nat) (t : List SV) : reW true false r dst t = True := rfl
theorem wantS_ft (C : Ctx) (R R0 : Rn) (o : Oper) (fid : Nat) (ops : Array Oper) (i : Nat) (idx : List Nat) (k : List It) (t : List SV) (fs : List Fr) (h : HS) (Q : Out → HS → Prop) : wantS C R R0 false true o fid ops i idx k t fs h Q = R fid (.reg ops idx :: k) (put t o.dst (.tup [])) fs h Q := rfl
theorem gateW_ft (C : Ctx) (R0 : Rn) (X : List SV → SV → HS → Prop) (q : Bool) (o : Oper) (S : List SV → HS → Prop) (t : List SV) (h : HS) : gateW C R0 X false true q o S t h = S (put t o.dst (.tup [])) h := rfl
theorem reW_ft (r : Option (Prop × SV)) (dst : Option Nat) (t : List SV) : reW false true r dst t = True := rfl
theorem oneR_0 : oneR [] = .tup [] := rfl
theorem oneR_2 (x y : SV) (l : List SV) : oneR (x :: y :: l) = .tup (x :: y :: l) := rfl
theorem zipPut_0 (t : List SV) (l : List SV) : zipPut t [] l = t := by cases t <;> cases l <;> rfl
theorem zipPut_1 (t : List SV) (p : Nat) (ps : List Nat) : zipPut t (p :: ps) [] = t := by cases t <;> rfl
theorem rBS_s (e : TypeId) (te : TI) (n : Nat) (ps : List (Nat × SV)) (h : HS) : rBuildSlice e te (n + 1) ps h = fin3 (fillS (placeA te.size) ps (repZ (zcs te.zero) (n + 1))) (n + 1) te.size h := rfl
theorem rLoad_ptr (ti : TI) (h : HS) (nm off : Nat) : rLoad ti h (.ptr nm off) = bLoad ti h off (getB h.blks nm) := by rw [rLoad.eq_1]; cases getB h.blks nm <;> rfl
theorem rLoad_vptr (ti : TI) (h : HS) (id ver sz i off : Nat) : rLoad ti h (.vptr id ver sz i off) = vLoad ti h ver sz i off (getV h.vecs id) := by rw [rLoad.eq_3]; cases getV h.vecs id <;> rfl
theorem frzF_vec (d : Nat) (h : HS) (id ver : Nat) : frzF (d + 1) h (.vec id ver) = frzV (frzF d h) ver (getV h.vecs id) := rfl
theorem frzF_ptr (d : Nat) (h : HS) (nm off : Nat) : frzF (d + 1) h (.ptr nm off) = frzB (frzF d h) off (getB h.blks nm) := rfl
theorem frzF_agg (d : Nat) (h : HS) (l : List SV) : frzF (d + 1) h (.agg l) = .agg (mapF (frzF d h) l) := rfl
theorem Fl1_agg (l : List SV) : Fl1 (.agg l) = ScL l := rfl
theorem Fl_tup (l : List SV) : Fl (.tup l) = FlL l := rfl
theorem OwnT_tup (h : HS) (ty : TypeId) (us vs : List SV) : OwnT h ty (.tup us) (.tup vs) = OwnL h ty us vs := rfl
theorem OwnL_row (h : HS) (ty : TypeId) (u : SV) (us vs : List SV) (n sz : Nat) (f : Nat → Nat → SV) : OwnL h ty (u :: us) (.row n sz f :: vs) = (IsVec h ty n sz f u ∧ us = vs ∧ FlL vs) := rfl
theorem IsVec_vec (h : HS) (ty : TypeId) (n sz : Nat) (f : Nat → Nat → SV) (id ver : Nat) : IsVec h ty n sz f (.vec id ver) = VcIs ver ty n sz f (getV h.vecs id) := rfl
theorem takeL_row (M : Nat) (ty : TypeId) (vs : List SV) (n sz : Nat) (f : Nat → Nat → SV) : takeL M ty (.row n sz f :: vs) = (.vec M 0 :: vs, .live 0 ty sz n f) := rfl
theorem takeT_row (M : Nat) (ty : TypeId) (n sz : Nat) (f : Nat → Nat → SV) : takeT M ty (.row n sz f) = (.vec M 0, .live 0 ty sz n f) := rfl
theorem takeT_tup (M : Nat) (ty : TypeId) (l : List SV) : takeT M ty (.tup l) = (.tup (takeL M ty l).1, (takeL M ty l).2) := rfl
theorem mapS_1 (f : BaseF) (x : Option (Nat × BaseF)) : mapS (some f) x = some (lendS f) := rfl
theorem mapS_2 (ty : Nat) (f : BaseF) : mapS none (some (ty, f)) = some (lendO ty f) := rfl
theorem mapS_3 : mapS none none = none := rfl
theorem rStN_f (T : Nat → Option TI) (h : HS) (ti : TI) (x y : SV) : rStoreN T h ti x false y = rStore ti h x y := rfl
def oStN (o : Option TI) (e : Nat) (h : HS) (ti : TI) (x : SV) : Res := match o with
  | some te => skipAnd (0 < te.size) (rStore ti { h with vecs := snocV h.vecs (.live 0 e te.size 0 (fun _ _ => .any)) } x (.vec (lenV h.vecs) 0))
  | none => .bad
theorem rStN_t (T : Nat → Option TI) (h : HS) (e : Nat) (agg ifc : Bool) (size bytes : Nat) (zero : List ZC) (eq : Option (List LK)) (x y : SV) : rStoreN T h ⟨.slice e, agg, ifc, size, bytes, zero, eq⟩ x true y = oStN (T e) e h ⟨.slice e, agg, ifc, size, bytes, zero, eq⟩ x := rfl
theorem isNil_tmp (i : Nat) : isNilSl (.tmp i) = false := rfl
theorem isNil_func (i : Nat) : isNilSl (.func i) = false := rfl
theorem isNil_nil : isNilSl (.const (.slice none 0 0)) = true := rfl
theorem isNil_int (k : IntKind) (n : Int) : isNilSl (.const (.int k n)) = false := rfl
theorem isNil_bool (b : Bool) : isNilSl (.const (.bool b)) = false := rfl
theorem isNil_string (b : ByteArray) : isNilSl (.const (.string b)) = false := rfl
theorem isNil_nilf  : isNilSl (.const (.nilFunc)) = false := rfl
theorem isNil_nili  : isNilSl (.const (.nilIface)) = false := rfl
theorem isNil_nilp  : isNilSl (.const (.pointer none)) = false := rfl
theorem isNil_agg (cs : Array Value) : isNilSl (.const (.agg cs)) = false := rfl
theorem intR_lit (n sz : Nat) (z : Nat → Nat → Int) : IntR n sz (fun i j => .int .i64 (z i j)) = True := eq_true fun _ _ _ _ => rfl
theorem intK_lit (k : IntKind) (n sz : Nat) (z : Nat → Nat → Int) : IntK k n sz (fun i j => .int k (z i j)) = True := eq_true fun _ _ _ _ => rfl
theorem rBuiltin_rec (T : Nat → Option TI) (h : HS) : rBuiltin T h .recover [] [] = .bad := rfl
theorem rowSz_vec (id ver : Nat) : rowSz (.vec id ver) = 0 := rfl
theorem iv_int (k : IntKind) (n : Int) : iv (.int k n) = n := rfl
attribute [go_sem] run.eq_1 run.eq_2 run.eq_3 run.eq_4 run.eq_5 run.eq_6 run.eq_7 run.eq_8 run.eq_9 run.eq_10 run.eq_11 run.eq_12 run.eq_13 run.eq_14 run.eq_15 run.eq_16 run.eq_17 run.eq_18 run.eq_19 run.eq_20 run.eq_21 leaveS.eq_2 leaveS.eq_3 condS.eq_1 exitS.eq_1 exitS.eq_2 retS.eq_1 retS.eq_2 popS.eq_1 popS.eq_3 endRS.eq_1 beginRS.eq_2 endRngS.eq_1 endRngS.eq_2 endRngS.eq_3 rngS.eq_1 rngGo.eq_2 roundS.eq_1 roundS.eq_2 specS.eq_1 specS.eq_2 inlS.eq_2 goS.eq_1 goS.eq_2 goS.eq_3 execS.eq_1 execS.eq_2 execS.eq_3 execS.eq_4 execS.eq_5 execS.eq_6 wantS.eq_1 wantS.eq_2 guardS.eq_1 guard1.eq_1 opS.eq_1 opS.eq_2 opS.eq_3 getO.eq_1 getO.eq_2 getO.eq_3 upto.eq_1 upto.eq_2 put.eq_1 put.eq_2 exitI.eq_1 exitI.eq_2 exitI.eq_3 exitI.eq_4 exitI.eq_5 exitI.eq_6 exitI.eq_7 exitI.eq_8 exitI.eq_9 rnd.eq_1 rnd.eq_2 rnd.eq_3 rnd.eq_4 rnd.eq_5 rnd.eq_6 rnd.eq_7 rnd.eq_8 rnd.eq_9 resL.eq_1 oneR.eq_1 outK.eq_1 outK.eq_2 panQ.eq_1 panQ.eq_2 stopQ.eq_1 stopQ.eq_2 resQ.eq_1 rBin2.eq_1 rBin2.eq_2 rBin2.eq_4 rBin2.eq_6 rBin2.eq_8 rBin.eq_1 rBin.eq_2 rBin.eq_3 rBin.eq_4 rBin.eq_5 rBin.eq_6 rBin.eq_7 rBin.eq_8 rBin.eq_9 rBin.eq_10 rBin.eq_11 rBin.eq_12 rEqA.eq_1 rEqA.eq_2 rEqB.eq_2 rEqI.eq_1 rEqI.eq_2 neO.eq_1 neO.eq_2 eqS.eq_1 eqS.eq_2 isConst.eq_1 ev.eq_1 ev.eq_2 ev.eq_3 ev.eq_4 svC.eq_1 svS.eq_1 svS.eq_2 svS.eq_3 svS.eq_4 svS.eq_5 svS.eq_6 svS.eq_7 svL.eq_1 svL.eq_2 nth.eq_1 nth.eq_2 nth.eq_3 upd.eq_1 upd.eq_2 upd.eq_3 takeN.eq_1 takeN.eq_2 takeN.eq_3 dropN.eq_1 dropN.eq_2 dropN.eq_3 over.eq_1 over.eq_2 ofCells.eq_1 rLoad.eq_2 nthO.eq_1 nthO.eq_2 nthO.eq_3 rUn.eq_1 rUn.eq_2 rMax.eq_1 rMin.eq_1 zeroS.eq_1 zeroS.eq_2 zeroS.eq_3 rAlloc.eq_1 zc1.eq_1 zc1.eq_2 zcs.eq_1 zcs.eq_2 fillS.eq_1 placeS.eq_1 placeA.eq_1 evP.eq_1 evP.eq_2 fin2.eq_1 fin2.eq_2 repZ.eq_1 repZ.eq_2 cellAt.eq_1 oneF.eq_1 fin3.eq_1 fin3.eq_2 rBuildSlice.eq_1 rIface.eq_1 rExtract.eq_1 zeroV.eq_1 rAssert.eq_1 evL.eq_1 evL.eq_2 catS.eq_1 catS.eq_2 pk.eq_1 pk.eq_2 rPick.eq_1 rNil.eq_1 rNil.eq_2 rNil.eq_3 rNil.eq_4 zipPut.eq_1 rCall.eq_1 rFunc.eq_1 rBuiltin.eq_2 rBuiltin.eq_3 rBuiltin.eq_4 rPanic.eq_1 evO.eq_1 evO.eq_2 rowSz.eq_1 cellsOf.eq_1 cellsOf.eq_2 cellsOf.eq_3 lenS.eq_1 lenS.eq_2 cellsF.eq_1 cellsF.eq_2 getB.eq_1 getB.eq_2 getB.eq_3 setB.eq_1 setB.eq_2 setB.eq_3 snocB.eq_1 snocB.eq_2 lenB.eq_1 lenB.eq_2 getV.eq_1 getV.eq_2 getV.eq_3 setV.eq_1 setV.eq_2 setV.eq_3 snocV.eq_1 snocV.eq_2 lenV.eq_1 lenV.eq_2 lookG.eq_1 lookG.eq_2 lookP.eq_1 lookP.eq_2 memN.eq_1 memN.eq_2 lendS.eq_1 frzA.eq_1 frzA.eq_2 frzV.eq_1 lookS.eq_1 lookS.eq_2 numb.eq_1 numb.eq_2 qGo.eq_1 qGo.eq_2 nestS.eq_2 lCall.eq_1 lCall.eq_2 lCall.eq_3 lGo.eq_1 lGo.eq_2 lGo.eq_3 goP.eq_1 goP.eq_2 gateW.eq_1 gateW.eq_2 gateG.eq_1 gate.eq_1 gate.eq_3 thenS.eq_1 planS.eq_1 planS.eq_2 planS.eq_3 planS.eq_4 drawS.eq_1 drawS.eq_2 reS1.eq_1 reS1.eq_2 reS1.eq_3 reW.eq_1 reW.eq_2 reG.eq_1 reO.eq_1 reO.eq_3 reA.eq_1 reA.eq_2 keepN.eq_1 keepN.eq_2 subX.eq_1 subX.eq_2 subBk.eq_1 subBk.eq_2 subB.eq_1 subB.eq_2 subB.eq_3 subVk.eq_1 subVk.eq_2 subVk.eq_3 subV.eq_1 subV.eq_2 subV.eq_3 subAs.eq_1 subAs.eq_2 bdAs.eq_1 bdAs.eq_2 bdB.eq_1 bdB.eq_2 bdB.eq_3 bdB.eq_4 bdV.eq_1 bdV.eq_2 bdV.eq_3 Bd.eq_1 Bd.eq_2 Bd.eq_3 Bd.eq_4 Bd.eq_5 Bd.eq_6 Bd.eq_7 Bd.eq_8 Bd.eq_9 Bd.eq_10 Bd.eq_11 Bd.eq_12 Bd.eq_13 Bd.eq_14 Bd.eq_15 Bd.eq_16 Bd.eq_17 BdL.eq_1 BdL.eq_2 slots.eq_1 slots.eq_2 slots.eq_3 resK.eq_1 resK.eq_4 dfrQ.eq_1 dfrOp.eq_1 dfrGo.eq_1 endQ.eq_1 resultQ.eq_2 rcvQ.eq_1 rcvOp.eq_1 rcvEnd.eq_1 gotS.eq_1 gotS.eq_2 noInv.eq_1 noInv.eq_2 noInv.eq_3 noInv.eq_4 noInv.eq_5 noInv.eq_6 noInv.eq_7 noInv.eq_8 noInv.eq_9 updF.eq_1 Sc.eq_1 Sc.eq_2 Sc.eq_3 Sc.eq_4 Sc.eq_5 Sc.eq_6 Sc.eq_7 ScL.eq_1 ScL.eq_2 guardS.eq_2 gateG.eq_2 reG.eq_2 subL.eq_1 subL.eq_2 leaveS.eq_1 popS.eq_2 popR.eq_1 beginRS.eq_1 rngGo.eq_1 inlS.eq_1 resL.eq_2 resL.eq_3 resQ.eq_2 rEqB.eq_1 eqS.eq_3 rStore.eq_1 rField.eq_1 rBox.eq_1 fillS.eq_2 rAppend.eq_1 rCall.eq_2 rBuiltin.eq_1 nestS.eq_1 gate.eq_2 reO.eq_2 resK.eq_2 resK.eq_3 resultQ.eq_1 nth_setL upd_setL cx_P cx_T cx_F cx_FN cx_inl cx_G cx_plan cx_D cx_off if_true if_false eq_self decide_true decide_false Bool.true_and Bool.and_true Bool.false_and Bool.and_false Bool.or_false Bool.false_or Bool.or_true Bool.true_or Bool.not_true Bool.not_false true_and and_true and_self Int.toNat_natCast Nat.zero_add Option.isNone_none Option.isSome_some List.toList_toArray List.length_cons List.length_nil List.append_nil List.cons_append List.nil_append opRes_move opRes_assign opRes_pick opRes_alloc opRes_box opRes_build opRes_buildSlice opRes_load opRes_store opRes_nilCheck opRes_binOp opRes_unOp opRes_convert opRes_makeInterface opRes_makeFunc opRes_slice opRes_fieldAddr opRes_indexAddr opRes_typeAssert opRes_extract opRes_call opRes_callB opRes_panic opRes_defer oAlloc.eq_1 oBuildA.eq_1 oBuildSl.eq_1 oBuildSl2.eq_1 oLoad.eq_1 oStore.eq_1 oConv.eq_1 oIface.eq_1 oSlice2.eq_1 oField.eq_1 oIndex2.eq_1 oAssert.eq_1 oBuild_a oBuild_s rBuild_a rBuild_s oSlice_s oIndex_s oIndex_a rIndex_r vIndex.eq_1 rIndex_v rIndex_a rLen_r vLen.eq_1 rLen_v rConv_i rSlice_a rSlice_b rSlice_c bMv2.eq_1 bMv.eq_1 rMove_nil rMove_tmp rMove_func rMove_int svC_int rMove_bool svC_bool rMove_string svC_string rMove_nilf svC_nilf rMove_nili svC_nili rMove_nilp svC_nilp svC_nils rMove_agg isConst_tmp isConst_func frzF_any Fl1_any Fl_any OwnL_any takeL_any OwnT_any IsVec_any cellsOf_int frzF_int Fl1_int Fl_int OwnL_int takeL_int OwnT_int IsVec_int subX_int cellsOf_bool frzF_bool Fl1_bool Fl_bool OwnL_bool takeL_bool OwnT_bool IsVec_bool subX_bool cellsOf_str frzF_str Fl1_str Fl_str OwnL_str takeL_str OwnT_str IsVec_str subX_str cellsOf_ptr Fl1_ptr Fl_ptr OwnL_ptr takeL_ptr OwnT_ptr IsVec_ptr subX_ptr cellsOf_nilp frzF_nilp Fl1_nilp Fl_nilp OwnL_nilp takeL_nilp OwnT_nilp IsVec_nilp subX_nilp cellsOf_rptr frzF_rptr Fl1_rptr Fl_rptr OwnL_rptr takeL_rptr OwnT_rptr IsVec_rptr subX_rptr cellsOf_row frzF_row Fl1_row Fl_row cellsOf_vec Fl1_vec Fl_vec OwnL_vec takeL_vec OwnT_vec subX_vec cellsOf_vptr frzF_vptr Fl1_vptr Fl_vptr OwnL_vptr takeL_vptr OwnT_vptr IsVec_vptr subX_vptr cellsOf_func frzF_func Fl1_func Fl_func OwnL_func takeL_func OwnT_func IsVec_func subX_func cellsOf_nilf frzF_nilf Fl1_nilf Fl_nilf OwnL_nilf takeL_nilf OwnT_nilf IsVec_nilf subX_nilf cellsOf_iface frzF_iface Fl1_iface Fl_iface OwnL_iface takeL_iface OwnT_iface IsVec_iface subX_iface cellsOf_nili frzF_nili Fl1_nili Fl_nili OwnL_nili takeL_nili OwnT_nili IsVec_nili subX_nili Fl_agg OwnL_agg takeL_agg OwnT_agg IsVec_agg subX_agg frzF_tup OwnL_tup takeL_tup IsVec_tup subX_tup cellsOf_yield frzF_yield Fl1_yield Fl_yield OwnL_yield takeL_yield OwnT_yield IsVec_yield subX_yield subBk_loop wantS_tf gateW_tf reW_tf wantS_ft gateW_ft reW_ft oneR_0 oneR_2 zipPut_0 zipPut_1 rBS_s rLoad_ptr rLoad_vptr bLoad.eq_1 vLoad.eq_1 frzF_vec frzF_ptr frzF_agg Fl1_agg Fl_tup OwnT_tup OwnL_row IsVec_vec takeL_row takeT_row takeT_tup VcIs.eq_1 mapF.eq_1 mapF.eq_2 frzB.eq_1 lendR.eq_1 lendO.eq_1 lendRO.eq_1 quietR.eq_1 aGo.eq_1 lookO.eq_1 lookO.eq_2 FlL.eq_1 FlL.eq_2 retQ retO frzF_ite skipAnd.eq_1 mapS_1 mapS_2 mapS_3 rStN_f oStN.eq_1 rStN_t isNil_tmp isNil_func isNil_nil isNil_int isNil_bool isNil_string isNil_nilf isNil_nili isNil_nilp isNil_agg intR_lit intK_lit rBuiltin_rec rowSz_vec iv_int
attribute [go_sem ↓] cat_setL spl_true spl_false
end Go.Eng
end

/- Ways through the regions whose order is drawn. -/
section
namespace Go.Eng
def p4_8 : Plan := .quiet 0 (.quiet 1 (.quiet 2 (.quiet 3 (.quiet 4 (.quiet 5 (.quiet 6 (.quiet 7 (.quiet 8 (.quiet 9 (.quiet 10 (.quiet 11 (.quiet 14 (.quiet 15 (.quiet 16 (.quiet 17 (.quiet 18 (.quiet 19 (.quiet 20 (.quiet 21 (.quiet 22 (.quiet 23 (.quiet 24 (.quiet 25 (.loud 12 [0, 1, 14, 15, 16, 17, 22, 24, 25] (.loud 13 [14, 15, 16, 17, 22, 24, 25] (.quiet 26 (.loud 27 [14, 15] (.loud 28 [] (.quiet 29 (.loud 30 [] (.quiet 31 (.loud 32 [] (.done)))))))))))))))))))))))))))))))))
def p4_29 : Plan := .quiet 0 (.quiet 1 (.quiet 2 (.quiet 3 (.quiet 4 (.quiet 5 (.quiet 6 (.quiet 7 (.quiet 8 (.quiet 9 (.quiet 10 (.quiet 11 (.quiet 12 (.quiet 13 (.quiet 14 (.quiet 15 (.quiet 16 (.quiet 17 (.quiet 18 (.quiet 19 (.quiet 20 (.quiet 21 (.quiet 22 (.quiet 23 (.quiet 24 (.quiet 25 (.quiet 26 (.quiet 27 (.quiet 28 (.quiet 29 (.quiet 30 (.quiet 31 (.done))))))))))))))))))))))))))))))))
def p5_13 : Plan := .quiet 0 (.quiet 1 (.quiet 2 (.quiet 3 (.quiet 4 (.quiet 6 (.quiet 7 (.quiet 8 (.quiet 9 (.quiet 14 (.quiet 15 (.quiet 16 (.quiet 17 (.quiet 18 (.quiet 20 (.quiet 21 (.quiet 22 (.quiet 23 (.loud 5 [7, 8, 9, 16, 17, 18, 21, 22, 23] (.loud 10 [16, 17, 18, 21, 22, 23] (.quiet 11 (.loud 12 [16, 17, 18, 21, 22, 23] (.loud 13 [16, 17, 18, 21, 22, 23] (.loud 19 [21, 22, 23] (.loud 24 [] (.quiet 25 (.loud 26 [] (.loud 27 [] (.quiet 28 (.quiet 29 (.done))))))))))))))))))))))))))))))
def p5_19 : Plan := .quiet 0 (.quiet 1 (.both (.loud 2 [0, 1] (.loud 3 [0, 1] (.loud 4 [1] (.loud 5 [] (.done))))) (.loud 3 [0, 1] (.loud 2 [0, 1] (.loud 4 [1] (.loud 5 [] (.done)))))))
def p5_25 : Plan := .quiet 0 (.quiet 1 (.quiet 2 (.quiet 3 (.quiet 5 (.quiet 6 (.quiet 7 (.quiet 8 (.loud 4 [6, 7, 8] (.quiet 10 (.loud 9 [10] (.loud 11 [] (.quiet 12 (.loud 13 [] (.done))))))))))))))
def p5_21 : Plan := .quiet 0 (.quiet 1 (.quiet 2 (.quiet 3 (.quiet 5 (.quiet 6 (.quiet 7 (.quiet 8 (.loud 4 [6, 7, 8] (.quiet 10 (.loud 9 [10] (.loud 11 [] (.quiet 12 (.loud 13 [] (.done))))))))))))))
def p5_26 : Plan := .quiet 0 (.quiet 1 (.quiet 4 (.quiet 5 (.both (.loud 2 [5] (.both (.loud 3 [5] (.loud 6 [] (.loud 7 [] (.quiet 8 (.quiet 9 (.done)))))) (.loud 6 [] (.loud 3 [] (.loud 7 [] (.quiet 8 (.quiet 9 (.done)))))))) (.loud 6 [1] (.loud 2 [] (.loud 3 [] (.loud 7 [] (.quiet 8 (.quiet 9 (.done)))))))))))
def p5_35 : Plan := .quiet 0 (.quiet 1 (.quiet 2 (.quiet 3 (.quiet 4 (.quiet 5 (.quiet 6 (.quiet 7 (.quiet 8 (.loud 9 [2, 3, 4] (.quiet 10 (.quiet 11 (.quiet 12 (.quiet 13 (.quiet 14 (.quiet 15 (.quiet 16 (.quiet 17 (.quiet 18 (.quiet 19 (.quiet 20 (.loud 21 [14, 15, 16] (.quiet 22 (.quiet 23 (.quiet 24 (.quiet 25 (.quiet 26 (.quiet 27 (.quiet 28 (.quiet 29 (.quiet 30 (.quiet 31 (.quiet 32 (.quiet 33 (.loud 34 [27, 28, 29] (.quiet 35 (.quiet 36 (.quiet 37 (.quiet 38 (.quiet 39 (.quiet 40 (.quiet 41 (.quiet 42 (.quiet 43 (.quiet 44 (.quiet 45 (.quiet 46 (.loud 47 [40, 41, 42] (.quiet 48 (.quiet 49 (.done))))))))))))))))))))))))))))))))))))))))))))))))))
def p6_12 : Plan := .quiet 0 (.quiet 1 (.quiet 2 (.quiet 3 (.quiet 4 (.quiet 6 (.quiet 7 (.quiet 8 (.quiet 9 (.quiet 10 (.quiet 12 (.quiet 13 (.quiet 14 (.quiet 15 (.quiet 16 (.both (.loud 5 [7, 8, 9, 10, 13, 14, 15, 16] (.both (.loud 11 [13, 14, 15, 16] (.both (.loud 17 [] (.quiet 18 (.loud 19 [18] (.loud 20 [] (.done))))) (.loud 19 [13, 14, 15, 16] (.loud 17 [] (.quiet 18 (.loud 20 [] (.done))))))) (.loud 19 [7, 8, 9, 10, 13, 14, 15, 16] (.loud 11 [13, 14, 15, 16] (.loud 17 [] (.quiet 18 (.loud 20 [] (.done)))))))) (.loud 19 [1, 2, 3, 4, 7, 8, 9, 10, 13, 14, 15, 16] (.loud 5 [7, 8, 9, 10, 13, 14, 15, 16] (.loud 11 [13, 14, 15, 16] (.loud 17 [] (.quiet 18 (.loud 20 [] (.done))))))))))))))))))))))
def p6_26 : Plan := .quiet 0 (.quiet 1 (.quiet 2 (.quiet 3 (.quiet 4 (.quiet 5 (.quiet 6 (.quiet 7 (.quiet 8 (.quiet 9 (.quiet 10 (.quiet 11 (.quiet 12 (.quiet 13 (.quiet 14 (.quiet 15 (.quiet 16 (.quiet 17 (.quiet 18 (.quiet 19 (.quiet 20 (.done)))))))))))))))))))))
def p7_14 : Plan := .quiet 0 (.quiet 1 (.quiet 3 (.quiet 4 (.loud 2 [3] (.quiet 5 (.quiet 6 (.quiet 7 (.quiet 8 (.quiet 9 (.quiet 10 (.done)))))))))))
def p9_16 : Plan := .quiet 0 (.quiet 1 (.quiet 2 (.quiet 3 (.quiet 4 (.quiet 5 (.quiet 6 (.quiet 7 (.quiet 8 (.done)))))))))
def p13_5 : Plan := .quiet 0 (.quiet 1 (.quiet 2 (.quiet 3 (.quiet 4 (.quiet 5 (.quiet 6 (.quiet 7 (.quiet 8 (.quiet 9 (.quiet 10 (.quiet 11 (.quiet 12 (.quiet 13 (.quiet 14 (.quiet 15 (.quiet 16 (.quiet 17 (.quiet 18 (.quiet 19 (.quiet 20 (.quiet 21 (.quiet 22 (.quiet 23 (.quiet 24 (.quiet 25 (.quiet 26 (.done)))))))))))))))))))))))))))
def p17_1 : Plan := .quiet 0 (.quiet 1 (.quiet 2 (.quiet 3 (.quiet 4 (.quiet 5 (.quiet 6 (.quiet 7 (.quiet 8 (.quiet 9 (.quiet 10 (.quiet 11 (.quiet 12 (.done)))))))))))))
def p19_2 : Plan := .quiet 0 (.loud 1 [0] (.loud 2 [] (.quiet 3 (.quiet 4 (.done)))))
def p19_4 : Plan := .quiet 0 (.loud 1 [0] (.loud 2 [] (.quiet 3 (.quiet 4 (.done)))))
def p19_8 : Plan := .quiet 0 (.quiet 1 (.quiet 2 (.loud 3 [0] (.loud 4 [] (.quiet 5 (.quiet 6 (.done)))))))
def p19_11 : Plan := .quiet 0 (.quiet 1 (.quiet 2 (.quiet 3 (.quiet 4 (.quiet 5 (.quiet 6 (.quiet 7 (.quiet 8 (.quiet 9 (.loud 10 [0] (.loud 11 [] (.loud 12 [] (.done)))))))))))))
def p19_12 : Plan := .quiet 0 (.quiet 1 (.quiet 2 (.quiet 3 (.quiet 4 (.quiet 5 (.quiet 6 (.quiet 7 (.quiet 8 (.quiet 9 (.quiet 10 (.quiet 11 (.quiet 12 (.quiet 13 (.quiet 14 (.quiet 15 (.loud 16 [3, 4, 7, 8, 11, 12, 13, 15] (.loud 17 [15] (.quiet 18 (.quiet 19 (.done))))))))))))))))))))
def p20_8 : Plan := .quiet 0 (.quiet 1 (.quiet 2 (.quiet 3 (.quiet 4 (.quiet 5 (.quiet 6 (.quiet 7 (.quiet 8 (.done)))))))))
def p20_15 : Plan := .quiet 0 (.quiet 1 (.quiet 2 (.quiet 3 (.quiet 4 (.quiet 5 (.quiet 6 (.quiet 7 (.quiet 8 (.quiet 9 (.quiet 10 (.quiet 11 (.quiet 12 (.loud 13 [] (.done))))))))))))))
def p20_17 : Plan := .quiet 0 (.quiet 1 (.quiet 2 (.quiet 3 (.quiet 4 (.quiet 5 (.quiet 6 (.quiet 7 (.quiet 8 (.quiet 9 (.quiet 10 (.quiet 11 (.quiet 12 (.done)))))))))))))
def p25_6 : Plan := .quiet 0 (.quiet 1 (.quiet 2 (.quiet 3 (.quiet 4 (.quiet 5 (.quiet 6 (.quiet 7 (.quiet 8 (.done)))))))))
def p26_4 : Plan := .quiet 0 (.quiet 1 (.quiet 2 (.quiet 3 (.quiet 4 (.quiet 5 (.quiet 6 (.quiet 7 (.done))))))))
def p30_9 : Plan := .quiet 0 (.quiet 1 (.quiet 2 (.quiet 3 (.quiet 4 (.quiet 5 (.quiet 6 (.quiet 7 (.quiet 8 (.quiet 9 (.quiet 10 (.quiet 11 (.quiet 12 (.quiet 13 (.quiet 14 (.done)))))))))))))))
def p31_6 : Plan := .quiet 0 (.quiet 1 (.quiet 2 (.quiet 3 (.quiet 4 (.quiet 5 (.quiet 6 (.quiet 7 (.quiet 8 (.done)))))))))
def p33_4 : Plan := .quiet 0 (.quiet 1 (.loud 2 [] (.quiet 3 (.quiet 4 (.quiet 5 (.quiet 6 (.quiet 7 (.quiet 8 (.quiet 9 (.quiet 10 (.quiet 11 (.quiet 12 (.quiet 13 (.quiet 14 (.done)))))))))))))))
def p33_6 : Plan := .quiet 0 (.quiet 1 (.quiet 2 (.quiet 3 (.both (.loud 4 [0] (.quiet 5 (.quiet 6 (.quiet 7 (.loud 8 [0, 5, 6, 7] (.loud 9 [] (.done))))))) (.loud 8 [0, 1, 2] (.loud 4 [0] (.quiet 5 (.quiet 6 (.quiet 7 (.loud 9 [] (.done)))))))))))
def p43_7 : Plan := .quiet 0 (.quiet 1 (.quiet 2 (.quiet 3 (.quiet 4 (.quiet 5 (.quiet 6 (.quiet 7 (.quiet 8 (.loud 9 [] (.done))))))))))
def p43_8 : Plan := .quiet 0 (.quiet 1 (.quiet 3 (.loud 2 [3] (.quiet 4 (.done)))))
def p52_11 : Plan := .quiet 0 (.quiet 1 (.quiet 2 (.quiet 3 (.quiet 4 (.quiet 5 (.quiet 6 (.loud 7 [] (.done))))))))
def p54_14 : Plan := .quiet 0 (.quiet 1 (.quiet 2 (.quiet 3 (.quiet 4 (.quiet 5 (.quiet 6 (.quiet 7 (.quiet 8 (.quiet 9 (.quiet 10 (.quiet 11 (.quiet 12 (.both (.loud 13 [2, 3, 6, 7, 8] (.loud 14 [2, 3, 6, 7, 8] (.loud 15 [] (.loud 16 [] (.quiet 17 (.done)))))) (.loud 14 [2, 3, 6, 7, 8] (.loud 13 [2, 3, 6, 7, 8] (.loud 15 [] (.loud 16 [] (.quiet 17 (.done)))))))))))))))))))
def p54_18 : Plan := .quiet 0 (.quiet 1 (.quiet 2 (.quiet 3 (.quiet 4 (.quiet 5 (.quiet 6 (.quiet 7 (.quiet 8 (.quiet 9 (.quiet 10 (.quiet 11 (.quiet 12 (.quiet 13 (.quiet 14 (.quiet 15 (.loud 16 [] (.done)))))))))))))))))
def p54_19 : Plan := .quiet 0 (.quiet 1 (.quiet 2 (.quiet 3 (.quiet 4 (.loud 5 [3] (.quiet 6 (.quiet 7 (.done))))))))
def p60_1 : Plan := .quiet 0 (.quiet 1 (.quiet 2 (.quiet 3 (.quiet 4 (.quiet 5 (.quiet 6 (.quiet 7 (.done))))))))
def p62_1 : Plan := .quiet 0 (.quiet 1 (.quiet 2 (.quiet 3 (.quiet 4 (.quiet 5 (.quiet 6 (.quiet 7 (.quiet 8 (.done)))))))))
def p63_6 : Plan := .quiet 0 (.quiet 1 (.quiet 2 (.quiet 3 (.quiet 4 (.quiet 5 (.quiet 6 (.quiet 7 (.quiet 8 (.quiet 9 (.quiet 10 (.quiet 11 (.quiet 12 (.quiet 13 (.quiet 14 (.quiet 15 (.quiet 16 (.quiet 17 (.quiet 18 (.quiet 19 (.quiet 20 (.quiet 21 (.quiet 22 (.quiet 23 (.quiet 24 (.quiet 25 (.quiet 26 (.quiet 27 (.quiet 28 (.quiet 29 (.done))))))))))))))))))))))))))))))
def p71_1 : Plan := .quiet 0 (.quiet 1 (.quiet 2 (.quiet 3 (.quiet 4 (.quiet 5 (.quiet 6 (.quiet 7 (.quiet 8 (.quiet 9 (.quiet 10 (.quiet 11 (.quiet 12 (.quiet 13 (.quiet 14 (.quiet 15 (.quiet 16 (.quiet 17 (.quiet 18 (.quiet 19 (.quiet 20 (.quiet 21 (.quiet 22 (.done)))))))))))))))))))))))
def p73_8 : Plan := .quiet 0 (.quiet 1 (.loud 2 [1] (.loud 3 [] (.quiet 4 (.done)))))
def p73_18 : Plan := .quiet 0 (.quiet 1 (.loud 2 [1] (.loud 3 [] (.quiet 4 (.done)))))
def p73_21 : Plan := .quiet 0 (.quiet 1 (.loud 2 [1] (.loud 3 [] (.quiet 4 (.done)))))
def p78_4 : Plan := .quiet 0 (.quiet 1 (.quiet 2 (.quiet 3 (.quiet 4 (.quiet 6 (.quiet 7 (.quiet 8 (.quiet 9 (.quiet 10 (.quiet 11 (.loud 5 [10, 11] (.loud 12 [] (.quiet 13 (.done))))))))))))))
def p81_1 : Plan := .quiet 0 (.quiet 1 (.quiet 2 (.quiet 3 (.quiet 4 (.quiet 5 (.quiet 6 (.quiet 7 (.quiet 8 (.loud 9 [] (.done))))))))))
def p81_2 : Plan := .quiet 0 (.quiet 1 (.quiet 2 (.quiet 3 (.quiet 4 (.quiet 5 (.quiet 6 (.quiet 7 (.quiet 8 (.loud 9 [] (.done))))))))))
def p82_1 : Plan := .quiet 0 (.quiet 1 (.quiet 2 (.quiet 3 (.quiet 4 (.quiet 5 (.quiet 6 (.loud 7 [0, 1, 3, 4] (.quiet 8 (.quiet 9 (.quiet 10 (.loud 11 [] (.done))))))))))))
def p83_1 : Plan := .quiet 0 (.quiet 1 (.quiet 2 (.quiet 3 (.quiet 4 (.quiet 5 (.loud 6 [2, 3, 4, 5] (.loud 7 [] (.done))))))))
def p83_2 : Plan := .quiet 0 (.quiet 1 (.quiet 2 (.quiet 3 (.quiet 4 (.quiet 5 (.quiet 6 (.quiet 7 (.quiet 8 (.loud 9 [] (.done))))))))))
def p84_1 : Plan := .quiet 0 (.quiet 1 (.quiet 2 (.quiet 3 (.quiet 4 (.quiet 5 (.quiet 6 (.loud 7 [0, 1, 3, 4] (.quiet 8 (.quiet 9 (.quiet 10 (.loud 11 [] (.done))))))))))))
def p85_1 : Plan := .quiet 0 (.quiet 1 (.quiet 2 (.quiet 3 (.quiet 4 (.quiet 5 (.quiet 6 (.quiet 7 (.quiet 8 (.quiet 9 (.quiet 10 (.quiet 11 (.quiet 12 (.quiet 13 (.quiet 14 (.quiet 15 (.quiet 16 (.quiet 17 (.quiet 18 (.quiet 19 (.quiet 20 (.loud 21 [15, 16, 17] (.quiet 22 (.quiet 23 (.quiet 24 (.loud 25 [] (.done))))))))))))))))))))))))))
def p85_2 : Plan := .quiet 0 (.quiet 1 (.quiet 2 (.quiet 3 (.quiet 4 (.quiet 5 (.quiet 6 (.quiet 7 (.quiet 8 (.quiet 9 (.quiet 10 (.loud 11 [] (.done))))))))))))
end Go.Eng
end

/- What the functions of chapter 01 reckon, in plain words. -/
section
namespace Go.Eng
def sp3 (a b c : Int) : Bool := decide (0 ≤ a) && (decide (a ≤ b) && decide (b ≤ c))
def in3 (a b c : Int) : Bool := decide (b ≤ a) && decide (a ≤ c)
theorem sp3_iff {a b c : Int} : sp3 a b c = true ↔ 0 ≤ a ∧ a ≤ b ∧ b ≤ c := by simp [sp3]
theorem in3_iff {a b c : Int} : in3 a b c = true ↔ b ≤ a ∧ a ≤ c := by simp [in3]
def okZ (z : Nat → Int) : Bool := sp3 (z 0) (z 1) 20000 && sp3 (z 2) (z 3) 20000
def allU (p : Nat → Bool) : Nat → Bool
  | 0 => true
  | n + 1 => allU p n && p n
theorem allU_iff {p : Nat → Bool} : ∀ {n : Nat}, allU p n = true ↔ ∀ i, i < n → p i = true
  | 0 => by simp [allU]
  | n + 1 => by
    simp only [allU, Bool.and_eq_true, allU_iff (n := n)]
    constructor
    · rintro ⟨h1, h2⟩ i hi
      by_cases e : i = n
      · subst e; exact h2
      · exact h1 i (by omega)
    · exact fun h => ⟨fun i hi => h i (by omega), h n (by omega)⟩
theorem allU_false {p : Nat → Bool} {n i : Nat} (hi : i < n) (h : p i = false) : allU p n = false := by
  cases hc : allU p n with
  | false => rfl
  | true => have := allU_iff.1 hc i hi; rw [h] at this; cases this
def rinkB (n : Nat) (z : Nat → Nat → Int) : Bool := in3 n 1 24 && allU (fun i => okZ (z i)) n
theorem rinkB_iff {n : Nat} {z : Nat → Nat → Int} : rinkB n z = true ↔ (1 ≤ n ∧ n ≤ 24) ∧ ∀ i, i < n → okZ (z i) = true := by
  simp only [rinkB, Bool.and_eq_true, allU_iff, in3_iff]
  constructor <;> rintro ⟨h1, h2⟩ <;> exact ⟨by omega, h2⟩
theorem wrap_id {x : Int} (h1 : -9223372036854775808 ≤ x) (h2 : x ≤ 9223372036854775807) : IntKind.i64.wrap x = x := by
  simp [IntKind.wrap, IntKind.signed, IntKind.bits]
  omega
end Go.Eng
end

/- Within, in, Rink: the document's. -/
section
namespace Go.Eng
open Go Go.RowKit Go.Proofs
set_option maxRecDepth 100000
set_option maxHeartbeats 4000000
def withinBase : BaseF := fun args => match args with
  | [.agg [.int .i64 a, .int .i64 b], .int .i64 c] => some (True, .bool (sp3 a b c))
  | _ => none
theorem within_base : Base Try.prog 48 withinBase := by
  intro args p v hq hp
  unfold withinBase at hq
  split at hq
  · rename_i a b c
    cases hq
    refine base_of (C := cx [] [] [] [] none) (cx_ok trivial trivial) rfl (g := 48) (fn := Try.f48) (args' := [.agg [.int .i64 a, .int .i64 b], .int .i64 c]) (fn_48) rfl 1000 (by simp only [BdL, Bd, and_self]) ⟨SameD.rfl' _, SameD.rfl' _, trivial⟩ ?_
    simp only [Try.f48, go_sem, ↓reduceIte, Nat.reduceAdd, Nat.reduceSub, Nat.reduceMul, Nat.reduceEqDiff, Nat.reduceLT, Nat.reduceLeDiff, Int.reduceToNat, Int.reduceLE, Int.reduceLT, Int.reduceEq, Int.reduceNeg, reduceCtorEq]
    refine ⟨fun h1 => ⟨fun h2 => congrArg SV.bool ?_, fun h2 => congrArg SV.bool ?_⟩, fun h1 => congrArg SV.bool ?_⟩ <;> rw [Bool.eq_iff_iff] <;> (try simp [sp3] at *) <;> (try omega)
  · cases hq
def inBase : BaseF := fun args => match args with
  | [.int .i64 a, .int .i64 b, .int .i64 c] => some (True, .bool (in3 a b c))
  | _ => none
theorem in_base : Base Try.prog 49 inBase := by
  intro args p v hq hp
  unfold inBase at hq
  split at hq
  · rename_i a b c
    cases hq
    refine base_of (C := cx [] [] [] [] none) (cx_ok trivial trivial) rfl (g := 49) (fn := Try.f49) (args' := [.int .i64 a, .int .i64 b, .int .i64 c]) (fn_49) rfl 1000 (by simp only [BdL, Bd, and_self]) ⟨SameD.rfl' _, SameD.rfl' _, SameD.rfl' _, trivial⟩ ?_
    simp only [Try.f49, go_sem, ↓reduceIte, Nat.reduceAdd, Nat.reduceSub, Nat.reduceMul, Nat.reduceEqDiff, Nat.reduceLT, Nat.reduceLeDiff, Int.reduceToNat, Int.reduceLE, Int.reduceLT, Int.reduceEq, Int.reduceNeg, reduceCtorEq]
    refine ⟨fun h1 => congrArg SV.bool ?_, fun h1 => congrArg SV.bool ?_⟩ <;> rw [Bool.eq_iff_iff] <;> (try simp [in3] at *) <;> (try omega)
  · cases hq
theorem in2_base : Base Try.prog 39 inBase := by
  intro args p v hq hp
  unfold inBase at hq
  split at hq
  · rename_i a b c
    cases hq
    refine base_of (C := cx [] [] [] [] none) (cx_ok trivial trivial) rfl (g := 39) (fn := Try.f39) (args' := [.int .i64 a, .int .i64 b, .int .i64 c]) (fn_39) rfl 1000 (by simp only [BdL, Bd, and_self]) ⟨SameD.rfl' _, SameD.rfl' _, SameD.rfl' _, trivial⟩ ?_
    simp only [Try.f39, go_sem, ↓reduceIte, Nat.reduceAdd, Nat.reduceSub, Nat.reduceMul, Nat.reduceEqDiff, Nat.reduceLT, Nat.reduceLeDiff, Int.reduceToNat, Int.reduceLE, Int.reduceLT, Int.reduceEq, Int.reduceNeg, reduceCtorEq]
    refine ⟨fun h1 => congrArg SV.bool ?_, fun h1 => congrArg SV.bool ?_⟩ <;> rw [Bool.eq_iff_iff] <;> (try simp [in3] at *) <;> (try omega)
  · cases hq
theorem in_eq (a b c : Int) : inBase [.int .i64 a, .int .i64 b, .int .i64 c] = some (True, .bool (in3 a b c)) := rfl
theorem within_eq (a b c : Int) : withinBase [.agg [.int .i64 a, .int .i64 b], .int .i64 c] = some (True, .bool (sp3 a b c)) := rfl

def rinkBase : BaseF := fun args => match args with
  | [.row n sz f] => some (sz = 4 ∧ IntR n 4 f, .bool (rinkB n (fun i j => iv (f i j))))
  | _ => none
theorem rink_base : Base Try.prog 16 rinkBase := by
  intro args p v hq hp
  unfold rinkBase at hq
  split at hq
  · rename_i n sz f
    cases hq
    obtain ⟨rfl, hf⟩ := hp
    refine base_of (C := cx [] [] [(48, withinBase), (49, inBase)] [] none) (cx_ok trivial ⟨within_base, in_base, trivial⟩) rfl (g := 16) (fn := Try.f16) (args' := [.row n 4 fun i j => .int .i64 (iv (f i j))]) (fn_16) rfl 1000 (by simp only [BdL, Bd, and_true]; intro i j hi hj; rw [hf i j hi hj]; trivial) ⟨SameD.int hf, trivial⟩ ?_
    generalize hz : (fun i j => iv (f i j)) = z
    have hz' : ∀ i j, iv (f i j) = z i j := fun i j => by rw [← hz]
    simp only [hz']
    simp only [Try.f16, go_sem, ↓reduceIte, Nat.reduceAdd, Nat.reduceSub, Nat.reduceMul, Nat.reduceEqDiff, Nat.reduceLT, Nat.reduceLeDiff, Int.reduceToNat, Int.reduceLE, Int.reduceLT, Int.reduceEq, Int.reduceNeg, reduceCtorEq]
    refine ⟨{ i : Nat // i ≤ n ∧ i ≤ 25 ∧ ∀ k, k < i → okZ (z k) = true }, fun i => (setL 33 [(0, .row n 4 fun i j => .int .i64 (z i j)), (2, .bool false), (3, .int .i64 (i.1 : Int))], ⟨[], []⟩), fun i => n - i.1, fun i => by simp only [lenB, lenV, and_self], ⟨⟨0, by omega, by omega, by omega⟩, ?_⟩, ?_⟩
    · apply sub_of <;> simp only [go_sem, ↓reduceIte, Nat.reduceAdd, Nat.reduceSub, Nat.reduceMul, Nat.reduceEqDiff, Nat.reduceLT, Nat.reduceLeDiff, Int.reduceToNat, Int.reduceLE, Int.reduceLT, Int.reduceEq, Int.reduceNeg, reduceCtorEq] <;> simp
    · rintro ⟨i, h1, h2, h3⟩
      simp only [in_eq, within_eq, Try.f16, go_sem, ↓reduceIte, Nat.reduceAdd, Nat.reduceSub, Nat.reduceMul, Nat.reduceEqDiff, Nat.reduceLT, Nat.reduceLeDiff, Int.reduceToNat, Int.reduceLE, Int.reduceLT, Int.reduceEq, Int.reduceNeg, reduceCtorEq]
      have hfl : i < n → okZ (z i) = false → rinkB n z = false := fun hi h => by simp only [rinkB, allU_false (p := fun i => okZ (z i)) hi h, Bool.and_false]
      refine ⟨fun c1 => ⟨fun c2 => ⟨⟨by omega, by simpa using c1⟩, fun c3 => congrArg SV.bool ?_, fun c3 => ⟨⟨by omega, by simpa using c1⟩, fun c4 => congrArg SV.bool ?_, fun c4 => ?_⟩⟩, fun c2 => congrArg SV.bool ?_⟩, fun c1 => congrArg SV.bool ?_⟩
      · simp at c1 c3
        rw [hfl c1 (by simp [okZ, c3])]
      · simp at c1 c4
        rw [hfl c1 (by simp [okZ, c4])]
      · simp at c1 c2 c3 c4
        rw [wrap_id (by omega) (by omega)]
        refine ⟨⟨i + 1, by omega, by omega, fun k hk => ?_⟩, by simp only []; omega, ?_⟩
        · by_cases e : k = i
          · subst e; simp [okZ, c3, c4]
          · exact h3 k (by omega)
        · apply sub_of <;> simp only [go_sem, ↓reduceIte, Nat.reduceAdd, Nat.reduceSub, Nat.reduceMul, Nat.reduceEqDiff, Nat.reduceLT, Nat.reduceLeDiff, Int.reduceToNat, Int.reduceLE, Int.reduceLT, Int.reduceEq, Int.reduceNeg, reduceCtorEq] <;> simp
      · simp at c1 c2
        have : in3 (n : Int) 1 24 = false := by simp [in3]; omega
        simp [rinkB, this]
      · simp at c1
        have e : i = n := by omega
        subst e
        have : allU (fun i => okZ (z i)) i = true := allU_iff.2 h3
        simp [rinkB, this]
  · cases hq
end Go.Eng
end

/- Small functions of chapter 01. -/
section
namespace Go.Eng
open Go Go.RowKit Go.Proofs
set_option maxRecDepth 100000
set_option maxHeartbeats 4000000
def validBase : BaseF := fun args => match args with
  | [.agg [.int .i64 a, .int .i64 b]] => some (True, .bool (sp3 a b 20000))
  | _ => none
theorem valid_eq (a b : Int) : validBase [.agg [.int .i64 a, .int .i64 b]] = some (True, .bool (sp3 a b 20000)) := rfl
theorem valid_base : Base Try.prog 38 validBase := by
  intro args p v hq hp
  unfold validBase at hq
  split at hq
  · rename_i a b
    cases hq
    refine base_of (C := cx [] [] [] [] none) (cx_ok trivial trivial) rfl (g := 38) (fn := Try.f38) (args' := [.agg [.int .i64 a, .int .i64 b]]) (fn_38) rfl 1000 (by simp only [BdL, Bd, and_self]) ⟨SameD.rfl' _, trivial⟩ ?_
    simp only [Try.f38, go_sem, ↓reduceIte, Nat.reduceAdd, Nat.reduceSub, Nat.reduceMul, Nat.reduceEqDiff, Nat.reduceLT, Nat.reduceLeDiff, Int.reduceToNat, Int.reduceLE, Int.reduceLT, Int.reduceEq, Int.reduceNeg, reduceCtorEq]
    refine ⟨fun h1 => ⟨fun h2 => congrArg SV.bool ?_, fun h2 => congrArg SV.bool ?_⟩, fun h1 => congrArg SV.bool ?_⟩ <;> rw [Bool.eq_iff_iff] <;> (try simp [sp3] at *) <;> (try omega)
  · cases hq
def boundBase : BaseF := fun args => match args with
  | [.int .i64 a, .int .i64 b] => some (True, .bool (in3 b 0 20000 && in3 a 0 b))
  | _ => none
theorem bound_eq (a b : Int) : boundBase [.int .i64 a, .int .i64 b] = some (True, .bool (in3 b 0 20000 && in3 a 0 b)) := rfl
theorem bound_base : Base Try.prog 40 boundBase := by
  intro args p v hq hp
  unfold boundBase at hq
  split at hq
  · rename_i a b
    cases hq
    refine base_of (C := cx [] [] [(39, inBase)] [] none) (cx_ok trivial ⟨in2_base, trivial⟩) rfl (g := 40) (fn := Try.f40) (args' := [.int .i64 a, .int .i64 b]) (fn_40) rfl 1000 (by simp only [BdL, Bd, and_self]) ⟨SameD.rfl' _, SameD.rfl' _, trivial⟩ ?_
    simp only [in_eq, Try.f40, go_sem, ↓reduceIte, Nat.reduceAdd, Nat.reduceSub, Nat.reduceMul, Nat.reduceEqDiff, Nat.reduceLT, Nat.reduceLeDiff, Int.reduceToNat, Int.reduceLE, Int.reduceLT, Int.reduceEq, Int.reduceNeg, reduceCtorEq]
    refine ⟨fun h1 => congrArg SV.bool ?_, fun h1 => congrArg SV.bool ?_⟩ <;> simp_all
  · cases hq
def lessBase : BaseF := fun args => match args with
  | [.agg [.int .i64 a, .int .i64 b], .agg [.int .i64 c, .int .i64 d]] => some (True, .agg [.int .i64 (max 0 (IntKind.i64.wrap (a - d))), .int .i64 (max 0 (IntKind.i64.wrap (b - c)))])
  | _ => none
theorem less_eq (a b c d : Int) : lessBase [.agg [.int .i64 a, .int .i64 b], .agg [.int .i64 c, .int .i64 d]] = some (True, .agg [.int .i64 (max 0 (IntKind.i64.wrap (a - d))), .int .i64 (max 0 (IntKind.i64.wrap (b - c)))]) := rfl
theorem less_base : Base Try.prog 44 lessBase := by
  intro args p v hq hp
  unfold lessBase at hq
  split at hq
  · rename_i a b c d
    cases hq
    refine base_of (C := cx [] [] [] [] none) (cx_ok trivial trivial) rfl (g := 44) (fn := Try.f44) (args' := [.agg [.int .i64 a, .int .i64 b], .agg [.int .i64 c, .int .i64 d]]) (fn_44) rfl 1000 (by simp only [BdL, Bd, and_self]) ⟨SameD.rfl' _, SameD.rfl' _, trivial⟩ ?_
    simp only [Try.f44, go_sem, ↓reduceIte, Nat.reduceAdd, Nat.reduceSub, Nat.reduceMul, Nat.reduceEqDiff, Nat.reduceLT, Nat.reduceLeDiff, Int.reduceToNat, Int.reduceLE, Int.reduceLT, Int.reduceEq, Int.reduceNeg, reduceCtorEq]
  · cases hq
def moreBase : BaseF := fun args => match args with
  | [.agg [.int .i64 a, .int .i64 b], .agg [.int .i64 c, .int .i64 d]] => some (True, .agg [.int .i64 (IntKind.i64.wrap (a + c)), .int .i64 (IntKind.i64.wrap (b + d))])
  | _ => none
theorem more_eq (a b c d : Int) : moreBase [.agg [.int .i64 a, .int .i64 b], .agg [.int .i64 c, .int .i64 d]] = some (True, .agg [.int .i64 (IntKind.i64.wrap (a + c)), .int .i64 (IntKind.i64.wrap (b + d))]) := rfl
theorem more_base : Base Try.prog 45 moreBase := by
  intro args p v hq hp
  unfold moreBase at hq
  split at hq
  · rename_i a b c d
    cases hq
    refine base_of (C := cx [] [] [] [] none) (cx_ok trivial trivial) rfl (g := 45) (fn := Try.f45) (args' := [.agg [.int .i64 a, .int .i64 b], .agg [.int .i64 c, .int .i64 d]]) (fn_45) rfl 1000 (by simp only [BdL, Bd, and_self]) ⟨SameD.rfl' _, SameD.rfl' _, trivial⟩ ?_
    simp only [Try.f45, go_sem, ↓reduceIte, Nat.reduceAdd, Nat.reduceSub, Nat.reduceMul, Nat.reduceEqDiff, Nat.reduceLT, Nat.reduceLeDiff, Int.reduceToNat, Int.reduceLE, Int.reduceLT, Int.reduceEq, Int.reduceNeg, reduceCtorEq]
  · cases hq
def takenBase : BaseF := fun args => match args with
  | [.agg [.int .i64 a, .int .i64 b], .agg [.int .i64 c, .int .i64 d]] => some (True, .agg [.int .i64 (min a c), .int .i64 (min b d)])
  | _ => none
theorem taken_eq (a b c d : Int) : takenBase [.agg [.int .i64 a, .int .i64 b], .agg [.int .i64 c, .int .i64 d]] = some (True, .agg [.int .i64 (min a c), .int .i64 (min b d)]) := rfl
theorem taken_base : Base Try.prog 90 takenBase := by
  intro args p v hq hp
  unfold takenBase at hq
  split at hq
  · rename_i a b c d
    cases hq
    refine base_of (C := cx [] [] [] [] none) (cx_ok trivial trivial) rfl (g := 90) (fn := Try.f90) (args' := [.agg [.int .i64 a, .int .i64 b], .agg [.int .i64 c, .int .i64 d]]) (fn_90) rfl 1000 (by simp only [BdL, Bd, and_self]) ⟨SameD.rfl' _, SameD.rfl' _, trivial⟩ ?_
    simp only [Try.f90, go_sem, ↓reduceIte, Nat.reduceAdd, Nat.reduceSub, Nat.reduceMul, Nat.reduceEqDiff, Nat.reduceLT, Nat.reduceLeDiff, Int.reduceToNat, Int.reduceLE, Int.reduceLT, Int.reduceEq, Int.reduceNeg, reduceCtorEq]
  · cases hq
def plusBase : BaseF := fun args => match args with
  | [.agg [.int .i64 a, .int .i64 b], .agg [.int .i64 c, .int .i64 d]] => some (True, .agg [.int .i64 (IntKind.i64.wrap (a + c)), .int .i64 (IntKind.i64.wrap (b + d))])
  | _ => none
theorem plus_eq (a b c d : Int) : plusBase [.agg [.int .i64 a, .int .i64 b], .agg [.int .i64 c, .int .i64 d]] = some (True, .agg [.int .i64 (IntKind.i64.wrap (a + c)), .int .i64 (IntKind.i64.wrap (b + d))]) := rfl
theorem plus_base : Base Try.prog 74 plusBase := by
  intro args p v hq hp
  unfold plusBase at hq
  split at hq
  · rename_i a b c d
    cases hq
    refine base_of (C := cx [] [] [] [] none) (cx_ok trivial trivial) rfl (g := 74) (fn := Try.f74) (args' := [.agg [.int .i64 a, .int .i64 b], .agg [.int .i64 c, .int .i64 d]]) (fn_74) rfl 1000 (by simp only [BdL, Bd, and_self]) ⟨SameD.rfl' _, SameD.rfl' _, trivial⟩ ?_
    simp only [Try.f74, go_sem, ↓reduceIte, Nat.reduceAdd, Nat.reduceSub, Nat.reduceMul, Nat.reduceEqDiff, Nat.reduceLT, Nat.reduceLeDiff, Int.reduceToNat, Int.reduceLE, Int.reduceLT, Int.reduceEq, Int.reduceNeg, reduceCtorEq]
  · cases hq
def rlessBase : BaseF := fun args => match args with
  | [.agg [.int .i64 a, .int .i64 b], .agg [.int .i64 c, .int .i64 d]] => some (True, .agg [.int .i64 (max 0 (IntKind.i64.wrap (a - d))), .int .i64 (max 0 (IntKind.i64.wrap (b - c)))])
  | _ => none
theorem rless_eq (a b c d : Int) : rlessBase [.agg [.int .i64 a, .int .i64 b], .agg [.int .i64 c, .int .i64 d]] = some (True, .agg [.int .i64 (max 0 (IntKind.i64.wrap (a - d))), .int .i64 (max 0 (IntKind.i64.wrap (b - c)))]) := rfl
theorem rless_base : Base Try.prog 87 rlessBase := by
  intro args p v hq hp
  unfold rlessBase at hq
  split at hq
  · rename_i a b c d
    cases hq
    refine base_of (C := cx [] [] [] [] none) (cx_ok trivial trivial) rfl (g := 87) (fn := Try.f87) (args' := [.agg [.int .i64 a, .int .i64 b], .agg [.int .i64 c, .int .i64 d]]) (fn_87) rfl 1000 (by simp only [BdL, Bd, and_self]) ⟨SameD.rfl' _, SameD.rfl' _, trivial⟩ ?_
    simp only [Try.f87, go_sem, ↓reduceIte, Nat.reduceAdd, Nat.reduceSub, Nat.reduceMul, Nat.reduceEqDiff, Nat.reduceLT, Nat.reduceLeDiff, Int.reduceToNat, Int.reduceLE, Int.reduceLT, Int.reduceEq, Int.reduceNeg, reduceCtorEq]
  · cases hq
def roffBase : BaseF := fun args => match args with
  | [.agg [.int .i64 a, .int .i64 b], .agg [.int .i64 c, .int .i64 d]] => some (True, .agg [.int .i64 (min a c), .int .i64 (min b d)])
  | _ => none
theorem roff_eq (a b c d : Int) : roffBase [.agg [.int .i64 a, .int .i64 b], .agg [.int .i64 c, .int .i64 d]] = some (True, .agg [.int .i64 (min a c), .int .i64 (min b d)]) := rfl
theorem roff_base : Base Try.prog 88 roffBase := by
  intro args p v hq hp
  unfold roffBase at hq
  split at hq
  · rename_i a b c d
    cases hq
    refine base_of (C := cx [] [] [] [] none) (cx_ok trivial trivial) rfl (g := 88) (fn := Try.f88) (args' := [.agg [.int .i64 a, .int .i64 b], .agg [.int .i64 c, .int .i64 d]]) (fn_88) rfl 1000 (by simp only [BdL, Bd, and_self]) ⟨SameD.rfl' _, SameD.rfl' _, trivial⟩ ?_
    simp only [Try.f88, go_sem, ↓reduceIte, Nat.reduceAdd, Nat.reduceSub, Nat.reduceMul, Nat.reduceEqDiff, Nat.reduceLT, Nat.reduceLeDiff, Int.reduceToNat, Int.reduceLE, Int.reduceLT, Int.reduceEq, Int.reduceNeg, reduceCtorEq]
  · cases hq
def spanBase : BaseF := fun args => match args with
  | [.int .i64 a, .int .i64 b] => some (True, .agg [.int .i64 a, .int .i64 b])
  | _ => none
theorem span_eq (a b : Int) : spanBase [.int .i64 a, .int .i64 b] = some (True, .agg [.int .i64 a, .int .i64 b]) := rfl
theorem span_base : Base Try.prog 23 spanBase := by
  intro args p v hq hp
  unfold spanBase at hq
  split at hq
  · rename_i a b
    cases hq
    refine base_of (C := cx [] [] [] [] none) (cx_ok trivial trivial) rfl (g := 23) (fn := Try.f23) (args' := [.int .i64 a, .int .i64 b]) (fn_23) rfl 1000 (by simp only [BdL, Bd, and_self]) ⟨SameD.rfl' _, SameD.rfl' _, trivial⟩ ?_
    simp only [Try.f23, go_sem, ↓reduceIte, Nat.reduceAdd, Nat.reduceSub, Nat.reduceMul, Nat.reduceEqDiff, Nat.reduceLT, Nat.reduceLeDiff, Int.reduceToNat, Int.reduceLE, Int.reduceLT, Int.reduceEq, Int.reduceNeg, reduceCtorEq]
  · cases hq
def sideBase : BaseF := fun args => match args with
  | [.int .i64 a, .int .i64 b, .int .i64 c, .int .i64 d] => some (True, .int .i64 (IntKind.i64.wrap (max 0 (IntKind.i64.wrap (max 0 (IntKind.i64.wrap (a - b)) - c)) + d)))
  | _ => none
theorem side_eq (a b c d : Int) : sideBase [.int .i64 a, .int .i64 b, .int .i64 c, .int .i64 d] = some (True, .int .i64 (IntKind.i64.wrap (max 0 (IntKind.i64.wrap (max 0 (IntKind.i64.wrap (a - b)) - c)) + d))) := rfl
theorem side_base : Base Try.prog 67 sideBase := by
  intro args p v hq hp
  unfold sideBase at hq
  split at hq
  · rename_i a b c d
    cases hq
    refine base_of (C := cx [] [] [] [] none) (cx_ok trivial trivial) rfl (g := 67) (fn := Try.f67) (args' := [.int .i64 a, .int .i64 b, .int .i64 c, .int .i64 d]) (fn_67) rfl 1000 (by simp only [BdL, Bd, and_self]) ⟨SameD.rfl' _, SameD.rfl' _, SameD.rfl' _, SameD.rfl' _, trivial⟩ ?_
    simp only [Try.f67, go_sem, ↓reduceIte, Nat.reduceAdd, Nat.reduceSub, Nat.reduceMul, Nat.reduceEqDiff, Nat.reduceLT, Nat.reduceLeDiff, Int.reduceToNat, Int.reduceLE, Int.reduceLT, Int.reduceEq, Int.reduceNeg, reduceCtorEq]
  · cases hq
def hasBase : BaseF := fun args => match args with
  | [.agg [.int .i64 a, .int .i64 b], .int .i64 c] => some (True, .bool (in3 c a b))
  | _ => none
theorem has_eq (a b c : Int) : hasBase [.agg [.int .i64 a, .int .i64 b], .int .i64 c] = some (True, .bool (in3 c a b)) := rfl
theorem has_base : Base Try.prog 21 hasBase := by
  intro args p v hq hp
  unfold hasBase at hq
  split at hq
  · rename_i a b c
    cases hq
    refine base_of (C := cx [] [] [] [] none) (cx_ok trivial trivial) rfl (g := 21) (fn := Try.f21) (args' := [.agg [.int .i64 a, .int .i64 b], .int .i64 c]) (fn_21) rfl 1000 (by simp only [BdL, Bd, and_self]) ⟨SameD.rfl' _, SameD.rfl' _, trivial⟩ ?_
    simp only [Try.f21, go_sem, ↓reduceIte, Nat.reduceAdd, Nat.reduceSub, Nat.reduceMul, Nat.reduceEqDiff, Nat.reduceLT, Nat.reduceLeDiff, Int.reduceToNat, Int.reduceLE, Int.reduceLT, Int.reduceEq, Int.reduceNeg, reduceCtorEq]
    refine ⟨fun h1 => congrArg SV.bool ?_, fun h1 => congrArg SV.bool ?_⟩ <;> rw [Bool.eq_iff_iff] <;> (try simp [in3] at *) <;> (try omega)
  · cases hq
def zoneBadBase : BaseF := fun args => match args with
  | [.agg [.int .i64 a, .int .i64 b, .int .i64 c, .int .i64 d]] => some (True, .bool (!(sp3 a b 20000 && sp3 c d 20000)))
  | _ => none
theorem zoneBad_eq (a b c d : Int) : zoneBadBase [.agg [.int .i64 a, .int .i64 b, .int .i64 c, .int .i64 d]] = some (True, .bool (!(sp3 a b 20000 && sp3 c d 20000))) := rfl
theorem zoneBad_base : Base Try.prog 65 zoneBadBase := by
  intro args p v hq hp
  unfold zoneBadBase at hq
  split at hq
  · rename_i a b c d
    cases hq
    refine base_of (C := cx [] [] [(38, validBase)] [] none) (cx_ok trivial ⟨valid_base, trivial⟩) rfl (g := 65) (fn := Try.f65) (args' := [.agg [.int .i64 a, .int .i64 b, .int .i64 c, .int .i64 d]]) (fn_65) rfl 1000 (by simp only [BdL, Bd, and_self]) ⟨SameD.rfl' _, trivial⟩ ?_
    simp only [valid_eq, Try.f65, go_sem, ↓reduceIte, Nat.reduceAdd, Nat.reduceSub, Nat.reduceMul, Nat.reduceEqDiff, Nat.reduceLT, Nat.reduceLeDiff, Int.reduceToNat, Int.reduceLE, Int.reduceLT, Int.reduceEq, Int.reduceNeg, reduceCtorEq]
    refine ⟨fun h1 => congrArg SV.bool ?_, fun h1 => congrArg SV.bool ?_⟩ <;> simp_all
  · cases hq
end Go.Eng
end

/- isRink: the program's. -/
section
namespace Go.Eng
open Go Go.RowKit Go.Proofs
set_option maxRecDepth 100000
set_option maxHeartbeats 4000000
theorem zoneBad_eq' (a b c d : Int) : zoneBadBase [.agg [.int .i64 a, .int .i64 b, .int .i64 c, .int .i64 d]] = some (True, .bool (!(sp3 a b 20000 && sp3 c d 20000))) := rfl
theorem isRink_base : Base Try.prog 37 rinkBase := by
  intro args p v hq hp
  unfold rinkBase at hq
  split at hq
  · rename_i n sz f
    cases hq
    obtain ⟨rfl, hf⟩ := hp
    refine base_of (C := cx [] [] [(39, inBase), (65, zoneBadBase)] [] none) (cx_ok trivial ⟨in2_base, zoneBad_base, trivial⟩) rfl (g := 37) (fn := Try.f37) (args' := [.row n 4 fun i j => .int .i64 (iv (f i j))]) (fn_37) rfl 1000 (by simp only [BdL, Bd, and_true]; intro i j hi hj; rw [hf i j hi hj]; trivial) ⟨SameD.int hf, trivial⟩ ?_
    generalize hz : (fun i j => iv (f i j)) = z
    have hz' : ∀ i j, iv (f i j) = z i j := fun i j => by rw [← hz]
    simp only [hz']
    simp only [in_eq, Try.f37, Try.f66, Try.f80, go_sem, ↓reduceIte, Nat.reduceAdd, Nat.reduceSub, Nat.reduceMul, Nat.reduceEqDiff, Nat.reduceLT, Nat.reduceLeDiff, Int.reduceToNat, Int.reduceLE, Int.reduceLT, Int.reduceEq, Int.reduceNeg, reduceCtorEq]
    refine ⟨fun c0 => ?_, fun c0 => congrArg SV.bool (by simp [rinkB, c0])⟩
    have hn := in3_iff.1 c0
    refine loop_of { i : Nat // i ≤ n ∧ ∀ k, k < i → okZ (z k) = true } (fun i => [(8, .int .i64 (i.1 : Int)), (7, .int .i64 (n : Int)), (4, .int .i64 0), (1, .func 65 []), (0, .row n 4 fun i j => .int .i64 (z i j))]) (fun _ => ⟨[], []⟩) (fun i => n - i.1) (fun _ => ⟨rfl, rfl⟩) ⟨0, by omega, by omega⟩ (by apply sub_of <;> simp only [go_sem, ↓reduceIte, Nat.reduceAdd, Nat.reduceSub, Nat.reduceMul, Nat.reduceEqDiff, Nat.reduceLT, Nat.reduceLeDiff, Int.reduceToNat, Int.reduceLE, Int.reduceLT, Int.reduceEq, Int.reduceNeg, reduceCtorEq] <;> simp) ?_
    rintro ⟨i, h1, h2⟩
    simp only [in_eq, zoneBad_eq, Try.f37, Try.f66, Try.f80, Try.f65, go_sem, ↓reduceIte, Nat.reduceAdd, Nat.reduceSub, Nat.reduceMul, Nat.reduceEqDiff, Nat.reduceLT, Nat.reduceLeDiff, Int.reduceToNat, Int.reduceLE, Int.reduceLT, Int.reduceEq, Int.reduceNeg, reduceCtorEq]
    refine ⟨fun c1 => ⟨⟨by omega, by simpa using c1⟩, fun c2 => congrArg SV.bool ?_, fun c2 => ?_⟩, fun c1 => congrArg SV.bool ?_⟩
    · simp at c1 c2
      have : rinkB n z = false := by simp only [rinkB, allU_false (p := fun i => okZ (z i)) c1 (by simp only [okZ]; cases hc : (sp3 (z i 0) (z i 1) 20000 && sp3 (z i 2) (z i 3) 20000); rfl; simp at hc; simp [hc] at c2), Bool.and_false]
      rw [this]; simp
    · simp at c1 c2
      rw [wrap_id (by omega) (by omega)]
      refine ⟨⟨i + 1, by omega, fun k hk => ?_⟩, by simp only []; omega, by apply sub_of <;> simp only [go_sem, ↓reduceIte, Nat.reduceAdd, Nat.reduceSub, Nat.reduceMul, Nat.reduceEqDiff, Nat.reduceLT, Nat.reduceLeDiff, Int.reduceToNat, Int.reduceLE, Int.reduceLT, Int.reduceEq, Int.reduceNeg, reduceCtorEq] <;> simp⟩
      by_cases e : k = i
      · subst e; simp [okZ, c2]
      · exact h2 k (by omega)
    · simp at c1
      have e : i = n := by omega
      subst e
      have : allU (fun i => okZ (z i)) i = true := allU_iff.2 h2
      simp [rinkB, this, c0]
  · cases hq
end Go.Eng
end

/- Water: the program's. -/
section
namespace Go.Eng
open Go Go.RowKit Go.Proofs
set_option maxRecDepth 100000
set_option maxHeartbeats 4000000
theorem rink_eq (n : Nat) (z : Nat → Nat → Int) : rinkBase [.row n 4 (fun i j => .int .i64 (z i j))] = some (4 = 4 ∧ IntR n 4 (fun i j => .int .i64 (z i j)), .bool (rinkB n z)) := rfl
/-- One pass: the ice that is left, and what is frozen. -/
def pass (w p a x : Int) : Int := max 0 (max 0 (x - w) - p) + a
def after (w p a x : Int) : Nat → Int
  | 0 => x
  | k + 1 => pass w p a (after w p a x k)
def enoughB (n passes : Nat) (z : Nat → Int) (w p least : Int) (a : Nat) : Bool := allU (fun i => allU (fun k => decide (least ≤ after w p a (z i) (k + 1))) passes) n
def muchB (n passes : Nat) (z : Nat → Int) (w p most : Int) (a : Nat) : Bool := !allU (fun i => allU (fun k => decide (after w p a (z i) (k + 1) ≤ most)) passes) n
theorem all2_false {p : Nat → Nat → Bool} {m n a q : Nat} (ha : a < n) (hq : q < m) (h : p a q = false) : allU (fun i => allU (fun k => p i k) m) n = false :=
  allU_false (p := fun i => allU (fun k => p i k) m) ha (allU_false (p := fun k => p a k) hq h)
theorem all2_true {p : Nat → Nat → Bool} {m n : Nat} : allU (fun i => allU (fun k => p i k) m) n = true ↔ ∀ a, a < n → ∀ q, q < m → p a q = true := by
  simp only [allU_iff]
def srch (p : Nat → Bool) : Nat → Nat → Nat → Nat
  | 0, i, _ => i
  | f + 1, i, j => if i < j then (if p ((i + j) / 2) then srch p f i ((i + j) / 2) else srch p f ((i + j) / 2 + 1) j) else i
theorem srch_fuel (p : Nat → Bool) : ∀ (f f' i j : Nat), j - i ≤ f → j - i ≤ f' → srch p f i j = srch p f' i j
  | 0, 0, i, j, _, _ => rfl
  | 0, f' + 1, i, j, h, h' => by
    have : ¬ i < j := by omega
    simp [srch, this]
  | f + 1, 0, i, j, h, h' => by
    have : ¬ i < j := by omega
    simp [srch, this]
  | f + 1, f' + 1, i, j, h, h' => by
    simp only [srch]
    split
    · rw [srch_fuel p f f' i ((i + j) / 2) (by omega) (by omega), srch_fuel p f f' ((i + j) / 2 + 1) j (by omega) (by omega)]
    · rfl
theorem srch_step (p : Nat → Bool) {i j : Nat} (h : i < j) : srch p (j - i) i j = if p ((i + j) / 2) then srch p ((i + j) / 2 - i) i ((i + j) / 2) else srch p (j - ((i + j) / 2 + 1)) ((i + j) / 2 + 1) j := by
  obtain ⟨f, hf⟩ : ∃ f, j - i = f + 1 := ⟨j - i - 1, by omega⟩
  rw [hf]
  simp only [srch, h, if_true]
  rw [srch_fuel p f ((i + j) / 2 - i) i ((i + j) / 2) (by omega) (by omega), srch_fuel p f (j - ((i + j) / 2 + 1)) ((i + j) / 2 + 1) j (by omega) (by omega)]
theorem srch_end (p : Nat → Bool) (i : Nat) : srch p (i - i) i i = i := by
  rw [Nat.sub_self]; rfl
theorem wrapu_id {x : Int} (h1 : 0 ≤ x) (h2 : x ≤ 9223372036854775807) : IntKind.u64.wrap x = x := by
  simp [IntKind.wrap, IntKind.signed, IntKind.bits]
  omega
theorem mid_eq {i j : Nat} (h : i + j ≤ 100000) : IntKind.i64.wrap ((IntKind.u64.wrap (IntKind.i64.wrap ((i : Int) + (j : Int)))).fdiv (2 ^ min 1 64)) = (((i + j) / 2 : Nat) : Int) := by
  rw [wrap_id (x := (i : Int) + j) (by omega) (by omega), wrapu_id (by omega) (by omega)]
  have e : (2 : Int) ^ min 1 64 = 2 := by decide
  rw [e, Int.fdiv_eq_ediv_of_nonneg _ (by omega), wrap_id (by omega) (by omega)]
  omega
theorem pass_bd {w p a x : Int} (hw : 0 ≤ w) (hp : 0 ≤ p) (ha : 0 ≤ a) (hx : 0 ≤ x) : 0 ≤ pass w p a x ∧ pass w p a x ≤ x + a := by
  unfold pass; omega
theorem after_bd {w p a x : Int} (hw : 0 ≤ w) (hp : 0 ≤ p) (ha : 0 ≤ a) (ha2 : a ≤ 20001) (hx : 0 ≤ x) (hx2 : x ≤ 20000) : ∀ k : Nat, 0 ≤ after w p a x k ∧ after w p a x k ≤ 20000 + 20001 * (k : Int)
  | 0 => ⟨hx, by simpa [after] using hx2⟩
  | k + 1 => by
    have h := after_bd hw hp ha ha2 hx hx2 k
    have h2 := pass_bd (w := w) (p := p) (a := a) hw hp ha h.1
    simp only [after]
    refine ⟨h2.1, ?_⟩
    have : ((k + 1 : Nat) : Int) = (k : Int) + 1 := by omega
    rw [this]; omega
theorem pass_wrap {w p a x : Int} (hw : 0 ≤ w) (hw2 : w ≤ 20000) (hp : 0 ≤ p) (hp2 : p ≤ 20000) (ha : 0 ≤ a) (ha2 : a ≤ 20001) (hx : 0 ≤ x) (hx2 : x ≤ 10000000) :
    IntKind.i64.wrap (max 0 (IntKind.i64.wrap (max 0 (IntKind.i64.wrap (x - w)) - p)) + a) = pass w p a x := by
  rw [wrap_id (x := x - w) (by omega) (by omega), wrap_id (x := max 0 (x - w) - p) (by omega) (by omega), wrap_id (by omega) (by omega)]
  rfl
def waterR (n : Nat) (z : Nat → Nat → Int) (wl wh pl ph : Int) (passes : Int) (least most : Int) : SV :=
  if rinkB n z = true ∧ sp3 wl wh 20000 = true ∧ sp3 pl ph 20000 = true then
    if in3 passes 1 100 = true ∧ in3 most 0 20000 = true ∧ in3 least 0 most = true then
      let e := srch (enoughB n passes.toNat (fun i => z i 0) wh ph least) 20001 0 20001
      let m := srch (muchB n passes.toNat (fun i => z i 1) wl pl most) 20001 0 20001
      if m ≤ e then .tup [.agg [.int .i64 0, .int .i64 0], .int .i64 4] else .tup [.agg [.int .i64 (e : Int), .int .i64 ((m : Int) - 1)], .int .i64 0]
    else .tup [.agg [.int .i64 0, .int .i64 0], .int .i64 2]
  else .tup [.agg [.int .i64 0, .int .i64 0], .int .i64 1]
def waterBase : BaseF := fun args => match args with
  | [.row n sz f, .agg [.int .i64 wl, .int .i64 wh], .agg [.int .i64 pl, .int .i64 ph], .int .i64 passes, .int .i64 least, .int .i64 most] => some (sz = 4 ∧ IntR n 4 f, waterR n (fun i j => iv (f i j)) wl wh pl ph passes least most)
  | _ => none
theorem water_base : Base Try.prog 14 waterBase := by
  intro args p v hq hp
  unfold waterBase at hq
  split at hq
  · rename_i n sz f wl wh pl ph passes least most
    cases hq
    obtain ⟨rfl, hf⟩ := hp
    refine base_of (C := cx [] [] [(37, rinkBase), (38, validBase), (39, inBase), (40, boundBase), (44, lessBase), (45, moreBase)] [(43, 7, p43_7), (43, 8, p43_8)] none) (cx_ok trivial ⟨isRink_base, valid_base, in2_base, bound_base, less_base, more_base, trivial⟩) rfl (g := 14) (fn := Try.f14)
      (args' := [.row n 4 fun i j => .int .i64 (iv (f i j)), .agg [.int .i64 wl, .int .i64 wh], .agg [.int .i64 pl, .int .i64 ph], .int .i64 passes, .int .i64 least, .int .i64 most]) (fn_14) rfl 1000 (by simp only [BdL, Bd, and_true]; intro i j hi hj; rw [hf i j hi hj]; trivial) ⟨SameD.int hf, SameD.rfl' _, SameD.rfl' _, SameD.rfl' _, SameD.rfl' _, SameD.rfl' _, trivial⟩ ?_
    generalize hz : (fun i j => iv (f i j)) = z
    have hz' : ∀ i j, iv (f i j) = z i j := fun i j => by rw [← hz]
    simp only [hz']
    simp only [in_eq, rink_eq, valid_eq, bound_eq, Try.f14, Try.f41, Try.f42, go_sem, ↓reduceIte, Nat.reduceAdd, Nat.reduceSub, Nat.reduceMul, Nat.reduceEqDiff, Nat.reduceLT, Nat.reduceLeDiff, Int.reduceToNat, Int.reduceLE, Int.reduceLT, Int.reduceEq, Int.reduceNeg, reduceCtorEq]
    have no1 : rinkB n z = false ∨ sp3 wl wh 20000 = false ∨ sp3 pl ph 20000 = false → SV.tup [.agg [.int .i64 0, .int .i64 0], .int .i64 1] = waterR n z wl wh pl ph passes least most := fun h => by
      unfold waterR; rw [if_neg]; rintro ⟨h1, h2, h3⟩; rw [h1, h2, h3] at h; simp at h
    refine ⟨fun c1 => no1 (by simp at c1; simp [c1]), fun c1 => ⟨fun c2 => no1 (by simp at c2; simp [c2]), fun c2 => ⟨fun c3 => no1 (by simp at c3; simp [c3]), fun c3 => ?_⟩⟩⟩
    simp only [Bool.not_eq_false'] at c1 c2 c3
    have no2 : in3 passes 1 100 = false ∨ in3 most 0 20000 = false ∨ in3 least 0 most = false → SV.tup [.agg [.int .i64 0, .int .i64 0], .int .i64 2] = waterR n z wl wh pl ph passes least most := fun h => by
      unfold waterR; rw [if_pos ⟨c1, c2, c3⟩, if_neg]; rintro ⟨h1, h2, h3⟩; rw [h1, h2, h3] at h; simp at h
    refine ⟨fun c4 => no2 (by simp at c4; simp [c4]), fun c4 => ⟨fun c5 => no2 (by simp at c5; cases hm : in3 most 0 20000 <;> simp_all), fun c5 => ?_⟩⟩
    simp only [Bool.not_eq_false', Bool.and_eq_true] at c4 c5
    have b4 := in3_iff.1 c4
    have b2 := sp3_iff.1 c2
    have b3 := sp3_iff.1 c3
    have b1 := rinkB_iff.1 c1
    -- the search 1
    refine loop_of { x : Nat × Nat // x.1 ≤ x.2 ∧ x.2 ≤ 20001 ∧ srch (enoughB n passes.toNat (fun i => z i 0) wh ph least) (x.2 - x.1) x.1 x.2 = srch (enoughB n passes.toNat (fun i => z i 0) wh ph least) 20001 0 20001 }
      (fun x => [(6, .int .i64 (x.1.2 : Int)), (5, .int .i64 (x.1.1 : Int)), (1, .func 43 [.ptr 0 0, .ptr 3 0, .ptr 1 0, .ptr 2 0, .ptr 7 0, .ptr 8 0])])
      (fun _ => ⟨[.live 22 [.row n 4 fun i j => .int .i64 (z i j)], .live 24 [.int .i64 wl, .int .i64 wh], .live 24 [.int .i64 pl, .int .i64 ph], .live 3 [.int .i64 passes], .live 3 [.int .i64 least], .live 3 [.int .i64 most], .live 24 [.int .i64 0, .int .i64 0], .live 80 [.func 46 [.ptr 4 0]], .live 4 [.bool true]], []⟩)
      (fun x => x.1.2 - x.1.1) (fun _ => ⟨rfl, rfl⟩) ⟨(0, 20001), by simp⟩ (by apply sub_of <;> simp only [go_sem, ↓reduceIte, Nat.reduceAdd, Nat.reduceSub, Nat.reduceMul, Nat.reduceEqDiff, Nat.reduceLT, Nat.reduceLeDiff, Int.reduceToNat, Int.reduceLE, Int.reduceLT, Int.reduceEq, Int.reduceNeg, reduceCtorEq] <;> (try simp)) ?_
    rintro ⟨⟨i, j⟩, hij, hj, hs⟩
    simp only [] at hij hj hs
    simp only [in_eq, rink_eq, valid_eq, bound_eq, Try.f14, Try.f41, Try.f42, Try.f43, go_sem, ↓reduceIte, Nat.reduceAdd, Nat.reduceSub, Nat.reduceMul, Nat.reduceEqDiff, Nat.reduceLT, Nat.reduceLeDiff, Int.reduceToNat, Int.reduceLE, Int.reduceLT, Int.reduceEq, Int.reduceNeg, reduceCtorEq]
    refine ⟨fun d1 => ?_, fun d1 => ?_⟩
    · simp only [decide_eq_true_eq] at d1
      simp only [mid_eq (show i + j ≤ 100000 by omega)]
      generalize hm : (i + j) / 2 = m
      have hm1 : i ≤ m ∧ m < j := by omega
      -- zones
      refine loop_of { a : Nat // a ≤ n ∧ ∀ b, b < a → ∀ k, k < passes.toNat → least ≤ after wh ph (m : Int) (z b 0) (k + 1) }
        (fun a => [(14, .int .i64 (a.1 : Int)), (13, .int .i64 (n : Int)), (12, .row n 4 fun i j => .int .i64 (z i j)), (0, .int .i64 (m : Int)), (1, .ptr 0 0), (2, .ptr 3 0), (3, .ptr 1 0), (4, .ptr 2 0), (5, .ptr 7 0), (6, .ptr 8 0)])
        (fun _ => ⟨[.live 22 [.row n 4 fun i j => .int .i64 (z i j)], .live 24 [.int .i64 wl, .int .i64 wh], .live 24 [.int .i64 pl, .int .i64 ph], .live 3 [.int .i64 passes], .live 3 [.int .i64 least], .live 3 [.int .i64 most], .live 24 [.int .i64 0, .int .i64 0], .live 80 [.func 46 [.ptr 4 0]], .live 4 [.bool true]], []⟩)
        (fun a => n - a.1) (fun _ => ⟨rfl, rfl⟩) ⟨0, by omega, by omega⟩ (by apply sub_of <;> simp only [go_sem, ↓reduceIte, Nat.reduceAdd, Nat.reduceSub, Nat.reduceMul, Nat.reduceEqDiff, Nat.reduceLT, Nat.reduceLeDiff, Int.reduceToNat, Int.reduceLE, Int.reduceLT, Int.reduceEq, Int.reduceNeg, reduceCtorEq] <;> (try simp)) ?_
      rintro ⟨a, ha, hb⟩
      simp only [in_eq, rink_eq, valid_eq, bound_eq, Try.f14, Try.f41, Try.f42, Try.f43, go_sem, ↓reduceIte, Nat.reduceAdd, Nat.reduceSub, Nat.reduceMul, Nat.reduceEqDiff, Nat.reduceLT, Nat.reduceLeDiff, Int.reduceToNat, Int.reduceLE, Int.reduceLT, Int.reduceEq, Int.reduceNeg, reduceCtorEq]
      refine ⟨fun e1 => ⟨⟨by omega, by simpa using e1⟩, ?_⟩, fun e1 => ?_⟩
      · simp only [decide_eq_true_eq] at e1
        have e1' : a < n := by omega
        have hok := b1.2 a e1'
        simp only [okZ, Bool.and_eq_true, sp3_iff] at hok
        have hw := fun k => after_bd (w := wh) (p := ph) (a := (m : Int)) (x := z a 0) (by omega) (by omega) (by omega) (by omega) (by omega) (by omega) k
        have hv := fun k => after_bd (w := wl) (p := pl) (a := (m : Int)) (x := z a 1) (by omega) (by omega) (by omega) (by omega) (by omega) (by omega) k
        -- passes
        refine loop_of { q : Nat // q ≤ passes.toNat ∧ ∀ k, k < q → least ≤ after wh ph (m : Int) (z a 0) (k + 1) }
          (fun q => [(21, .int .i64 (q.1 : Int)), (20, .int .i64 passes), (11, .ptr 10 0), (14, .int .i64 (a : Int)), (13, .int .i64 (n : Int)), (12, .row n 4 fun i j => .int .i64 (z i j)), (0, .int .i64 (m : Int)), (1, .ptr 0 0), (2, .ptr 3 0), (3, .ptr 1 0), (4, .ptr 2 0), (5, .ptr 7 0), (6, .ptr 8 0)])
          (fun q => ⟨[.live 22 [.row n 4 fun i j => .int .i64 (z i j)], .live 24 [.int .i64 wl, .int .i64 wh], .live 24 [.int .i64 pl, .int .i64 ph], .live 3 [.int .i64 passes], .live 3 [.int .i64 least], .live 3 [.int .i64 most], .live 24 [.int .i64 0, .int .i64 0], .live 80 [.func 46 [.ptr 4 0]], .live 4 [.bool true], .dead, .live 77 [.int .i64 (after wh ph (m : Int) (z a 0) q.1), .int .i64 (after wl pl (m : Int) (z a 1) q.1)]], []⟩)
          (fun q => passes.toNat - q.1) (fun _ => ⟨rfl, rfl⟩) ⟨0, by omega, by omega⟩ (by apply sub_of <;> simp only [after, go_sem, ↓reduceIte, Nat.reduceAdd, Nat.reduceSub, Nat.reduceMul, Nat.reduceEqDiff, Nat.reduceLT, Nat.reduceLeDiff, Int.reduceToNat, Int.reduceLE, Int.reduceLT, Int.reduceEq, Int.reduceNeg, reduceCtorEq] <;> (try simp)) ?_
        rintro ⟨q, hq1, hq2⟩
        simp only [in_eq, rink_eq, valid_eq, bound_eq, less_eq, more_eq, Try.f14, Try.f41, Try.f42, Try.f43, Try.f46, Try.f47, p43_7, p43_8, go_sem, ↓reduceIte, Nat.reduceAdd, Nat.reduceSub, Nat.reduceMul, Nat.reduceEqDiff, Nat.reduceLT, Nat.reduceLeDiff, Int.reduceToNat, Int.reduceLE, Int.reduceLT, Int.reduceEq, Int.reduceNeg, reduceCtorEq]
        have hwq := hw q
        have hvq := hv q
        have hwp : IntKind.i64.wrap (max 0 (IntKind.i64.wrap (max 0 (IntKind.i64.wrap (after wh ph (m : Int) (z a 0) q - wh)) - ph)) + (m : Int)) = after wh ph (m : Int) (z a 0) (q + 1) := pass_wrap (by omega) (by omega) (by omega) (by omega) (by omega) (by omega) (by omega) (by omega)
        have hvp : IntKind.i64.wrap (max 0 (IntKind.i64.wrap (max 0 (IntKind.i64.wrap (after wl pl (m : Int) (z a 1) q - wl)) - pl)) + (m : Int)) = after wl pl (m : Int) (z a 1) (q + 1) := pass_wrap (by omega) (by omega) (by omega) (by omega) (by omega) (by omega) (by omega) (by omega)
        simp only [hwp, hvp]
        refine ⟨fun f1 => ⟨⟨by kernel_rfl, by kernel_rfl⟩, ⟨by kernel_rfl, by kernel_rfl⟩, fun f2 => ?_, fun f2 => ?_⟩, fun f1 => ?_⟩
        · simp only [decide_eq_true_eq] at f1
          have f3 : ¬ (least ≤ after wh ph (m : Int) (z a 0) (q + 1)) := by simpa using f2
          have hp : (enoughB n passes.toNat (fun i => z i 0) wh ph least) m = false := by
            simp only [enoughB]
            rw [all2_false (p := fun i k => decide (least ≤ after wh ph (m : Int) (z i 0) (k + 1))) e1' (q := q) (by omega) (by simpa using f3)]
          have st := srch_step (enoughB n passes.toNat (fun i => z i 0) wh ph least) (i := i) (j := j) (by omega)
          rw [hm, hp] at st
          rw [wrap_id (by omega) (by omega)]
          refine ⟨⟨(m + 1, j), by simp only []; omega, by simp only []; omega, by simp only []; rw [← hs, st]; simp⟩, by simp only []; omega, by apply sub_of <;> simp only [go_sem, ↓reduceIte, Nat.reduceAdd, Nat.reduceSub, Nat.reduceMul, Nat.reduceEqDiff, Nat.reduceLT, Nat.reduceLeDiff, Int.reduceToNat, Int.reduceLE, Int.reduceLT, Int.reduceEq, Int.reduceNeg, reduceCtorEq] <;> (try simp)⟩
        · simp only [decide_eq_true_eq] at f1
          have f3 : least ≤ after wh ph (m : Int) (z a 0) (q + 1) := by simpa using f2
          rw [wrap_id (x := (q : Int) + 1) (by omega) (by omega)]
          refine ⟨⟨q + 1, by omega, fun k hk => ?_⟩, by simp only []; omega, by apply sub_of <;> simp only [go_sem, ↓reduceIte, Nat.reduceAdd, Nat.reduceSub, Nat.reduceMul, Nat.reduceEqDiff, Nat.reduceLT, Nat.reduceLeDiff, Int.reduceToNat, Int.reduceLE, Int.reduceLT, Int.reduceEq, Int.reduceNeg, reduceCtorEq] <;> (try simp)⟩
          by_cases e : k = q
          · subst e; exact f3
          · exact hq2 k (by omega)
        · simp only [decide_eq_false_iff_not] at f1
          rw [wrap_id (x := (a : Int) + 1) (by omega) (by omega)]
          refine ⟨⟨a + 1, by omega, fun b hb1 k hk => ?_⟩, by simp only []; omega, by apply sub_of <;> simp only [go_sem, ↓reduceIte, Nat.reduceAdd, Nat.reduceSub, Nat.reduceMul, Nat.reduceEqDiff, Nat.reduceLT, Nat.reduceLeDiff, Int.reduceToNat, Int.reduceLE, Int.reduceLT, Int.reduceEq, Int.reduceNeg, reduceCtorEq] <;> (try simp)⟩
          by_cases e : b = a
          · subst e; exact hq2 k (by omega)
          · exact hb b (by omega) k hk
      · simp only [decide_eq_false_iff_not] at e1
        have hp : (enoughB n passes.toNat (fun i => z i 0) wh ph least) m = true := by
          have : a = n := by omega
          subst this
          simp only [enoughB]
          rw [all2_true (p := fun i k => decide (least ≤ after wh ph (m : Int) (z i 0) (k + 1))) |>.2 fun b hb1 k hk => by simpa using hb b hb1 k hk]
        have st := srch_step (enoughB n passes.toNat (fun i => z i 0) wh ph least) (i := i) (j := j) (by omega)
        rw [hm, hp] at st
        skip
        refine ⟨⟨(i, m), by simp only []; omega, by simp only []; omega, by simp only []; rw [← hs, st]; simp⟩, by simp only []; omega, by apply sub_of <;> simp only [go_sem, ↓reduceIte, Nat.reduceAdd, Nat.reduceSub, Nat.reduceMul, Nat.reduceEqDiff, Nat.reduceLT, Nat.reduceLeDiff, Int.reduceToNat, Int.reduceLE, Int.reduceLT, Int.reduceEq, Int.reduceNeg, reduceCtorEq] <;> (try simp)⟩
    · simp only [decide_eq_false_iff_not] at d1
      have e : j = i := by omega
      subst e
      rw [srch_end] at hs
      obtain ⟨en, rfl⟩ : ∃ en, en = j := ⟨j, rfl⟩
      clear hij d1
      have hse := hs
      have hej := hj
      clear hs hj
      -- the search 2
      refine loop_of { x : Nat × Nat // x.1 ≤ x.2 ∧ x.2 ≤ 20001 ∧ srch (muchB n passes.toNat (fun i => z i 1) wl pl most) (x.2 - x.1) x.1 x.2 = srch (muchB n passes.toNat (fun i => z i 1) wl pl most) 20001 0 20001 }
        (fun x => [(6, .int .i64 (x.1.2 : Int)), (5, .int .i64 (x.1.1 : Int)), (1, .func 43 [.ptr 0 0, .ptr 3 0, .ptr 1 0, .ptr 2 0, .ptr 9 0, .ptr 10 0])])
        (fun _ => ⟨[.live 22 [.row n 4 fun i j => .int .i64 (z i j)], .live 24 [.int .i64 wl, .int .i64 wh], .live 24 [.int .i64 pl, .int .i64 ph], .live 3 [.int .i64 passes], .live 3 [.int .i64 least], .live 3 [.int .i64 most], .live 24 [.int .i64 0, .int .i64 0], .dead, .dead, .live 80 [.func 47 [.ptr 5 0]], .live 4 [.bool false]], []⟩)
        (fun x => x.1.2 - x.1.1) (fun _ => ⟨rfl, rfl⟩) ⟨(0, 20001), by simp⟩ (by apply sub_of <;> simp only [go_sem, ↓reduceIte, Nat.reduceAdd, Nat.reduceSub, Nat.reduceMul, Nat.reduceEqDiff, Nat.reduceLT, Nat.reduceLeDiff, Int.reduceToNat, Int.reduceLE, Int.reduceLT, Int.reduceEq, Int.reduceNeg, reduceCtorEq] <;> (try simp)) ?_
      rintro ⟨⟨i, j⟩, hij, hj, hs⟩
      simp only [] at hij hj hs
      simp only [in_eq, rink_eq, valid_eq, bound_eq, Try.f14, Try.f41, Try.f42, Try.f43, go_sem, ↓reduceIte, Nat.reduceAdd, Nat.reduceSub, Nat.reduceMul, Nat.reduceEqDiff, Nat.reduceLT, Nat.reduceLeDiff, Int.reduceToNat, Int.reduceLE, Int.reduceLT, Int.reduceEq, Int.reduceNeg, reduceCtorEq]
      refine ⟨fun d1 => ?_, fun d1 => ?_⟩
      · simp only [decide_eq_true_eq] at d1
        simp only [mid_eq (show i + j ≤ 100000 by omega)]
        generalize hm : (i + j) / 2 = m
        have hm1 : i ≤ m ∧ m < j := by omega
        -- zones
        refine loop_of { a : Nat // a ≤ n ∧ ∀ b, b < a → ∀ k, k < passes.toNat → after wl pl (m : Int) (z b 1) (k + 1) ≤ most }
          (fun a => [(14, .int .i64 (a.1 : Int)), (13, .int .i64 (n : Int)), (12, .row n 4 fun i j => .int .i64 (z i j)), (0, .int .i64 (m : Int)), (1, .ptr 0 0), (2, .ptr 3 0), (3, .ptr 1 0), (4, .ptr 2 0), (5, .ptr 9 0), (6, .ptr 10 0)])
          (fun _ => ⟨[.live 22 [.row n 4 fun i j => .int .i64 (z i j)], .live 24 [.int .i64 wl, .int .i64 wh], .live 24 [.int .i64 pl, .int .i64 ph], .live 3 [.int .i64 passes], .live 3 [.int .i64 least], .live 3 [.int .i64 most], .live 24 [.int .i64 0, .int .i64 0], .dead, .dead, .live 80 [.func 47 [.ptr 5 0]], .live 4 [.bool false]], []⟩)
          (fun a => n - a.1) (fun _ => ⟨rfl, rfl⟩) ⟨0, by omega, by omega⟩ (by apply sub_of <;> simp only [go_sem, ↓reduceIte, Nat.reduceAdd, Nat.reduceSub, Nat.reduceMul, Nat.reduceEqDiff, Nat.reduceLT, Nat.reduceLeDiff, Int.reduceToNat, Int.reduceLE, Int.reduceLT, Int.reduceEq, Int.reduceNeg, reduceCtorEq] <;> (try simp)) ?_
        rintro ⟨a, ha, hb⟩
        simp only [in_eq, rink_eq, valid_eq, bound_eq, Try.f14, Try.f41, Try.f42, Try.f43, go_sem, ↓reduceIte, Nat.reduceAdd, Nat.reduceSub, Nat.reduceMul, Nat.reduceEqDiff, Nat.reduceLT, Nat.reduceLeDiff, Int.reduceToNat, Int.reduceLE, Int.reduceLT, Int.reduceEq, Int.reduceNeg, reduceCtorEq]
        refine ⟨fun e1 => ⟨⟨by omega, by simpa using e1⟩, ?_⟩, fun e1 => ?_⟩
        · simp only [decide_eq_true_eq] at e1
          have e1' : a < n := by omega
          have hok := b1.2 a e1'
          simp only [okZ, Bool.and_eq_true, sp3_iff] at hok
          have hw := fun k => after_bd (w := wh) (p := ph) (a := (m : Int)) (x := z a 0) (by omega) (by omega) (by omega) (by omega) (by omega) (by omega) k
          have hv := fun k => after_bd (w := wl) (p := pl) (a := (m : Int)) (x := z a 1) (by omega) (by omega) (by omega) (by omega) (by omega) (by omega) k
          -- passes
          refine loop_of { q : Nat // q ≤ passes.toNat ∧ ∀ k, k < q → after wl pl (m : Int) (z a 1) (k + 1) ≤ most }
            (fun q => [(21, .int .i64 (q.1 : Int)), (20, .int .i64 passes), (11, .ptr 12 0), (14, .int .i64 (a : Int)), (13, .int .i64 (n : Int)), (12, .row n 4 fun i j => .int .i64 (z i j)), (0, .int .i64 (m : Int)), (1, .ptr 0 0), (2, .ptr 3 0), (3, .ptr 1 0), (4, .ptr 2 0), (5, .ptr 9 0), (6, .ptr 10 0)])
            (fun q => ⟨[.live 22 [.row n 4 fun i j => .int .i64 (z i j)], .live 24 [.int .i64 wl, .int .i64 wh], .live 24 [.int .i64 pl, .int .i64 ph], .live 3 [.int .i64 passes], .live 3 [.int .i64 least], .live 3 [.int .i64 most], .live 24 [.int .i64 0, .int .i64 0], .dead, .dead, .live 80 [.func 47 [.ptr 5 0]], .live 4 [.bool false], .dead, .live 77 [.int .i64 (after wh ph (m : Int) (z a 0) q.1), .int .i64 (after wl pl (m : Int) (z a 1) q.1)]], []⟩)
            (fun q => passes.toNat - q.1) (fun _ => ⟨rfl, rfl⟩) ⟨0, by omega, by omega⟩ (by apply sub_of <;> simp only [after, go_sem, ↓reduceIte, Nat.reduceAdd, Nat.reduceSub, Nat.reduceMul, Nat.reduceEqDiff, Nat.reduceLT, Nat.reduceLeDiff, Int.reduceToNat, Int.reduceLE, Int.reduceLT, Int.reduceEq, Int.reduceNeg, reduceCtorEq] <;> (try simp)) ?_
          rintro ⟨q, hq1, hq2⟩
          simp only [in_eq, rink_eq, valid_eq, bound_eq, less_eq, more_eq, Try.f14, Try.f41, Try.f42, Try.f43, Try.f46, Try.f47, p43_7, p43_8, go_sem, ↓reduceIte, Nat.reduceAdd, Nat.reduceSub, Nat.reduceMul, Nat.reduceEqDiff, Nat.reduceLT, Nat.reduceLeDiff, Int.reduceToNat, Int.reduceLE, Int.reduceLT, Int.reduceEq, Int.reduceNeg, reduceCtorEq]
          have hwq := hw q
          have hvq := hv q
          have hwp : IntKind.i64.wrap (max 0 (IntKind.i64.wrap (max 0 (IntKind.i64.wrap (after wh ph (m : Int) (z a 0) q - wh)) - ph)) + (m : Int)) = after wh ph (m : Int) (z a 0) (q + 1) := pass_wrap (by omega) (by omega) (by omega) (by omega) (by omega) (by omega) (by omega) (by omega)
          have hvp : IntKind.i64.wrap (max 0 (IntKind.i64.wrap (max 0 (IntKind.i64.wrap (after wl pl (m : Int) (z a 1) q - wl)) - pl)) + (m : Int)) = after wl pl (m : Int) (z a 1) (q + 1) := pass_wrap (by omega) (by omega) (by omega) (by omega) (by omega) (by omega) (by omega) (by omega)
          simp only [hwp, hvp]
          refine ⟨fun f1 => ⟨⟨by kernel_rfl, by kernel_rfl⟩, ⟨by kernel_rfl, by kernel_rfl⟩, fun f2 => ?_, fun f2 => ?_⟩, fun f1 => ?_⟩
          · simp only [decide_eq_true_eq] at f1
            have f3 : ¬ (after wl pl (m : Int) (z a 1) (q + 1) ≤ most) := by simpa using f2
            have hp : (muchB n passes.toNat (fun i => z i 1) wl pl most) m = true := by
              simp only [muchB]
              rw [all2_false (p := fun i k => decide (after wl pl (m : Int) (z i 1) (k + 1) ≤ most)) e1' (q := q) (by omega) (by simpa using f3)]; rfl
            have st := srch_step (muchB n passes.toNat (fun i => z i 1) wl pl most) (i := i) (j := j) (by omega)
            rw [hm, hp] at st
            skip
            refine ⟨⟨(i, m), by simp only []; omega, by simp only []; omega, by simp only []; rw [← hs, st]; simp⟩, by simp only []; omega, by apply sub_of <;> simp only [go_sem, ↓reduceIte, Nat.reduceAdd, Nat.reduceSub, Nat.reduceMul, Nat.reduceEqDiff, Nat.reduceLT, Nat.reduceLeDiff, Int.reduceToNat, Int.reduceLE, Int.reduceLT, Int.reduceEq, Int.reduceNeg, reduceCtorEq] <;> (try simp)⟩
          · simp only [decide_eq_true_eq] at f1
            have f3 : after wl pl (m : Int) (z a 1) (q + 1) ≤ most := by simpa using f2
            rw [wrap_id (x := (q : Int) + 1) (by omega) (by omega)]
            refine ⟨⟨q + 1, by omega, fun k hk => ?_⟩, by simp only []; omega, by apply sub_of <;> simp only [go_sem, ↓reduceIte, Nat.reduceAdd, Nat.reduceSub, Nat.reduceMul, Nat.reduceEqDiff, Nat.reduceLT, Nat.reduceLeDiff, Int.reduceToNat, Int.reduceLE, Int.reduceLT, Int.reduceEq, Int.reduceNeg, reduceCtorEq] <;> (try simp)⟩
            by_cases e : k = q
            · subst e; exact f3
            · exact hq2 k (by omega)
          · simp only [decide_eq_false_iff_not] at f1
            rw [wrap_id (x := (a : Int) + 1) (by omega) (by omega)]
            refine ⟨⟨a + 1, by omega, fun b hb1 k hk => ?_⟩, by simp only []; omega, by apply sub_of <;> simp only [go_sem, ↓reduceIte, Nat.reduceAdd, Nat.reduceSub, Nat.reduceMul, Nat.reduceEqDiff, Nat.reduceLT, Nat.reduceLeDiff, Int.reduceToNat, Int.reduceLE, Int.reduceLT, Int.reduceEq, Int.reduceNeg, reduceCtorEq] <;> (try simp)⟩
            by_cases e : b = a
            · subst e; exact hq2 k (by omega)
            · exact hb b (by omega) k hk
        · simp only [decide_eq_false_iff_not] at e1
          have hp : (muchB n passes.toNat (fun i => z i 1) wl pl most) m = false := by
            have : a = n := by omega
            subst this
            simp only [muchB]
            rw [all2_true (p := fun i k => decide (after wl pl (m : Int) (z i 1) (k + 1) ≤ most)) |>.2 fun b hb1 k hk => by simpa using hb b hb1 k hk]; rfl
          have st := srch_step (muchB n passes.toNat (fun i => z i 1) wl pl most) (i := i) (j := j) (by omega)
          rw [hm, hp] at st
          rw [wrap_id (by omega) (by omega)]
          refine ⟨⟨(m + 1, j), by simp only []; omega, by simp only []; omega, by simp only []; rw [← hs, st]; simp⟩, by simp only []; omega, by apply sub_of <;> simp only [go_sem, ↓reduceIte, Nat.reduceAdd, Nat.reduceSub, Nat.reduceMul, Nat.reduceEqDiff, Nat.reduceLT, Nat.reduceLeDiff, Int.reduceToNat, Int.reduceLE, Int.reduceLT, Int.reduceEq, Int.reduceNeg, reduceCtorEq] <;> (try simp)⟩
      · simp only [decide_eq_false_iff_not] at d1
        have e : j = i := by omega
        subst e
        rw [srch_end] at hs
        have hwr : waterR n z wl wh pl ph passes least most = if j ≤ en then .tup [.agg [.int .i64 0, .int .i64 0], .int .i64 4] else .tup [.agg [.int .i64 (en : Int), .int .i64 ((j : Int) - 1)], .int .i64 0] := by
          unfold waterR
          rw [if_pos ⟨c1, c2, c3⟩, if_pos ⟨c4, c5.1, c5.2⟩]
          simp only [← hse, ← hs]
        rw [hwr]
        refine ⟨fun g1 => ?_, fun g1 => ?_⟩
        · simp only [decide_eq_true_eq] at g1
          rw [if_pos (by omega)]
        · simp only [decide_eq_false_iff_not] at g1
          rw [if_neg (by omega), wrap_id (by omega) (by omega)]
  · cases hq
end Go.Eng
end

/- goes, Water: the document's. -/
section
namespace Go.Eng
open Go Go.RowKit Go.Proofs
set_option maxRecDepth 100000
set_option maxHeartbeats 4000000
def goesR (n passes : Nat) (z : Nat → Nat → Int) (wl wh pl ph limit a : Int) : Bool → Bool
  | true => allU (fun i => allU (fun k => decide (limit ≤ after wh ph a (z i 0) (k + 1))) passes) n
  | false => allU (fun i => allU (fun k => decide (after wl pl a (z i 1) (k + 1) ≤ limit)) passes) n
def goesPre (n : Nat) (z : Nat → Nat → Int) (wl wh pl ph passes a : Int) : Prop :=
  rinkB n z = true ∧ sp3 wl wh 20000 = true ∧ sp3 pl ph 20000 = true ∧ in3 passes 1 100 = true ∧ in3 a 0 20000 = true
def goesBase : BaseF := fun args => match args with
  | [.row n sz f, .agg [.int .i64 wl, .int .i64 wh], .agg [.int .i64 pl, .int .i64 ph], .int .i64 passes, .int .i64 limit, .int .i64 a, .bool thin] =>
    some ((sz = 4 ∧ IntR n 4 f) ∧ goesPre n (fun i j => iv (f i j)) wl wh pl ph passes a, .bool (goesR n passes.toNat (fun i j => iv (f i j)) wl wh pl ph limit a thin))
  | _ => none
theorem goes_eq (n : Nat) (f : Nat → Nat → SV) (wl wh pl ph passes limit a : Int) (thin : Bool) : goesBase [.row n 4 f, .agg [.int .i64 wl, .int .i64 wh], .agg [.int .i64 pl, .int .i64 ph], .int .i64 passes, .int .i64 limit, .int .i64 a, .bool thin] =
    some ((4 = 4 ∧ IntR n 4 f) ∧ goesPre n (fun i j => iv (f i j)) wl wh pl ph passes a, .bool (goesR n passes.toNat (fun i j => iv (f i j)) wl wh pl ph limit a thin)) := rfl
theorem goes_base : Base Try.prog 50 goesBase := by
  intro args p v hq hp
  unfold goesBase at hq
  split at hq
  rotate_left
  · cases hq
  rename_i n sz f wl wh pl ph passes limit a thin
  cases hq
  obtain ⟨⟨rfl, hf⟩, hpre⟩ := hp
  refine base_of (C := cx [] [] [(67, sideBase)] [] none) (cx_ok trivial ⟨side_base, trivial⟩) rfl (g := 50) (fn := Try.f50)
      (args' := [.row n 4 fun i j => .int .i64 (iv (f i j)), .agg [.int .i64 wl, .int .i64 wh], .agg [.int .i64 pl, .int .i64 ph], .int .i64 passes, .int .i64 limit, .int .i64 a, .bool thin]) (fn_50) rfl 1000 (by simp only [BdL, Bd, and_true]; intro i j hi hj; rw [hf i j hi hj]; trivial) ⟨SameD.int hf, SameD.rfl' _, SameD.rfl' _, SameD.rfl' _, SameD.rfl' _, SameD.rfl' _, SameD.rfl' _, trivial⟩ ?_
  generalize hz : (fun i j => iv (f i j)) = z at hpre ⊢
  have hz' : ∀ i j, iv (f i j) = z i j := fun i j => by rw [← hz]
  simp only [hz']
  obtain ⟨c1, c2, c3, c4, c5⟩ := hpre
  have b1 := rinkB_iff.1 c1
  have b2 := sp3_iff.1 c2
  have b3 := sp3_iff.1 c3
  have b4 := in3_iff.1 c4
  have b5 := in3_iff.1 c5
  cases thin
  · simp only [side_eq, Try.f50, go_sem, ↓reduceIte, Nat.reduceAdd, Nat.reduceSub, Nat.reduceMul, Nat.reduceEqDiff, Nat.reduceLT, Nat.reduceLeDiff, Int.reduceToNat, Int.reduceLE, Int.reduceLT, Int.reduceEq, Int.reduceNeg, reduceCtorEq]
    refine loop_of { i : Nat // i ≤ n ∧ ∀ b, b < i → ∀ k, k < passes.toNat → after wl pl a (z b 1) (k + 1) ≤ limit } (fun i => [(15, .int .i64 (i.1 : Int)), (0, .row n 4 fun i j => .int .i64 (z i j)), (3, .int .i64 passes), (4, .int .i64 limit), (5, .int .i64 a), (6, .bool false), (8, .ptr 0 0), (9, .ptr 1 0)]) (fun _ => ⟨[.live 24 [.int .i64 wl, .int .i64 wh], .live 24 [.int .i64 pl, .int .i64 ph]], []⟩) (fun i => n - i.1) (fun _ => ⟨rfl, rfl⟩) ⟨0, by omega, by omega⟩ (by apply sub_of <;> simp only [after, go_sem, ↓reduceIte, Nat.reduceAdd, Nat.reduceSub, Nat.reduceMul, Nat.reduceEqDiff, Nat.reduceLT, Nat.reduceLeDiff, Int.reduceToNat, Int.reduceLE, Int.reduceLT, Int.reduceEq, Int.reduceNeg, reduceCtorEq] <;> (try simp)) ?_
    rintro ⟨i, hi, hb⟩
    simp only [side_eq, Try.f50, go_sem, ↓reduceIte, Nat.reduceAdd, Nat.reduceSub, Nat.reduceMul, Nat.reduceEqDiff, Nat.reduceLT, Nat.reduceLeDiff, Int.reduceToNat, Int.reduceLE, Int.reduceLT, Int.reduceEq, Int.reduceNeg, reduceCtorEq]
    refine ⟨fun e1 => ?_, fun e1 => ?_⟩
    · simp only [decide_eq_true_eq] at e1
      have e1' : i < n := by omega
      have hok := b1.2 i e1'
      simp only [okZ, Bool.and_eq_true, sp3_iff] at hok
      have hw := fun k => after_bd (w := wl) (p := pl) (a := a) (x := (z i 1)) (by omega) (by omega) (by omega) (by omega) (by omega) (by omega) k
      refine ⟨⟨by omega, by omega⟩, ?_⟩
      refine loop_of { q : Nat // q ≤ passes.toNat ∧ ∀ k, k < q → after wl pl a (z i 1) (k + 1) ≤ limit } (fun q => [(17, .int .i64 (q.1 : Int)), (16, .int .i64 (after wl pl a (z i 1) q.1)), (15, .int .i64 (i : Int)), (0, .row n 4 fun i j => .int .i64 (z i j)), (3, .int .i64 passes), (4, .int .i64 limit), (5, .int .i64 a), (6, .bool false), (8, .ptr 0 0), (9, .ptr 1 0)]) (fun _ => ⟨[.live 24 [.int .i64 wl, .int .i64 wh], .live 24 [.int .i64 pl, .int .i64 ph]], []⟩) (fun q => passes.toNat - q.1) (fun _ => ⟨rfl, rfl⟩) ⟨0, by omega, by omega⟩ (by apply sub_of <;> simp only [after, go_sem, ↓reduceIte, Nat.reduceAdd, Nat.reduceSub, Nat.reduceMul, Nat.reduceEqDiff, Nat.reduceLT, Nat.reduceLeDiff, Int.reduceToNat, Int.reduceLE, Int.reduceLT, Int.reduceEq, Int.reduceNeg, reduceCtorEq] <;> (try simp)) ?_
      rintro ⟨q, hq1, hq2⟩
      simp only [side_eq, Try.f50, go_sem, ↓reduceIte, Nat.reduceAdd, Nat.reduceSub, Nat.reduceMul, Nat.reduceEqDiff, Nat.reduceLT, Nat.reduceLeDiff, Int.reduceToNat, Int.reduceLE, Int.reduceLT, Int.reduceEq, Int.reduceNeg, reduceCtorEq]
      have hwq := hw q
      have hwp : IntKind.i64.wrap (max 0 (IntKind.i64.wrap (max 0 (IntKind.i64.wrap (after wl pl a (z i 1) q - wl)) - pl)) + a) = after wl pl a (z i 1) (q + 1) := pass_wrap (by omega) (by omega) (by omega) (by omega) (by omega) (by omega) (by omega) (by omega)
      simp only [hwp]
      refine ⟨fun f1 => ⟨fun f2 => ?_, fun f2 => ?_⟩, fun f1 => ?_⟩
      · simp only [decide_eq_true_eq] at f1
        have f3 : ¬ (after wl pl a (z i 1) (q + 1) ≤ limit) := by simpa using f2
        rw [goesR, all2_false (p := fun i k => decide (after wl pl a (z i 1) (k + 1) ≤ limit)) e1' (q := q) (by omega) (by simpa using f3)]
      · simp only [decide_eq_true_eq] at f1
        have f3 : after wl pl a (z i 1) (q + 1) ≤ limit := by simpa using f2
        rw [wrap_id (x := (q : Int) + 1) (by omega) (by omega)]
        refine ⟨⟨q + 1, by omega, fun k hk => ?_⟩, by simp only []; omega, by apply sub_of <;> simp only [after, go_sem, ↓reduceIte, Nat.reduceAdd, Nat.reduceSub, Nat.reduceMul, Nat.reduceEqDiff, Nat.reduceLT, Nat.reduceLeDiff, Int.reduceToNat, Int.reduceLE, Int.reduceLT, Int.reduceEq, Int.reduceNeg, reduceCtorEq] <;> (try simp)⟩
        by_cases e : k = q
        · subst e; exact f3
        · exact hq2 k (by omega)
      · simp only [decide_eq_false_iff_not] at f1
        rw [wrap_id (x := (i : Int) + 1) (by omega) (by omega)]
        refine ⟨⟨i + 1, by omega, fun b hb1 k hk => ?_⟩, by simp only []; omega, by apply sub_of <;> simp only [after, go_sem, ↓reduceIte, Nat.reduceAdd, Nat.reduceSub, Nat.reduceMul, Nat.reduceEqDiff, Nat.reduceLT, Nat.reduceLeDiff, Int.reduceToNat, Int.reduceLE, Int.reduceLT, Int.reduceEq, Int.reduceNeg, reduceCtorEq] <;> (try simp)⟩
        by_cases e : b = i
        · subst e; exact hq2 k (by omega)
        · exact hb b (by omega) k hk
    · simp only [decide_eq_false_iff_not] at e1
      have : i = n := by omega
      subst this
      rw [goesR, all2_true (p := fun i k => decide (after wl pl a (z i 1) (k + 1) ≤ limit)) |>.2 fun b hb1 k hk => by simpa using hb b hb1 k hk]
  · simp only [side_eq, Try.f50, go_sem, ↓reduceIte, Nat.reduceAdd, Nat.reduceSub, Nat.reduceMul, Nat.reduceEqDiff, Nat.reduceLT, Nat.reduceLeDiff, Int.reduceToNat, Int.reduceLE, Int.reduceLT, Int.reduceEq, Int.reduceNeg, reduceCtorEq]
    refine loop_of { i : Nat // i ≤ n ∧ ∀ b, b < i → ∀ k, k < passes.toNat → limit ≤ after wh ph a (z b 0) (k + 1) } (fun i => [(15, .int .i64 (i.1 : Int)), (0, .row n 4 fun i j => .int .i64 (z i j)), (3, .int .i64 passes), (4, .int .i64 limit), (5, .int .i64 a), (6, .bool true), (8, .ptr 0 0), (9, .ptr 1 0)]) (fun _ => ⟨[.live 24 [.int .i64 wl, .int .i64 wh], .live 24 [.int .i64 pl, .int .i64 ph]], []⟩) (fun i => n - i.1) (fun _ => ⟨rfl, rfl⟩) ⟨0, by omega, by omega⟩ (by apply sub_of <;> simp only [after, go_sem, ↓reduceIte, Nat.reduceAdd, Nat.reduceSub, Nat.reduceMul, Nat.reduceEqDiff, Nat.reduceLT, Nat.reduceLeDiff, Int.reduceToNat, Int.reduceLE, Int.reduceLT, Int.reduceEq, Int.reduceNeg, reduceCtorEq] <;> (try simp)) ?_
    rintro ⟨i, hi, hb⟩
    simp only [side_eq, Try.f50, go_sem, ↓reduceIte, Nat.reduceAdd, Nat.reduceSub, Nat.reduceMul, Nat.reduceEqDiff, Nat.reduceLT, Nat.reduceLeDiff, Int.reduceToNat, Int.reduceLE, Int.reduceLT, Int.reduceEq, Int.reduceNeg, reduceCtorEq]
    refine ⟨fun e1 => ?_, fun e1 => ?_⟩
    · simp only [decide_eq_true_eq] at e1
      have e1' : i < n := by omega
      have hok := b1.2 i e1'
      simp only [okZ, Bool.and_eq_true, sp3_iff] at hok
      have hw := fun k => after_bd (w := wh) (p := ph) (a := a) (x := (z i 0)) (by omega) (by omega) (by omega) (by omega) (by omega) (by omega) k
      refine ⟨⟨by omega, by omega⟩, ⟨by omega, by omega⟩, ?_⟩
      refine loop_of { q : Nat // q ≤ passes.toNat ∧ ∀ k, k < q → limit ≤ after wh ph a (z i 0) (k + 1) } (fun q => [(17, .int .i64 (q.1 : Int)), (16, .int .i64 (after wh ph a (z i 0) q.1)), (15, .int .i64 (i : Int)), (0, .row n 4 fun i j => .int .i64 (z i j)), (3, .int .i64 passes), (4, .int .i64 limit), (5, .int .i64 a), (6, .bool true), (8, .ptr 0 0), (9, .ptr 1 0)]) (fun _ => ⟨[.live 24 [.int .i64 wl, .int .i64 wh], .live 24 [.int .i64 pl, .int .i64 ph]], []⟩) (fun q => passes.toNat - q.1) (fun _ => ⟨rfl, rfl⟩) ⟨0, by omega, by omega⟩ (by apply sub_of <;> simp only [after, go_sem, ↓reduceIte, Nat.reduceAdd, Nat.reduceSub, Nat.reduceMul, Nat.reduceEqDiff, Nat.reduceLT, Nat.reduceLeDiff, Int.reduceToNat, Int.reduceLE, Int.reduceLT, Int.reduceEq, Int.reduceNeg, reduceCtorEq] <;> (try simp)) ?_
      rintro ⟨q, hq1, hq2⟩
      simp only [side_eq, Try.f50, go_sem, ↓reduceIte, Nat.reduceAdd, Nat.reduceSub, Nat.reduceMul, Nat.reduceEqDiff, Nat.reduceLT, Nat.reduceLeDiff, Int.reduceToNat, Int.reduceLE, Int.reduceLT, Int.reduceEq, Int.reduceNeg, reduceCtorEq]
      have hwq := hw q
      have hwp : IntKind.i64.wrap (max 0 (IntKind.i64.wrap (max 0 (IntKind.i64.wrap (after wh ph a (z i 0) q - wh)) - ph)) + a) = after wh ph a (z i 0) (q + 1) := pass_wrap (by omega) (by omega) (by omega) (by omega) (by omega) (by omega) (by omega) (by omega)
      simp only [hwp]
      refine ⟨fun f1 => ⟨fun f2 => ?_, fun f2 => ?_⟩, fun f1 => ?_⟩
      · simp only [decide_eq_true_eq] at f1
        have f3 : ¬ (limit ≤ after wh ph a (z i 0) (q + 1)) := by simpa using f2
        rw [goesR, all2_false (p := fun i k => decide (limit ≤ after wh ph a (z i 0) (k + 1))) e1' (q := q) (by omega) (by simpa using f3)]
      · simp only [decide_eq_true_eq] at f1
        have f3 : limit ≤ after wh ph a (z i 0) (q + 1) := by simpa using f2
        rw [wrap_id (x := (q : Int) + 1) (by omega) (by omega)]
        refine ⟨⟨q + 1, by omega, fun k hk => ?_⟩, by simp only []; omega, by apply sub_of <;> simp only [after, go_sem, ↓reduceIte, Nat.reduceAdd, Nat.reduceSub, Nat.reduceMul, Nat.reduceEqDiff, Nat.reduceLT, Nat.reduceLeDiff, Int.reduceToNat, Int.reduceLE, Int.reduceLT, Int.reduceEq, Int.reduceNeg, reduceCtorEq] <;> (try simp)⟩
        by_cases e : k = q
        · subst e; exact f3
        · exact hq2 k (by omega)
      · simp only [decide_eq_false_iff_not] at f1
        rw [wrap_id (x := (i : Int) + 1) (by omega) (by omega)]
        refine ⟨⟨i + 1, by omega, fun b hb1 k hk => ?_⟩, by simp only []; omega, by apply sub_of <;> simp only [after, go_sem, ↓reduceIte, Nat.reduceAdd, Nat.reduceSub, Nat.reduceMul, Nat.reduceEqDiff, Nat.reduceLT, Nat.reduceLeDiff, Int.reduceToNat, Int.reduceLE, Int.reduceLT, Int.reduceEq, Int.reduceNeg, reduceCtorEq] <;> (try simp)⟩
        by_cases e : b = i
        · subst e; exact hq2 k (by omega)
        · exact hb b (by omega) k hk
    · simp only [decide_eq_false_iff_not] at e1
      have : i = n := by omega
      subst this
      rw [goesR, all2_true (p := fun i k => decide (limit ≤ after wh ph a (z i 0) (k + 1))) |>.2 fun b hb1 k hk => by simpa using hb b hb1 k hk]

/-- The least and the greatest amount, tried one by one. -/
def tried (g : Nat → Bool) : Nat → Int × Int
  | 0 => (20001, -1)
  | a + 1 => if g a = true then (min (tried g a).1 (a : Int), (a : Int)) else tried g a
def goodB (n passes : Nat) (z : Nat → Nat → Int) (wl wh pl ph least most : Int) (a : Nat) : Bool := goesR n passes z wl wh pl ph least (a : Int) true && goesR n passes z wl wh pl ph most (a : Int) false
def rwaterR (n : Nat) (z : Nat → Nat → Int) (wl wh pl ph : Int) (passes : Int) (least most : Int) : SV :=
  if rinkB n z = true ∧ sp3 wl wh 20000 = true ∧ sp3 pl ph 20000 = true then
    if in3 passes 1 100 = true ∧ in3 most 0 20000 = true ∧ in3 least 0 most = true then
      if (tried (goodB n passes.toNat z wl wh pl ph least most) 20001).2 < 0 then .tup [.agg [.int .i64 0, .int .i64 0], .int .i64 4]
      else .tup [.agg [.int .i64 (tried (goodB n passes.toNat z wl wh pl ph least most) 20001).1, .int .i64 (tried (goodB n passes.toNat z wl wh pl ph least most) 20001).2], .int .i64 0]
    else .tup [.agg [.int .i64 0, .int .i64 0], .int .i64 2]
  else .tup [.agg [.int .i64 0, .int .i64 0], .int .i64 1]
def rwaterBase : BaseF := fun args => match args with
  | [.row n sz f, .agg [.int .i64 wl, .int .i64 wh], .agg [.int .i64 pl, .int .i64 ph], .int .i64 passes, .int .i64 least, .int .i64 most] => some (sz = 4 ∧ IntR n 4 f, rwaterR n (fun i j => iv (f i j)) wl wh pl ph passes least most)
  | _ => none
theorem rwater_base : Base Try.prog 15 rwaterBase := by
  intro args p v hq hp
  unfold rwaterBase at hq
  split at hq
  rotate_left
  · cases hq
  rename_i n sz f wl wh pl ph passes least most
  cases hq
  obtain ⟨rfl, hf⟩ := hp
  refine base_of (C := cx [] [] [(16, rinkBase), (48, withinBase), (49, inBase), (50, goesBase)] [] none) (cx_ok trivial ⟨rink_base, within_base, in_base, goes_base, trivial⟩) rfl (g := 15) (fn := Try.f15)
      (args' := [.row n 4 fun i j => .int .i64 (iv (f i j)), .agg [.int .i64 wl, .int .i64 wh], .agg [.int .i64 pl, .int .i64 ph], .int .i64 passes, .int .i64 least, .int .i64 most]) (fn_15) rfl 1000 (by simp only [BdL, Bd, and_true]; intro i j hi hj; rw [hf i j hi hj]; trivial) ⟨SameD.int hf, SameD.rfl' _, SameD.rfl' _, SameD.rfl' _, SameD.rfl' _, SameD.rfl' _, trivial⟩ ?_
  generalize hz : (fun i j => iv (f i j)) = z
  have hz' : ∀ i j, iv (f i j) = z i j := fun i j => by rw [← hz]
  simp only [hz']
  simp only [in_eq, rink_eq, within_eq, Try.f15, go_sem, ↓reduceIte, Nat.reduceAdd, Nat.reduceSub, Nat.reduceMul, Nat.reduceEqDiff, Nat.reduceLT, Nat.reduceLeDiff, Int.reduceToNat, Int.reduceLE, Int.reduceLT, Int.reduceEq, Int.reduceNeg, reduceCtorEq]
  have no1 : rinkB n z = false ∨ sp3 wl wh 20000 = false ∨ sp3 pl ph 20000 = false → SV.tup [.agg [.int .i64 0, .int .i64 0], .int .i64 1] = rwaterR n z wl wh pl ph passes least most := fun h => by
    unfold rwaterR; rw [if_neg]; rintro ⟨h1, h2, h3⟩; rw [h1, h2, h3] at h; simp at h
  refine ⟨fun c1 => no1 (by simp at c1; simp [c1]), fun c1 => ⟨fun c2 => no1 (by simp at c2; simp [c2]), fun c2 => ⟨fun c3 => no1 (by simp at c3; simp [c3]), fun c3 => ?_⟩⟩⟩
  simp only [Bool.not_eq_false'] at c1 c2 c3
  have no2 : in3 passes 1 100 = false ∨ in3 most 0 20000 = false ∨ in3 least 0 most = false → SV.tup [.agg [.int .i64 0, .int .i64 0], .int .i64 2] = rwaterR n z wl wh pl ph passes least most := fun h => by
    unfold rwaterR; rw [if_pos ⟨c1, c2, c3⟩, if_neg]; rintro ⟨h1, h2, h3⟩; rw [h1, h2, h3] at h; simp at h
  refine ⟨fun c4 => no2 (by simp at c4; simp [c4]), fun c4 => ⟨fun c5 => no2 (by simp at c5; simp [c5]), fun c5 => ⟨fun c6 => no2 (by simp at c6; simp [c6]), fun c6 => ?_⟩⟩⟩
  simp only [Bool.not_eq_false'] at c4 c5 c6
  refine loop_of { a : Nat // a ≤ 20001 } (fun a => [(15, .int .i64 (a.1 : Int)), (0, .row n 4 fun i j => .int .i64 (z i j)), (3, .int .i64 passes), (4, .int .i64 least), (5, .int .i64 most), (7, .ptr 0 0), (8, .ptr 1 0), (12, .ptr 2 0), (13, .int .i64 0), (14, .ptr 3 0)])
    (fun a => ⟨[.live 24 [.int .i64 wl, .int .i64 wh], .live 24 [.int .i64 pl, .int .i64 ph], .live 24 [.int .i64 0, .int .i64 0], .live 24 [.int .i64 (tried (goodB n passes.toNat z wl wh pl ph least most) a.1).1, .int .i64 (tried (goodB n passes.toNat z wl wh pl ph least most) a.1).2]], []⟩)
    (fun a => 20001 - a.1) (fun _ => ⟨rfl, rfl⟩) ⟨0, by omega⟩ (by apply sub_of <;> simp only [tried, go_sem, ↓reduceIte, Nat.reduceAdd, Nat.reduceSub, Nat.reduceMul, Nat.reduceEqDiff, Nat.reduceLT, Nat.reduceLeDiff, Int.reduceToNat, Int.reduceLE, Int.reduceLT, Int.reduceEq, Int.reduceNeg, reduceCtorEq] <;> (try simp)) ?_
  rintro ⟨a, ha⟩
  simp only [in_eq, rink_eq, within_eq, goes_eq, Try.f15, go_sem, ↓reduceIte, Nat.reduceAdd, Nat.reduceSub, Nat.reduceMul, Nat.reduceEqDiff, Nat.reduceLT, Nat.reduceLeDiff, Int.reduceToNat, Int.reduceLE, Int.reduceLT, Int.reduceEq, Int.reduceNeg, reduceCtorEq]
  have hgp : a ≤ 20000 → goesPre n (fun i j => z i j) wl wh pl ph passes (a : Int) := fun h => ⟨c1, c2, c3, c4, in3_iff.2 ⟨by omega, by omega⟩⟩
  refine ⟨fun d1 => ?_, fun d1 => ?_⟩
  · simp only [decide_eq_true_eq] at d1
    have hg := hgp (by omega)
    rw [wrap_id (by omega) (by omega)]
    refine ⟨hg, fun g1 => ⟨hg, fun g2 => ?_, fun g2 => ?_⟩, fun g1 => ?_⟩
    · have e : tried (goodB n passes.toNat z wl wh pl ph least most) (a + 1) = (min (tried (goodB n passes.toNat z wl wh pl ph least most) a).1 (a : Int), (a : Int)) := by
        simp only [tried]; rw [if_pos]; simp only [goodB]; rw [g1, g2]; rfl
      exact ⟨⟨a + 1, by omega⟩, by simp only []; omega, by apply sub_of <;> simp only [e, go_sem, ↓reduceIte, Nat.reduceAdd, Nat.reduceSub, Nat.reduceMul, Nat.reduceEqDiff, Nat.reduceLT, Nat.reduceLeDiff, Int.reduceToNat, Int.reduceLE, Int.reduceLT, Int.reduceEq, Int.reduceNeg, reduceCtorEq] <;> (try simp)⟩
    · have e : tried (goodB n passes.toNat z wl wh pl ph least most) (a + 1) = tried (goodB n passes.toNat z wl wh pl ph least most) a := by
        simp only [tried]; rw [if_neg]; simp only [goodB]; rw [g2]; simp
      exact ⟨⟨a + 1, by omega⟩, by simp only []; omega, by apply sub_of <;> simp only [e, go_sem, ↓reduceIte, Nat.reduceAdd, Nat.reduceSub, Nat.reduceMul, Nat.reduceEqDiff, Nat.reduceLT, Nat.reduceLeDiff, Int.reduceToNat, Int.reduceLE, Int.reduceLT, Int.reduceEq, Int.reduceNeg, reduceCtorEq] <;> (try simp)⟩
    · have e : tried (goodB n passes.toNat z wl wh pl ph least most) (a + 1) = tried (goodB n passes.toNat z wl wh pl ph least most) a := by
        simp only [tried]; rw [if_neg]; simp only [goodB]; rw [g1]; simp
      exact ⟨⟨a + 1, by omega⟩, by simp only []; omega, by apply sub_of <;> simp only [e, go_sem, ↓reduceIte, Nat.reduceAdd, Nat.reduceSub, Nat.reduceMul, Nat.reduceEqDiff, Nat.reduceLT, Nat.reduceLeDiff, Int.reduceToNat, Int.reduceLE, Int.reduceLT, Int.reduceEq, Int.reduceNeg, reduceCtorEq] <;> (try simp)⟩
  · simp only [decide_eq_false_iff_not] at d1
    have e : a = 20001 := by omega
    subst e
    unfold rwaterR
    rw [if_pos ⟨c1, c2, c3⟩, if_pos ⟨c4, c5, c6⟩]
    refine ⟨fun g1 => ?_, fun g1 => ?_⟩
    · rw [if_pos (by simpa using g1)]
    · rw [if_neg (by simpa using g1)]
end Go.Eng
end

/- The plain law: both Waters tell the same. -/
section
namespace Go.Eng
theorem pass_mono {w p a b x y : Int} (hab : a ≤ b) (hxy : x ≤ y) : pass w p a x ≤ pass w p b y := by
  unfold pass; omega
theorem after_mono {w p a b x : Int} (hab : a ≤ b) : ∀ k, after w p a x k ≤ after w p b x k
  | 0 => by simp [after]
  | k + 1 => pass_mono hab (after_mono hab k)
theorem srch_mono {p : Nat → Bool} {N : Nat} (hp : ∀ a b, a ≤ b → b < N → p a = true → p b = true) : ∀ (f i j : Nat), j - i ≤ f → i ≤ j → j ≤ N → (∀ k, k < i → p k = false) → (∀ k, j ≤ k → k < N → p k = true) →
    srch p f i j ≤ N ∧ (∀ k, k < srch p f i j → p k = false) ∧ ∀ k, srch p f i j ≤ k → k < N → p k = true
  | 0, i, j, h, hij, hj, h1, h2 => by
    have : i = j := by omega
    subst this
    exact ⟨hj, h1, h2⟩
  | f + 1, i, j, h, hij, hj, h1, h2 => by
    simp only [srch]
    split
    · split
      · rename_i hlt hm
        exact srch_mono hp f i ((i + j) / 2) (by omega) (by omega) (by omega) h1 (fun k hk hkN => hp _ _ hk hkN hm)
      · rename_i hlt hm
        refine srch_mono hp f ((i + j) / 2 + 1) j (by omega) (by omega) hj (fun k hk => ?_) h2
        cases hk2 : p k with
        | false => rfl
        | true => exact absurd (hp k ((i + j) / 2) (by omega) (by omega) hk2) hm
    · have : i = j := by omega
      subst this
      exact ⟨hj, h1, h2⟩
theorem tried_of {g : Nat → Bool} {e m : Nat} : ∀ (N : Nat), N ≤ 20001 → (∀ a, a < N → (g a = true ↔ e ≤ a ∧ a < m)) → tried g N = if N ≤ e ∨ m ≤ e then ((20001 : Int), (-1 : Int)) else ((e : Int), (((min (m - 1) (N - 1) : Nat)) : Int))
  | 0, _, _ => by simp [tried]
  | N + 1, hN, hg => by
    have ih := tried_of N (by omega) (fun a ha => hg a (by omega))
    simp only [tried, ih]
    have hgN := hg N (by omega)
    by_cases h : g N = true
    · rw [if_pos h]
      obtain ⟨h1, h2⟩ := hgN.1 h
      rw [if_neg (show ¬ (N + 1 ≤ e ∨ m ≤ e) by omega)]
      by_cases h3 : N ≤ e
      · rw [if_pos (by omega)]
        have : e = N := by omega
        subst this
        simp only [Prod.mk.injEq]
        constructor <;> omega
      · rw [if_neg (by omega)]
        simp only [Prod.mk.injEq]
        constructor <;> omega
    · rw [if_neg h]
      have h1 : ¬ (e ≤ N ∧ N < m) := fun hc => h (hgN.2 hc)
      by_cases h3 : N ≤ e ∨ m ≤ e
      · rw [if_pos h3, if_pos (by omega)]
      · rw [if_neg h3, if_neg (by omega)]
        simp only [Prod.mk.injEq, true_and]
        omega
theorem waters_same (n : Nat) (z : Nat → Nat → Int) (wl wh pl ph passes least most : Int) : waterR n z wl wh pl ph passes least most = rwaterR n z wl wh pl ph passes least most := by
  unfold waterR rwaterR
  split
  rotate_left
  · rfl
  split
  rotate_left
  · rfl
  have hE : ∀ a, enoughB n passes.toNat (fun i => z i 0) wh ph least a = goesR n passes.toNat z wl wh pl ph least (a : Int) true := fun _ => rfl
  have hM : ∀ a, muchB n passes.toNat (fun i => z i 1) wl pl most a = !goesR n passes.toNat z wl wh pl ph most (a : Int) false := fun _ => rfl
  have mE : ∀ a b, a ≤ b → b < 20001 → enoughB n passes.toNat (fun i => z i 0) wh ph least a = true → enoughB n passes.toNat (fun i => z i 0) wh ph least b = true := by
    intro a b hab _ h
    simp only [enoughB, all2_true, decide_eq_true_eq] at h ⊢
    exact fun i hi q hq => Int.le_trans (h i hi q hq) (after_mono (by omega) _)
  have mM : ∀ a b, a ≤ b → b < 20001 → muchB n passes.toNat (fun i => z i 1) wl pl most a = true → muchB n passes.toNat (fun i => z i 1) wl pl most b = true := by
    intro a b hab _ h
    simp only [muchB, Bool.not_eq_true'] at h ⊢
    cases hc : allU (fun i => allU (fun k => decide (after wl pl (b : Int) (z i 1) (k + 1) ≤ most)) passes.toNat) n with
    | false => rfl
    | true =>
      exfalso
      have h2 : allU (fun i => allU (fun k => decide (after wl pl (a : Int) (z i 1) (k + 1) ≤ most)) passes.toNat) n = true := by
        simp only [all2_true, decide_eq_true_eq] at hc ⊢
        exact fun i hi q hq => Int.le_trans (after_mono (by omega) _) (hc i hi q hq)
      rw [h2] at h
      cases h
  obtain ⟨e1, e2, e3⟩ := srch_mono mE 20001 0 20001 (by omega) (by omega) (by omega) (fun k hk => by omega) (fun k hk hk2 => by omega)
  obtain ⟨m1, m2, m3⟩ := srch_mono mM 20001 0 20001 (by omega) (by omega) (by omega) (fun k hk => by omega) (fun k hk hk2 => by omega)
  generalize srch (enoughB n passes.toNat (fun i => z i 0) wh ph least) 20001 0 20001 = e at *
  generalize srch (muchB n passes.toNat (fun i => z i 1) wl pl most) 20001 0 20001 = m at *
  have hg : ∀ a, a < 20001 → (goodB n passes.toNat z wl wh pl ph least most a = true ↔ e ≤ a ∧ a < m) := by
    intro a ha
    simp only [goodB, ← hE, Bool.and_eq_true]
    have hM' : goesR n passes.toNat z wl wh pl ph most (a : Int) false = !muchB n passes.toNat (fun i => z i 1) wl pl most a := by rw [hM]; simp
    rw [hM']
    constructor
    · rintro ⟨h1, h2⟩
      refine ⟨?_, ?_⟩
      · rcases Nat.lt_or_ge a e with h | h
        · rw [e2 a h] at h1; cases h1
        · exact h
      · rcases Nat.lt_or_ge a m with h | h
        · exact h
        · rw [m3 a h ha] at h2; cases h2
    · rintro ⟨h1, h2⟩
      exact ⟨e3 a h1 ha, by rw [m2 a h2]; rfl⟩
  have ht := tried_of 20001 (by omega) hg
  rw [ht]
  simp only []
  by_cases h : m ≤ e
  · have h5 : 20001 ≤ e ∨ m ≤ e := Or.inr h
    rw [if_pos h, if_pos h5]
    simp
  · have h5 : ¬ (20001 ≤ e ∨ m ≤ e) := by omega
    rw [if_neg h, if_neg h5]
    simp only []
    rw [if_neg (by omega)]
    have : ((min (m - 1) (20001 - 1) : Nat) : Int) = (m : Int) - 1 := by omega
    rw [this]
end Go.Eng
end

/- What events do with zones, in plain words. -/
section
namespace Go.Eng
structure PSt where
  z : Nat → Nat → Int
  s : Nat → Int
def dA (k lo hi a : Int) : Int := if k = 0 then a + lo else if k = 1 then max 0 (a - hi) else if k = 2 then max 0 (a - hi) else if k = 3 then max a lo else a
def dB (k lo hi b : Int) : Int := if k = 0 then b + hi else if k = 1 then max 0 (b - lo) else if k = 2 then max 0 (b - lo) else if k = 3 then min b hi else b
def dErr (k lo hi a b : Int) : Int := if k = 0 then (if 20000 < b + hi then 12 else 0) else if k = 3 then (if min b hi < max a lo then 6 else 0) else 0
def dZ (e z : Nat → Int) : Nat → Int
  | 0 => dA (e 0) (e 3) (e 4) (z 0)
  | 1 => dB (e 0) (e 3) (e 4) (z 1)
  | 2 => if e 0 = 4 then z 0 else z 2
  | 3 => if e 0 = 4 then z 1 else z 3
  | n + 4 => z (n + 4)
/-- What is added to the sums. -/
def dS (e z : Nat → Int) : Nat → Int
  | 0 => if e 0 = 0 then e 3 else 0
  | 1 => if e 0 = 0 then e 4 else 0
  | 2 => if e 0 = 1 then min (z 0) (e 3) else 0
  | 3 => if e 0 = 1 then min (z 1) (e 4) else 0
  | 4 => if e 0 = 2 then min (z 0) (e 3) else 0
  | 5 => if e 0 = 2 then min (z 1) (e 4) else 0
  | _ + 6 => 0
def zErr (e z : Nat → Int) : Int := dErr (e 0) (e 3) (e 4) (z 0) (z 1)
def stepZ (e : Nat → Int) (k : Nat) (x : PSt) : PSt := ⟨fun i j => if i = k then dZ e (x.z k) j else x.z i j, fun j => x.s j + dS e (x.z k) j⟩
def zRun (e : Nat → Int) : Nat → Nat → PSt → Int ⊕ PSt
  | 0, _, x => .inr x
  | c + 1, k, x => if zErr e (x.z k) = 0 then zRun e c (k + 1) (stepZ e k x) else .inl (zErr e (x.z k))
def evOk (n : Int) (e : Nat → Int) : Bool :=
  in3 (e 1) 0 (n - 1) && (if e 0 = 3 then sp3 (e 3) (e 4) 20000 else in3 (e 2) (e 1) (n - 1) && (in3 (e 0) 0 4 && (e 0 = 4 || sp3 (e 3) (e 4) 20000)))
def toOf (e : Nat → Int) : Int := if e 0 = 3 then e 1 else e 2
def evRun (n : Int) (l : Nat → Nat → Int) : Nat → Nat → PSt → (Nat × Int) ⊕ PSt
  | 0, _, x => .inr x
  | c + 1, i, x => if evOk n (l i) = true then
      match zRun (l i) (toOf (l i) - l i 1 + 1).toNat (l i 1).toNat x with
      | .inl e => .inl (i, e)
      | .inr x' => evRun n l c (i + 1) x'
    else .inl (i, 1)
/-- Every zone is as it may be. -/
def AllOk (n : Nat) (x : PSt) : Prop := ∀ i, i < n → okZ (x.z i) = true
def SumB (b : Int) (x : PSt) : Prop := ∀ j, 0 ≤ x.s j ∧ x.s j ≤ b
/-- What is done to a zone is in bounds: the event's numbers. -/
def EvB (e : Nat → Int) : Prop := (0 ≤ e 0 ∧ e 0 ≤ 4) ∧ (e 0 ≠ 4 → 0 ≤ e 3 ∧ e 3 ≤ e 4 ∧ e 4 ≤ 20000)
theorem okZ_iff {z : Nat → Int} : okZ z = true ↔ (0 ≤ z 0 ∧ z 0 ≤ z 1 ∧ z 1 ≤ 20000) ∧ 0 ≤ z 2 ∧ z 2 ≤ z 3 ∧ z 3 ≤ 20000 := by
  simp only [okZ, Bool.and_eq_true, sp3_iff]
theorem evOk_iff {n : Int} {e : Nat → Int} : evOk n e = true ↔ (0 ≤ e 1 ∧ e 1 ≤ toOf e ∧ toOf e ≤ n - 1) ∧ EvB e := by
  unfold evOk toOf EvB
  simp only [Bool.and_eq_true, in3_iff]
  by_cases h3 : e 0 = 3
  · rw [if_pos h3, if_pos h3, sp3_iff]
    omega
  · rw [if_neg h3, if_neg h3]
    simp only [Bool.and_eq_true, in3_iff, Bool.or_eq_true, decide_eq_true_eq, sp3_iff]
    by_cases h4 : e 0 = 4
    · simp [h4]; try omega
    · simp [h4]; try omega
theorem zone_ok {e z : Nat → Int} (he : EvB e) (hz : okZ z = true) (h0 : zErr e z = 0) : okZ (dZ e z) = true := by
  rw [okZ_iff] at hz ⊢
  obtain ⟨he1, he2⟩ := he
  simp only [zErr, dErr] at h0
  simp only [dZ, dA, dB]
  by_cases k0 : e 0 = 0
  · simp only [k0, if_true] at h0 ⊢; have := he2 (by omega); split at h0 <;> simp_all <;> omega
  by_cases k1 : e 0 = 1
  · have := he2 (by omega); simp [k1]; omega
  by_cases k2 : e 0 = 2
  · have := he2 (by omega); simp [k2]; omega
  by_cases k3 : e 0 = 3
  · have := he2 (by omega); simp [k3] at h0 ⊢; omega
  have k4 : e 0 = 4 := by omega
  simp [k4]; omega
theorem dS_bd {e z : Nat → Int} (he : EvB e) (hz : okZ z = true) (j : Nat) : 0 ≤ dS e z j ∧ dS e z j ≤ 20000 := by
  rw [okZ_iff] at hz
  obtain ⟨he1, he2⟩ := he
  match j with
  | 0 => simp only [dS]; split <;> omega
  | 1 => simp only [dS]; split <;> omega
  | 2 => simp only [dS]; split <;> omega
  | 3 => simp only [dS]; split <;> omega
  | 4 => simp only [dS]; split <;> omega
  | 5 => simp only [dS]; split <;> omega
  | n + 6 => simp [dS]
theorem step_ok {n k : Nat} {e : Nat → Int} {x : PSt} (he : EvB e) (hx : AllOk n x) (hk : k < n) (h0 : zErr e (x.z k) = 0) : AllOk n (stepZ e k x) := by
  intro i hi
  by_cases h : i = k
  · subst h
    have : (stepZ e i x).z i = dZ e (x.z i) := by funext j; simp [stepZ]
    rw [this]; exact zone_ok he (hx i hi) h0
  · have : (stepZ e k x).z i = x.z i := by funext j; simp [stepZ, h]
    rw [this]; exact hx i hi
theorem step_sum {n k : Nat} {e : Nat → Int} {x : PSt} {b : Int} (he : EvB e) (hx : AllOk n x) (hk : k < n) (hs : SumB b x) : SumB (b + 20000) (stepZ e k x) := by
  intro j
  have := dS_bd he (hx k hk) j
  have := hs j
  simp only [stepZ]
  omega
end Go.Eng
end

/- Event, do: the document's. -/
section
namespace Go.Eng
open Go Go.RowKit Go.Proofs
set_option maxRecDepth 100000
set_option maxHeartbeats 4000000
def f5 (a b c d e : Int) : Nat → Int
  | 0 => a
  | 1 => b
  | 2 => c
  | 3 => d
  | _ => e
def f4 (a b c d : Int) : Nat → Int
  | 0 => a
  | 1 => b
  | 2 => c
  | _ => d
def eventBase : BaseF := fun args => match args with
  | [.agg [.int .i64 k, .int .i64 fr, .int .i64 to, .int .i64 lo, .int .i64 hi], .int .i64 n] => some (1 ≤ n ∧ n ≤ 1000000, .bool (evOk n (f5 k fr to lo hi)))
  | _ => none
theorem event_eq (k fr to lo hi n : Int) : eventBase [.agg [.int .i64 k, .int .i64 fr, .int .i64 to, .int .i64 lo, .int .i64 hi], .int .i64 n] = some (1 ≤ n ∧ n ≤ 1000000, .bool (evOk n (f5 k fr to lo hi))) := rfl
theorem event_base : Base Try.prog 18 eventBase := by
  intro args p v hq hp
  unfold eventBase at hq
  split at hq
  rotate_left
  · cases hq
  rename_i k fr to lo hi n
  cases hq
  refine base_of (C := cx [] [] [(48, withinBase), (49, inBase)] [] none) (cx_ok trivial ⟨within_base, in_base, trivial⟩) rfl (g := 18) (fn := Try.f18)
    (args' := [.agg [.int .i64 k, .int .i64 fr, .int .i64 to, .int .i64 lo, .int .i64 hi], .int .i64 n]) (fn_18) rfl 1000 (by simp only [BdL, Bd, and_self]) ⟨SameD.rfl' _, SameD.rfl' _, trivial⟩ ?_
  simp only [in_eq, within_eq, Try.f18, go_sem, ↓reduceIte, Nat.reduceAdd, Nat.reduceSub, Nat.reduceMul, Nat.reduceEqDiff, Nat.reduceLT, Nat.reduceLeDiff, Int.reduceToNat, Int.reduceLE, Int.reduceLT, Int.reduceEq, Int.reduceNeg, reduceCtorEq]
  have hw : IntKind.i64.wrap (n - 1) = n - 1 := wrap_id (by omega) (by omega)
  simp only [hw]
  simp only [spl, decide_eq_true_eq, decide_eq_false_iff_not, Bool.not_eq_true', Bool.not_eq_false', SV.bool.injEq]
  have e1 : evOk n (f5 k fr to lo hi) = (in3 fr 0 (n - 1) && (if k = 3 then sp3 lo hi 20000 else in3 to fr (n - 1) && (in3 k 0 4 && (k = 4 || sp3 lo hi 20000)))) := rfl
  rw [e1]
  have i0 : in3 0 0 4 = true := by decide
  have i1 : in3 1 0 4 = true := by decide
  have i2 : in3 2 0 4 = true := by decide
  have i4 : in3 4 0 4 = true := by decide
  have in5 : k ≠ 0 → k ≠ 1 → k ≠ 2 → k ≠ 3 → k ≠ 4 → in3 k 0 4 = false := fun _ _ _ _ _ => by
    cases h : in3 k 0 4 with
    | false => rfl
    | true => have := in3_iff.1 h; omega
  repeat' (first | refine And.intro ?_ ?_ | intro _)
  all_goals simp_all
def doBase : BaseF := fun args => match args with
  | [.agg [.int .i64 a, .int .i64 b, .int .i64 c, .int .i64 d], .agg [.int .i64 k, .int .i64 fr, .int .i64 to, .int .i64 lo, .int .i64 hi]] =>
    some (EvB (f5 k fr to lo hi) ∧ okZ (f4 a b c d) = true, .tup [.agg [.int .i64 (if zErr (f5 k fr to lo hi) (f4 a b c d) = 0 then dZ (f5 k fr to lo hi) (f4 a b c d) 0 else a), .int .i64 (if zErr (f5 k fr to lo hi) (f4 a b c d) = 0 then dZ (f5 k fr to lo hi) (f4 a b c d) 1 else b), .int .i64 (dZ (f5 k fr to lo hi) (f4 a b c d) 2), .int .i64 (dZ (f5 k fr to lo hi) (f4 a b c d) 3)],
      .agg [.int .i64 (dS (f5 k fr to lo hi) (f4 a b c d) 0), .int .i64 (dS (f5 k fr to lo hi) (f4 a b c d) 1), .int .i64 (dS (f5 k fr to lo hi) (f4 a b c d) 2), .int .i64 (dS (f5 k fr to lo hi) (f4 a b c d) 3), .int .i64 (dS (f5 k fr to lo hi) (f4 a b c d) 4), .int .i64 (dS (f5 k fr to lo hi) (f4 a b c d) 5)],
      .int .i64 (zErr (f5 k fr to lo hi) (f4 a b c d))])
  | _ => none
theorem do_base : Base Try.prog 73 doBase := by
  intro args p v hq hp
  unfold doBase at hq
  split at hq
  rotate_left
  · cases hq
  rename_i a b c d k fr to lo hi
  cases hq
  obtain ⟨⟨he1, he2⟩, hz⟩ := hp
  rw [okZ_iff] at hz
  simp only [f5, f4] at he1 he2 hz
  refine base_of (C := cx [] [] [(74, plusBase), (87, rlessBase), (88, roffBase)] [(73, 8, p73_8), (73, 18, p73_18), (73, 21, p73_21)] none) (cx_ok trivial ⟨plus_base, rless_base, roff_base, trivial⟩) rfl (g := 73) (fn := Try.f73)
    (args' := [.agg [.int .i64 a, .int .i64 b, .int .i64 c, .int .i64 d], .agg [.int .i64 k, .int .i64 fr, .int .i64 to, .int .i64 lo, .int .i64 hi]]) (fn_73) rfl 1000 (by simp only [BdL, Bd, and_self]) ⟨SameD.rfl' _, SameD.rfl' _, trivial⟩ ?_
  simp only [plus_eq, rless_eq, roff_eq, Try.f73, p73_8, p73_18, p73_21, go_sem, ↓reduceIte, Nat.reduceAdd, Nat.reduceSub, Nat.reduceMul, Nat.reduceEqDiff, Nat.reduceLT, Nat.reduceLeDiff, Int.reduceToNat, Int.reduceLE, Int.reduceLT, Int.reduceEq, Int.reduceNeg, reduceCtorEq]
  repeat' (first | refine And.intro ?_ ?_ | intro _)
  all_goals first
    | (show planOk _ _ = true; kernel_rfl) | (show keepOk _ _ = true; kernel_rfl)
    | (simp only [decide_eq_true_eq, decide_eq_false_iff_not] at *
       simp (disch := omega) only [wrap_id, SV.tup.injEq, List.cons.injEq, SV.agg.injEq, SV.int.injEq, and_true, true_and, zErr, dErr, dZ, dA, dB, dS, f5, f4] at *
       simp_all <;> omega)
theorem event_at (e : Nat → Int) (n : Int) : eventBase [.agg [.int .i64 (e 0), .int .i64 (e 1), .int .i64 (e 2), .int .i64 (e 3), .int .i64 (e 4)], .int .i64 n] = some (1 ≤ n ∧ n ≤ 1000000, .bool (evOk n e)) := rfl
theorem do_at (z e : Nat → Int) : doBase [.agg [.int .i64 (z 0), .int .i64 (z 1), .int .i64 (z 2), .int .i64 (z 3)], .agg [.int .i64 (e 0), .int .i64 (e 1), .int .i64 (e 2), .int .i64 (e 3), .int .i64 (e 4)]] =
    some (EvB e ∧ okZ z = true, .tup [.agg [.int .i64 (if zErr e z = 0 then dZ e z 0 else z 0), .int .i64 (if zErr e z = 0 then dZ e z 1 else z 1), .int .i64 (dZ e z 2), .int .i64 (dZ e z 3)],
      .agg [.int .i64 (dS e z 0), .int .i64 (dS e z 1), .int .i64 (dS e z 2), .int .i64 (dS e z 3), .int .i64 (dS e z 4), .int .i64 (dS e z 5)], .int .i64 (zErr e z)]) := rfl
end Go.Eng
end

/- play: the document's. -/
section
namespace Go.Eng
open Go Go.RowKit Go.Proofs
set_option maxRecDepth 100000
set_option maxHeartbeats 4000000
attribute [local irreducible] OwnT
structure POut where
  n : Nat
  z : Nat → Nat → Int
  s : Nat → Int
  i : Int
  e : Int
def pErr (i e : Int) : POut := ⟨0, fun _ _ => 0, fun _ => 0, i, e⟩
def pRes (n m : Nat) : (Nat × Int) ⊕ PSt → POut
  | .inr x => ⟨n, x.z, x.s, m, 0⟩
  | .inl (i, e) => pErr i e
def pTup (o : POut) : SV := .tup [.row o.n 4 fun i j => .int .i64 (o.z i j), .agg [.int .i64 (o.s 0), .int .i64 (o.s 1), .int .i64 (o.s 2), .int .i64 (o.s 3), .int .i64 (o.s 4), .int .i64 (o.s 5)], .int .i64 o.i, .int .i64 o.e]
def playO (n m : Nat) (z l : Nat → Nat → Int) : POut := pRes n m (evRun (n : Int) l m 0 ⟨z, fun _ => 0⟩)
def playR (n m : Nat) (z l : Nat → Nat → Int) : SV := pTup (playO n m z l)
def rplayBase : BaseF := fun args => match args with
  | [.row n sz f, .row m sl l] => some ((sz = 4 ∧ IntR n 4 f) ∧ (sl = 5 ∧ IntR m 5 l) ∧ rinkB n (fun i j => iv (f i j)) = true ∧ m ≤ 256, playR n m (fun i j => iv (f i j)) (fun i j => iv (l i j)))
  | _ => none
theorem upd_step {e : Nat → Int} {k : Nat} {y : PSt} (h0 : zErr e (y.z k) = 0) (a b : Nat) (hb : b < 4) :
    updF (fun i j => SV.int .i64 (y.z i j)) k 0 4 [.int .i64 (if zErr e (y.z k) = 0 then dZ e (y.z k) 0 else y.z k 0), .int .i64 (if zErr e (y.z k) = 0 then dZ e (y.z k) 1 else y.z k 1), .int .i64 (dZ e (y.z k) 2), .int .i64 (dZ e (y.z k) 3)] a b = .int .i64 ((stepZ e k y).z a b) := by
  unfold updF
  by_cases h : a = k
  · subst h
    match b, hb with
    | 0, _ => simp [nth, stepZ, h0]
    | 1, _ => simp [nth, stepZ, h0]
    | 2, _ => simp [nth, stepZ]
    | 3, _ => simp [nth, stepZ]
  · simp [h, stepZ]
theorem zRun_cons {e : Nat → Int} {c k : Nat} {x : PSt} (hc : 0 < c) : zRun e c k x = if zErr e (x.z k) = 0 then zRun e (c - 1) (k + 1) (stepZ e k x) else .inl (zErr e (x.z k)) := by
  obtain ⟨d, rfl⟩ : ∃ d, c = d + 1 := ⟨c - 1, by omega⟩
  rfl
theorem evRun_cons {n : Int} {l : Nat → Nat → Int} {c i : Nat} {x : PSt} (hc : 0 < c) : evRun n l c i x = if evOk n (l i) = true then
      match zRun (l i) (toOf (l i) - l i 1 + 1).toNat (l i 1).toNat x with
      | .inl e => .inl (i, e)
      | .inr x' => evRun n l (c - 1) (i + 1) x'
    else .inl (i, 1) := by
  obtain ⟨d, rfl⟩ : ∃ d, c = d + 1 := ⟨c - 1, by omega⟩
  rfl
theorem rplay_base : BaseO Try.prog 54 37 rplayBase := by
  intro args p v hq hp
  unfold rplayBase at hq
  split at hq
  rotate_left
  · cases hq
  rename_i n sz f m sl lf
  cases hq
  obtain ⟨⟨rfl, hf⟩, ⟨rfl, hl⟩, hr, hm⟩ := hp
  refine baseO_of (C := cx [] [] [(18, eventBase), (73, doBase), (74, plusBase)] [(54, 14, p54_14), (54, 18, p54_18), (54, 19, p54_19)] none) (cx_ok trivial ⟨event_base, do_base, plus_base, trivial⟩) rfl (g := 54) (fn := Try.f54)
    (args' := [.row n 4 fun i j => .int .i64 (iv (f i j)), .row m 5 fun i j => .int .i64 (iv (lf i j))]) (fn_54) rfl 1000 (by simp only [BdL, Bd, and_self, and_true]; exact ⟨fun i j hi hj => by rw [hf i j hi hj]; trivial, fun i j hi hj => by rw [hl i j hi hj]; trivial⟩) ⟨SameD.int hf, SameD.int hl, trivial⟩ ?_
  have hr' := hr
  generalize hzz : (fun i j => iv (f i j)) = z at hr ⊢
  generalize hll : (fun i j => iv (lf i j)) = l
  have hz' : ∀ i j, iv (f i j) = z i j := fun i j => by rw [← hzz]
  have hl' : ∀ i j, iv (lf i j) = l i j := fun i j => by rw [← hll]
  simp only [hz', hl']
  have hb := rinkB_iff.1 hr
  simp only [event_at, do_at, plus_eq, Try.f54, p54_14, p54_18, p54_19, go_sem, ↓reduceIte, Nat.reduceAdd, Nat.reduceSub, Nat.reduceMul, Nat.reduceEqDiff, Nat.reduceLT, Nat.reduceLeDiff, Int.reduceToNat, Int.reduceLE, Int.reduceLT, Int.reduceEq, Int.reduceNeg, reduceCtorEq]
  refine ⟨⟨by omega, by omega⟩, ?_⟩
  refine loop_of { q : Nat × PSt // q.1 ≤ m ∧ AllOk n q.2 ∧ SumB (480000 * q.1) q.2 ∧ evRun n l (m - q.1) q.1 q.2 = evRun n l m 0 ⟨z, fun _ => 0⟩ }
    (fun q => [(10, .int .i64 (q.1.1 : Int)), (9, .ptr 1 0), (8, .vec 1 1), (5, .ptr 0 0), (1, .row m 5 fun i j => .int .i64 (l i j)), (0, .row n 4 fun i j => .int .i64 (z i j))])
    (fun q => ⟨[.live 44 [.int .i64 0, .int .i64 0, .int .i64 0, .int .i64 0, .int .i64 0, .int .i64 0], .live 44 [.int .i64 (q.1.2.s 0), .int .i64 (q.1.2.s 1), .int .i64 (q.1.2.s 2), .int .i64 (q.1.2.s 3), .int .i64 (q.1.2.s 4), .int .i64 (q.1.2.s 5)]], [.dead, .live 1 37 4 n fun i j => .int .i64 (q.1.2.z i j)]⟩)
    (fun q => m - q.1.1) (fun _ => ⟨rfl, rfl⟩) ⟨(0, ⟨z, fun _ => 0⟩), by omega, hb.2, fun j => by simp, rfl⟩ (by (apply sub_of <;> simp only [go_sem, ↓reduceIte, Nat.reduceAdd, Nat.reduceSub, Nat.reduceMul, Nat.reduceEqDiff, Nat.reduceLT, Nat.reduceLeDiff, Int.reduceToNat, Int.reduceLE, Int.reduceLT, Int.reduceEq, Int.reduceNeg, reduceCtorEq] <;> (try simp [catF]))) ?_
  rintro ⟨⟨i, x⟩, hi, hok, hsum, hrun⟩
  simp only [] at hi hok hsum hrun
  simp only [event_at, do_at, plus_eq, Try.f54, p54_14, p54_18, p54_19, go_sem, ↓reduceIte, Nat.reduceAdd, Nat.reduceSub, Nat.reduceMul, Nat.reduceEqDiff, Nat.reduceLT, Nat.reduceLeDiff, Int.reduceToNat, Int.reduceLE, Int.reduceLT, Int.reduceEq, Int.reduceNeg, reduceCtorEq]
  repeat' (first | refine And.intro ?_ ?_ | intro _)
  all_goals try first | trivial | (show planOk _ _ = true; kernel_rfl) | (show keepOk _ _ = true; kernel_rfl)
  all_goals try (simp only [decide_eq_true_eq, decide_eq_false_iff_not] at *; omega)
  · rename_i c1 c2
    simp only [decide_eq_true_eq, Bool.not_eq_true'] at c1 c2
    have e1 : m - i = (m - i - 1) + 1 := by omega
    have e2 : evRun (n : Int) l m 0 ⟨z, fun _ => 0⟩ = .inl (i, 1) := by
      rw [← hrun, e1, evRun, if_neg]
      intro hc; have : evOk n (l i) = false := c2; rw [hc] at this; cases this
    unfold playR playO
    rw [e2]
    simp only [pRes, pErr, pTup, go_sem, ↓reduceIte, Nat.reduceAdd, Nat.reduceSub, Nat.reduceMul, Nat.reduceEqDiff, Nat.reduceLT, Nat.reduceLeDiff, Int.reduceToNat, Int.reduceLE, Int.reduceLT, Int.reduceEq, Int.reduceNeg, reduceCtorEq]
    exact fun _ _ h => absurd h (by omega)
  rotate_left 2
  · rename_i c1
    simp only [decide_eq_false_iff_not] at c1
    unfold playR playO
    have e0 : m - i = 0 := by omega
    rw [← hrun, e0, evRun]
    simp only [pRes, pErr, pTup, go_sem, ↓reduceIte, Nat.reduceAdd, Nat.reduceSub, Nat.reduceMul, Nat.reduceEqDiff, Nat.reduceLT, Nat.reduceLeDiff, Int.reduceToNat, Int.reduceLE, Int.reduceLT, Int.reduceEq, Int.reduceNeg, reduceCtorEq]
    simp
  all_goals
    rename_i c1 c2 c3
    simp only [decide_eq_true_eq, decide_eq_false_iff_not, Bool.not_eq_false'] at c1 c2 c3
    have c2' : evOk n (l i) = true := c2
    obtain ⟨⟨a1, a2, a3⟩, hev⟩ := evOk_iff.1 c2'
    have hfr : ((l i 1).toNat : Int) = l i 1 := by omega
    refine loop_of { r : Nat × PSt // (l i 1).toNat ≤ r.1 ∧ (r.1 : Int) ≤ toOf (l i) + 1 ∧ AllOk n r.2 ∧ SumB (480000 * i + 20000 * (r.1 - l i 1)) r.2 ∧ zRun (l i) (toOf (l i) + 1 - r.1).toNat r.1 r.2 = zRun (l i) (toOf (l i) - l i 1 + 1).toNat (l i 1).toNat x }
      (fun r => [(12, .int .i64 (r.1.1 : Int)), (11, .int .i64 (toOf (l i))), (10, .int .i64 (i : Int)), (9, .ptr 1 0), (8, .vec 1 1), (5, .ptr 0 0), (1, .row m 5 fun i j => .int .i64 (l i j)), (0, .row n 4 fun i j => .int .i64 (z i j))])
      (fun r => ⟨[.live 44 [.int .i64 0, .int .i64 0, .int .i64 0, .int .i64 0, .int .i64 0, .int .i64 0], .live 44 [.int .i64 (r.1.2.s 0), .int .i64 (r.1.2.s 1), .int .i64 (r.1.2.s 2), .int .i64 (r.1.2.s 3), .int .i64 (r.1.2.s 4), .int .i64 (r.1.2.s 5)]], [.dead, .live 1 37 4 n fun i j => .int .i64 (r.1.2.z i j)]⟩)
      (fun r => (toOf (l i) + 1 - r.1.1).toNat) (fun _ => ⟨rfl, rfl⟩) ⟨((l i 1).toNat, x), by omega, by omega, hok, by simpa [hfr] using hsum, by rw [hfr]; congr 1; omega⟩ (by apply sub_of <;> simp only [go_sem, ↓reduceIte, Nat.reduceAdd, Nat.reduceSub, Nat.reduceMul, Nat.reduceEqDiff, Nat.reduceLT, Nat.reduceLeDiff, Int.reduceToNat, Int.reduceLE, Int.reduceLT, Int.reduceEq, Int.reduceNeg, reduceCtorEq] <;> (try simp [catF, toOf, hfr, c3])) ?_
    rintro ⟨⟨k, y⟩, hk1, hk2, hyok, hysum, hyrun⟩
    simp only [] at hk1 hk2 hyok hysum hyrun
    simp only [event_at, do_at, plus_eq, Try.f54, p54_14, p54_18, p54_19, go_sem, ↓reduceIte, Nat.reduceAdd, Nat.reduceSub, Nat.reduceMul, Nat.reduceEqDiff, Nat.reduceLT, Nat.reduceLeDiff, Int.reduceToNat, Int.reduceLE, Int.reduceLT, Int.reduceEq, Int.reduceNeg, reduceCtorEq]
    have hev2 : evRun (n : Int) l (m - i) i x = _ := evRun_cons (by omega)
    rw [if_pos c2'] at hev2
    refine ⟨fun d1 => ?_, fun d1 => ?_⟩
    · simp only [decide_eq_true_eq] at d1
      have hz := hyok k (by omega)
      have hzr := zRun_cons (e := l i) (c := (toOf (l i) + 1 - (k : Int)).toNat) (k := k) (x := y) (by omega)
      repeat' (first | exact hev | exact hz | refine And.intro ?_ ?_ | intro _)
      all_goals try first | trivial | (show planOk _ _ = true; kernel_rfl) | (show keepOk _ _ = true; kernel_rfl)
      all_goals try omega
      all_goals rename_i f1; simp only [Bool.not_eq_true', decide_eq_true_eq, decide_eq_false_iff_not, Bool.not_eq_false'] at f1
      all_goals first
        | (rw [if_neg f1] at hzr
           rw [← hyrun, hzr] at hev2
           unfold playR playO
           rw [← hrun, hev2]
           simp only [pRes, pErr, pTup, go_sem, ↓reduceIte, Nat.reduceAdd, Nat.reduceSub, Nat.reduceMul, Nat.reduceEqDiff, Nat.reduceLT, Nat.reduceLeDiff, Int.reduceToNat, Int.reduceLE, Int.reduceLT, Int.reduceEq, Int.reduceNeg, reduceCtorEq]
           exact fun _ _ h => absurd h (by omega))
        | (rw [if_pos f1] at hzr
           have hw : ∀ j, IntKind.i64.wrap (y.s j + dS (l i) (y.z k) j) = (stepZ (l i) k y).s j := fun j => by
             have := hysum j
             have := dS_bd hev hz j
             rw [wrap_id (by omega) (by omega)]; rfl
           have hw2 : IntKind.i64.wrap ((k : Int) + 1) = ((k + 1 : Nat) : Int) := by rw [wrap_id (by omega) (by omega)]; omega
           refine ⟨⟨(k + 1, stepZ (l i) k y), by simp only []; omega, by simp only []; omega, step_ok hev hyok (by omega) f1, ?_, ?_⟩, by simp only []; omega, ?_⟩
           · have := step_sum hev hyok (show k < n by omega) hysum
             intro j; have := this j; simp only []; omega
           · simp only []; rw [← hyrun, hzr]; congr 1; omega
           · apply sub_of <;> simp only [hw, hw2, go_sem, ↓reduceIte, Nat.reduceAdd, Nat.reduceSub, Nat.reduceMul, Nat.reduceEqDiff, Nat.reduceLT, Nat.reduceLeDiff, Int.reduceToNat, Int.reduceLE, Int.reduceLT, Int.reduceEq, Int.reduceNeg, reduceCtorEq] <;> (try simp)
             exact fun a b _ hb => by have := upd_step f1 a b hb; simpa [updF] using this)
    · simp only [decide_eq_false_iff_not] at d1
      have e1 : (toOf (l i) + 1 - (k : Int)).toNat = 0 := by omega
      rw [e1, zRun] at hyrun
      rw [← hyrun] at hev2
      have hw2 : IntKind.i64.wrap ((i : Int) + 1) = ((i + 1 : Nat) : Int) := by rw [wrap_id (by omega) (by omega)]; omega
      refine ⟨⟨(i + 1, y), by simp only []; omega, hyok, fun j => by have := hysum j; simp only []; omega, ?_⟩, by simp only []; omega, ?_⟩
      · simp only []; rw [← hrun, hev2]; congr 1
      · apply sub_of <;> simp only [hw2, go_sem, ↓reduceIte, Nat.reduceAdd, Nat.reduceSub, Nat.reduceMul, Nat.reduceEqDiff, Nat.reduceLT, Nat.reduceLeDiff, Int.reduceToNat, Int.reduceLE, Int.reduceLT, Int.reduceEq, Int.reduceNeg, reduceCtorEq] <;> (try simp)
end Go.Eng
end

/- Play, Same, Ints, Thin: the document's. -/
section
namespace Go.Eng
open Go Go.RowKit Go.Proofs
set_option maxRecDepth 100000
set_option maxHeartbeats 4000000
attribute [local irreducible] OwnT DefS
theorem rplay_eq (n m : Nat) (z l : Nat → Nat → Int) : rplayBase [.row n 4 (fun i j => .int .i64 (z i j)), .row m 5 (fun i j => .int .i64 (l i j))] = some ((4 = 4 ∧ IntR n 4 (fun i j => .int .i64 (z i j))) ∧ (5 = 5 ∧ IntR m 5 (fun i j => .int .i64 (l i j))) ∧ rinkB n z = true ∧ m ≤ 256, pTup (playO n m z l)) := rfl
def playT (n m : Nat) (z l : Nat → Nat → Int) : POut := if rinkB n z = true then (if m ≤ 256 then playO n m z l else pErr 0 3) else pErr 0 1
def tplayR (n m : Nat) (z l : Nat → Nat → Int) : SV := pTup (playT n m z l)
def tplayBase : BaseF := fun args => match args with
  | [.row n sz_z f_z, .row m sz_l f_l] => some ((sz_z = 4 ∧ IntR n 4 f_z) ∧ (sz_l = 5 ∧ IntR m 5 f_l), tplayR n m (fun i j => iv (f_z i j)) (fun i j => iv (f_l i j)))
  | _ => none
theorem tplay_eq (n : Nat) (z : Nat → Nat → Int) (m : Nat) (l : Nat → Nat → Int) : tplayBase [.row n 4 (fun i j => .int .i64 (z i j)), .row m 5 (fun i j => .int .i64 (l i j))] = some ((4 = 4 ∧ IntR n 4 (fun i j => .int .i64 (z i j))) ∧ (5 = 5 ∧ IntR m 5 (fun i j => .int .i64 (l i j))), tplayR n m z l) := rfl
theorem tplay_base : BaseO Try.prog 28 37 tplayBase := by
  intro args p v hq hp
  unfold tplayBase at hq
  split at hq
  rotate_left
  · cases hq
  rename_i n sz_z f_z m sz_l f_l
  cases hq
  obtain ⟨⟨rfl, i_z⟩, ⟨rfl, i_l⟩⟩ := hp
  refine baseO_of (C := cx [] [(54, 37, rplayBase)] [(16, rinkBase)] [] none) (cx_ok ⟨rplay_base, trivial⟩ ⟨rink_base, trivial⟩) rfl (g := 28) (fn := Try.f28)
    (args' := [.row n 4 (rowF .i64 (fun i j => iv (f_z i j))), .row m 5 (rowF .i64 (fun i j => iv (f_l i j)))]) (fn_28) rfl 1000 (by simp only [BdL, Bd, and_self, and_true, true_and]; exact ⟨fun i j hi hj => by rw [i_z i j hi hj]; trivial, fun i j hi hj => by rw [i_l i j hi hj]; trivial⟩) ⟨SameD.int i_z, SameD.int i_l, trivial⟩ ?_
  generalize (fun i j => iv (f_z i j)) = z
  generalize (fun i j => iv (f_l i j)) = l
  simp only [rowF_eq]
  simp only [rink_eq, rplay_eq, pTup, Try.f28, go_sem, ↓reduceIte, Nat.reduceAdd, Nat.reduceSub, Nat.reduceMul, Nat.reduceEqDiff, Nat.reduceLT, Nat.reduceLeDiff, Int.reduceToNat, Int.reduceLE, Int.reduceLT, Int.reduceEq, Int.reduceNeg, reduceCtorEq]
  refine ⟨fun c1 => ?_, fun c1 => ⟨fun c2 => ?_, fun c2 => ?_⟩⟩
  · rw [show tplayR n m z l = pTup (pErr 0 1) by simp at c1; simp [tplayR, playT, c1]]
    simp only [pTup, pErr, go_sem, ↓reduceIte, Nat.reduceAdd, Nat.reduceSub, Nat.reduceMul, Nat.reduceEqDiff, Nat.reduceLT, Nat.reduceLeDiff, Int.reduceToNat, Int.reduceLE, Int.reduceLT, Int.reduceEq, Int.reduceNeg, reduceCtorEq]
    simp
  · rw [show tplayR n m z l = pTup (pErr 0 3) by simp at c1 c2; simp [tplayR, playT, c1, show ¬ m ≤ 256 by omega]]
    simp only [pTup, pErr, go_sem, ↓reduceIte, Nat.reduceAdd, Nat.reduceSub, Nat.reduceMul, Nat.reduceEqDiff, Nat.reduceLT, Nat.reduceLeDiff, Int.reduceToNat, Int.reduceLE, Int.reduceLT, Int.reduceEq, Int.reduceNeg, reduceCtorEq]
    simp
  · simp at c1 c2
    rw [show tplayR n m z l = pTup (playO n m z l) by simp [tplayR, playT, c1, show m ≤ 256 by omega]]
    simp only [pTup, pErr, go_sem, ↓reduceIte, Nat.reduceAdd, Nat.reduceSub, Nat.reduceMul, Nat.reduceEqDiff, Nat.reduceLT, Nat.reduceLeDiff, Int.reduceToNat, Int.reduceLE, Int.reduceLT, Int.reduceEq, Int.reduceNeg, reduceCtorEq]
    exact ⟨⟨c1, by omega⟩, fun _ _ _ _ => trivial⟩
theorem tplay_at (n : Nat) (z : Nat → Nat → Int) (m : Nat) (l : Nat → Nat → Int) : tplayBase [.row n 4 (fun i j => .int .i64 (z i j)), .row m 5 (fun i j => .int .i64 (l i j))] = some ((4 = 4 ∧ IntR n 4 (fun i j => .int .i64 (z i j))) ∧ (5 = 5 ∧ IntR m 5 (fun i j => .int .i64 (l i j))), pTup (playT n m z l)) := rfl
def same1 (a b : Nat → Int) : Bool := decide (a 0 = b 0) && (decide (a 1 = b 1) && (decide (a 2 = b 2) && decide (a 3 = b 3)))
def sameB (n m : Nat) (a b : Nat → Nat → Int) : Bool := decide (n = m) && allU (fun i => same1 (a i) (b i)) n
def sameBase : BaseF := fun args => match args with
  | [.row n sz_a f_a, .row m sz_b f_b] => some ((sz_a = 4 ∧ IntR n 4 f_a) ∧ (sz_b = 4 ∧ IntR m 4 f_b) ∧ (n ≤ 1000000), .bool (sameB n m (fun i j => iv (f_a i j)) (fun i j => iv (f_b i j))))
  | _ => none
theorem same_eq (n : Nat) (a : Nat → Nat → Int) (m : Nat) (b : Nat → Nat → Int) : sameBase [.row n 4 (fun i j => .int .i64 (a i j)), .row m 4 (fun i j => .int .i64 (b i j))] = some ((4 = 4 ∧ IntR n 4 (fun i j => .int .i64 (a i j))) ∧ (4 = 4 ∧ IntR m 4 (fun i j => .int .i64 (b i j))) ∧ (n ≤ 1000000), .bool (sameB n m a b)) := rfl
theorem same_base : Base Try.prog 25 sameBase := by
  intro args p v hq hp
  unfold sameBase at hq
  split at hq
  rotate_left
  · cases hq
  rename_i n sz_a f_a m sz_b f_b
  cases hq
  obtain ⟨⟨rfl, i_a⟩, ⟨rfl, i_b⟩, pre⟩ := hp
  refine base_of (C := cx [] [] [] [(25, 6, p25_6)] none) (cx_ok trivial trivial) rfl (g := 25) (fn := Try.f25)
    (args' := [.row n 4 (rowF .i64 (fun i j => iv (f_a i j))), .row m 4 (rowF .i64 (fun i j => iv (f_b i j)))]) (fn_25) rfl 1000 (by simp only [BdL, Bd, and_self, and_true, true_and]; exact ⟨fun i j hi hj => by rw [i_a i j hi hj]; trivial, fun i j hi hj => by rw [i_b i j hi hj]; trivial⟩) ⟨SameD.int i_a, SameD.int i_b, trivial⟩ ?_
  generalize (fun i j => iv (f_a i j)) = a at *
  generalize (fun i j => iv (f_b i j)) = b at *
  simp only [rowF_eq]
  simp only [p25_6, Try.f25, go_sem, ↓reduceIte, Nat.reduceAdd, Nat.reduceSub, Nat.reduceMul, Nat.reduceEqDiff, Nat.reduceLT, Nat.reduceLeDiff, Int.reduceToNat, Int.reduceLE, Int.reduceLT, Int.reduceEq, Int.reduceNeg, reduceCtorEq]
  refine ⟨fun c1 => ?_, fun c1 => ?_⟩
  · simp [sameB]; simp at c1; intro h; omega
  simp at c1
  have hnm : n = m := by omega
  subst hnm
  refine loop_of { i : Nat // i ≤ n ∧ ∀ k, k < i → same1 (a k) (b k) = true }
    (fun i => [(5, .int .i64 (i.1 : Int)), (1, .row n 4 fun i j => .int .i64 (b i j)), (0, .row n 4 fun i j => .int .i64 (a i j))]) (fun _ => ⟨[], []⟩) (fun i => n - i.1) (fun _ => ⟨rfl, rfl⟩) ⟨0, by omega, by omega⟩ (by (apply sub_of <;> simp only [go_sem, ↓reduceIte, Nat.reduceAdd, Nat.reduceSub, Nat.reduceMul, Nat.reduceEqDiff, Nat.reduceLT, Nat.reduceLeDiff, Int.reduceToNat, Int.reduceLE, Int.reduceLT, Int.reduceEq, Int.reduceNeg, reduceCtorEq] <;> (try simp [catF]))) ?_
  rintro ⟨i, h1, h2⟩
  simp only [p25_6, Try.f25, go_sem, ↓reduceIte, Nat.reduceAdd, Nat.reduceSub, Nat.reduceMul, Nat.reduceEqDiff, Nat.reduceLT, Nat.reduceLeDiff, Int.reduceToNat, Int.reduceLE, Int.reduceLT, Int.reduceEq, Int.reduceNeg, reduceCtorEq]
  refine ⟨fun c2 => ⟨⟨by kernel_rfl, by kernel_rfl⟩, ⟨by omega, by simpa using c2⟩, ⟨by omega, by simpa using c2⟩, fun c3 => ?_, fun c3 => ?_⟩, fun c2 => ?_⟩
  · simp only [decide_eq_true_eq] at c2
    rw [sameB, allU_false (p := fun i => same1 (a i) (b i)) (i := i) (by omega) (by cases hc : same1 (a i) (b i) with | false => rfl | true => simp [same1] at hc; simp [hc] at c3)]; simp
  · simp only [decide_eq_true_eq] at c2
    rw [wrap_id (by omega) (by omega)]
    refine ⟨⟨i + 1, by omega, fun k hk => ?_⟩, by simp only []; omega, by (apply sub_of <;> simp only [go_sem, ↓reduceIte, Nat.reduceAdd, Nat.reduceSub, Nat.reduceMul, Nat.reduceEqDiff, Nat.reduceLT, Nat.reduceLeDiff, Int.reduceToNat, Int.reduceLE, Int.reduceLT, Int.reduceEq, Int.reduceNeg, reduceCtorEq] <;> (try simp [catF]))⟩
    by_cases e : k = i
    · subst e; simpa [same1] using c3
    · exact h2 k (by omega)
  · simp only [decide_eq_false_iff_not] at c2
    have e : i = n := by omega
    subst e
    have : allU (fun i => same1 (a i) (b i)) i = true := allU_iff.2 h2
    simp [sameB, this]
def intsB (n m : Nat) (a b : Nat → Nat → Int) : Bool := decide (n = m) && allU (fun i => decide (a i 0 = b i 0)) n
def intsBase : BaseF := fun args => match args with
  | [.row n sz_a f_a, .row m sz_b f_b] => some ((sz_a = 1 ∧ IntR n 1 f_a) ∧ (sz_b = 1 ∧ IntR m 1 f_b) ∧ (n ≤ 1000000), .bool (intsB n m (fun i j => iv (f_a i j)) (fun i j => iv (f_b i j))))
  | _ => none
theorem ints_eq (n : Nat) (a : Nat → Nat → Int) (m : Nat) (b : Nat → Nat → Int) : intsBase [.row n 1 (fun i j => .int .i64 (a i j)), .row m 1 (fun i j => .int .i64 (b i j))] = some ((1 = 1 ∧ IntR n 1 (fun i j => .int .i64 (a i j))) ∧ (1 = 1 ∧ IntR m 1 (fun i j => .int .i64 (b i j))) ∧ (n ≤ 1000000), .bool (intsB n m a b)) := rfl
theorem ints_base : Base Try.prog 31 intsBase := by
  intro args p v hq hp
  unfold intsBase at hq
  split at hq
  rotate_left
  · cases hq
  rename_i n sz_a f_a m sz_b f_b
  cases hq
  obtain ⟨⟨rfl, i_a⟩, ⟨rfl, i_b⟩, pre⟩ := hp
  refine base_of (C := cx [] [] [] [(31, 6, p31_6)] none) (cx_ok trivial trivial) rfl (g := 31) (fn := Try.f31)
    (args' := [.row n 1 (rowF .i64 (fun i j => iv (f_a i j))), .row m 1 (rowF .i64 (fun i j => iv (f_b i j)))]) (fn_31) rfl 1000 (by simp only [BdL, Bd, and_self, and_true, true_and]; exact ⟨fun i j hi hj => by rw [i_a i j hi hj]; trivial, fun i j hi hj => by rw [i_b i j hi hj]; trivial⟩) ⟨SameD.int i_a, SameD.int i_b, trivial⟩ ?_
  generalize (fun i j => iv (f_a i j)) = a at *
  generalize (fun i j => iv (f_b i j)) = b at *
  simp only [rowF_eq]
  simp only [p31_6, Try.f31, go_sem, ↓reduceIte, Nat.reduceAdd, Nat.reduceSub, Nat.reduceMul, Nat.reduceEqDiff, Nat.reduceLT, Nat.reduceLeDiff, Int.reduceToNat, Int.reduceLE, Int.reduceLT, Int.reduceEq, Int.reduceNeg, reduceCtorEq]
  refine ⟨fun c1 => ?_, fun c1 => ?_⟩
  · simp [intsB]; simp at c1; intro h; omega
  simp at c1
  have hnm : n = m := by omega
  subst hnm
  refine loop_of { i : Nat // i ≤ n ∧ ∀ k, k < i → decide (a k 0 = b k 0) = true }
    (fun i => [(5, .int .i64 (i.1 : Int)), (1, .row n 1 fun i j => .int .i64 (b i j)), (0, .row n 1 fun i j => .int .i64 (a i j))]) (fun _ => ⟨[], []⟩) (fun i => n - i.1) (fun _ => ⟨rfl, rfl⟩) ⟨0, by omega, by omega⟩ (by (apply sub_of <;> simp only [go_sem, ↓reduceIte, Nat.reduceAdd, Nat.reduceSub, Nat.reduceMul, Nat.reduceEqDiff, Nat.reduceLT, Nat.reduceLeDiff, Int.reduceToNat, Int.reduceLE, Int.reduceLT, Int.reduceEq, Int.reduceNeg, reduceCtorEq] <;> (try simp [catF]))) ?_
  rintro ⟨i, h1, h2⟩
  simp only [p31_6, Try.f31, go_sem, ↓reduceIte, Nat.reduceAdd, Nat.reduceSub, Nat.reduceMul, Nat.reduceEqDiff, Nat.reduceLT, Nat.reduceLeDiff, Int.reduceToNat, Int.reduceLE, Int.reduceLT, Int.reduceEq, Int.reduceNeg, reduceCtorEq]
  refine ⟨fun c2 => ⟨⟨by kernel_rfl, by kernel_rfl⟩, ⟨by omega, by simpa using c2⟩, ⟨by omega, by simpa using c2⟩, fun c3 => ?_, fun c3 => ?_⟩, fun c2 => ?_⟩
  · simp only [decide_eq_true_eq] at c2
    rw [intsB, allU_false (p := fun i => decide (a i 0 = b i 0)) (i := i) (by omega) (by simpa using c3)]; simp
  · simp only [decide_eq_true_eq] at c2
    rw [wrap_id (by omega) (by omega)]
    refine ⟨⟨i + 1, by omega, fun k hk => ?_⟩, by simp only []; omega, by (apply sub_of <;> simp only [go_sem, ↓reduceIte, Nat.reduceAdd, Nat.reduceSub, Nat.reduceMul, Nat.reduceEqDiff, Nat.reduceLT, Nat.reduceLeDiff, Int.reduceToNat, Int.reduceLE, Int.reduceLT, Int.reduceEq, Int.reduceNeg, reduceCtorEq] <;> (try simp [catF]))⟩
    by_cases e : k = i
    · subst e; simpa using c3
    · exact h2 k (by omega)
  · simp only [decide_eq_false_iff_not] at c2
    have e : i = n := by omega
    subst e
    have : allU (fun i => decide (a i 0 = b i 0)) i = true := allU_iff.2 h2
    simp [intsB, this]
end Go.Eng
end

/- The deferred function of play. -/
section
namespace Go.Eng
open Go Go.RowKit Go.Proofs
set_option maxRecDepth 100000
set_option maxHeartbeats 4000000
attribute [local irreducible] OwnT DefS
theorem setB_last : ∀ (l : List Blk) (a b : Blk), setB (snocB l a) (lenB l) b = snocB l b
  | [], _, _ => rfl
  | x :: l, a, b => by simp [setB, snocB, lenB, setB_last l a b]
theorem def68_none (h : HS) (e : Nat) : DefS Try.prog 68 [.ptr e 0] none h (fun p' h' => p' = none ∧ h' = h) := by
  refine defS_of_run (C := cx [] [] [] [] (some [])) (cx_ok trivial trivial) (g := 68) (fn := Try.f68) fn_68 rfl rfl rfl 1000 1000 ?_
  simp only [Try.f68, go_sem, ↓reduceIte, Nat.reduceAdd, Nat.reduceSub, Nat.reduceMul, Nat.reduceEqDiff, Nat.reduceLT, Nat.reduceLeDiff, Int.reduceToNat, Int.reduceLE, Int.reduceLT, Int.reduceEq, Int.reduceNeg, reduceCtorEq]
theorem def68_some (h : HS) (e : Nat) (m k : Int) (he : getB h.blks e = .live 26 [.int .i64 k]) : DefS Try.prog 68 [.ptr e 0] (some (.iface 109 (.agg [.int .i64 m]))) h (fun p' h' => p' = none ∧ h' = { h with blks := setB (snocB h.blks (.live 109 [.int .i64 m])) e (.live 26 [.int .i64 m]) }) := by
  have hlt := getB_lt he
  have ha : ∀ b, getB (snocB h.blks b) (lenB h.blks) = b := fun b => by simp [getB_snoc]
  have hb : ∀ b, getB (snocB h.blks b) e = .live 26 [.int .i64 k] := fun b => by rw [getB_snoc, if_neg (by omega), he]
  refine defS_of_run (C := cx [] [] [] [] (some [])) (cx_ok trivial trivial) (g := 68) (fn := Try.f68) fn_68 rfl rfl rfl 1000 1000 ?_
  simp only [Try.f68, he, ha, hb, setB_last, go_sem, ↓reduceIte, Nat.reduceAdd, Nat.reduceSub, Nat.reduceMul, Nat.reduceEqDiff, Nat.reduceLT, Nat.reduceLeDiff, Int.reduceToNat, Int.reduceLE, Int.reduceLT, Int.reduceEq, Int.reduceNeg, reduceCtorEq]
end Go.Eng
end

/- rink.play: the program's. -/
section
namespace Go.Eng
open Go Go.RowKit Go.Proofs
set_option maxRecDepth 100000
set_option maxHeartbeats 4000000
attribute [local irreducible] OwnT DefS
/-- What rink.play does, where it is called from P. -/
def plPK (n m ver : Nat) (x : PSt) (l : Nat → Nat → Int)  (o : Out) (h' : HS) : Prop :=
  match evRun (n : Int) l m 0 x with
  | .inr y => o = .ret (.tup [.int .i64 m, .int .i64 0]) ∧ h' = ⟨[.live 22 [.vec 0 0], .live 44 [.int .i64 0, .int .i64 0, .int .i64 0, .int .i64 0, .int .i64 0, .int .i64 0], .live 96 [.vec 1 ver, .int .i64 (y.s 0), .int .i64 (y.s 1), .int .i64 (y.s 2), .int .i64 (y.s 3), .int .i64 (y.s 4), .int .i64 (y.s 5)]], [.live 0 37 4 0 fun _ _ => .any, .live ver 93 4 n fun i j => .int .i64 (y.z i j)]⟩
  | .inl (i, e) => o = .ret (.tup [.int .i64 i, .int .i64 e]) ∧ h' = ⟨[.live 22 [.vec 0 0], .live 44 [.int .i64 0, .int .i64 0, .int .i64 0, .int .i64 0, .int .i64 0, .int .i64 0], .dead], [.live 0 37 4 0 fun _ _ => .any, .dead]⟩
def plPJ (n m ver : Nat) (x : PSt) (l : Nat → Nat → Int)  (o : Out) (h' : HS) : Prop :=
  match evRun (n : Int) l m 0 x with
  | .inr y => o = .ret (.tup [.int .i64 m, .int .i64 0]) ∧ ∃ tr : List Blk, h' = ⟨.live 22 [.vec 0 0] :: .live 44 [.int .i64 0, .int .i64 0, .int .i64 0, .int .i64 0, .int .i64 0, .int .i64 0] :: .live 96 [.vec 1 ver, .int .i64 (y.s 0), .int .i64 (y.s 1), .int .i64 (y.s 2), .int .i64 (y.s 3), .int .i64 (y.s 4), .int .i64 (y.s 5)] :: tr, [.live 0 37 4 0 fun _ _ => .any, .live ver 93 4 n fun i j => .int .i64 (y.z i j)]⟩
  | .inl (i, e) => o = .ret (.tup [.int .i64 i, .int .i64 e]) ∧ ∃ (c : List SV) (f : Nat → Nat → SV) (tr : List Blk), h' = ⟨.live 22 [.vec 0 0] :: .live 44 [.int .i64 0, .int .i64 0, .int .i64 0, .int .i64 0, .int .i64 0, .int .i64 0] :: .live 96 c :: tr, [.live 0 37 4 0 fun _ _ => .any, .live ver 93 4 n f]⟩
theorem plP (n m ver : Nat) (x : PSt) (l : Nat → Nat → Int)  (hn : 1 ≤ n ∧ n ≤ 24) (hm : m ≤ 256) (hx : AllOk n x) (b : Int) (hb : 0 ≤ b ∧ b ≤ 100000000000) (hs : SumB b x) :
    CallsS Try.prog 52 [.ptr 2 0, .row m 5 (fun i j => .int .i64 (l i j))] ⟨[.live 22 [.vec 0 0], .live 44 [.int .i64 0, .int .i64 0, .int .i64 0, .int .i64 0, .int .i64 0, .int .i64 0], .live 96 [.vec 1 ver, .int .i64 (x.s 0), .int .i64 (x.s 1), .int .i64 (x.s 2), .int .i64 (x.s 3), .int .i64 (x.s 4), .int .i64 (x.s 5)]], [.live 0 37 4 0 fun _ _ => .any, .live ver 93 4 n fun i j => .int .i64 (x.z i j)]⟩ (plPK n m ver x l ) := by
  refine calls_trim (K := plPJ n m ver x l ) (calls_of_defer (C := cx [] [] [(39, inBase), (38, validBase), (44, lessBase), (45, moreBase), (90, takenBase)] [(52, 11, p52_11), (71, 1, p71_1), (81, 1, p81_1), (81, 2, p81_2), (82, 1, p82_1), (83, 1, p83_1), (83, 2, p83_2), (84, 1, p84_1), (85, 1, p85_1), (85, 2, p85_2)] (some [4, 5])) (cx_ok trivial ⟨in2_base, valid_base, less_base, more_base, taken_base, trivial⟩) (g := 52) (fn := Try.f52) fn_52 rfl rfl 1000 1000 ?_) ?_
  rotate_left
  · intro o h' hk
    unfold plPJ at hk
    unfold plPK
    split at hk
    · rename_i y hy
      obtain ⟨rfl, tr, rfl⟩ := hk
      exact ⟨_, _, _, ⟨rfl, ⟨rfl, rfl⟩⟩, by constructor <;> simp only [go_sem, ↓reduceIte, Nat.reduceAdd, Nat.reduceSub, Nat.reduceMul, Nat.reduceEqDiff, Nat.reduceLT, Nat.reduceLeDiff, Int.reduceToNat, Int.reduceLE, Int.reduceLT, Int.reduceEq, Int.reduceNeg, reduceCtorEq] <;> (try simp), by simp [lenB], by simp [lenV]⟩
    · rename_i i e hy
      obtain ⟨rfl, c, f, tr, rfl⟩ := hk
      exact ⟨_, _, _, ⟨rfl, ⟨rfl, rfl⟩⟩, by constructor <;> simp only [go_sem, ↓reduceIte, Nat.reduceAdd, Nat.reduceSub, Nat.reduceMul, Nat.reduceEqDiff, Nat.reduceLT, Nat.reduceLeDiff, Int.reduceToNat, Int.reduceLE, Int.reduceLT, Int.reduceEq, Int.reduceNeg, reduceCtorEq] <;> (try simp), by simp [lenB], by simp [lenV]⟩
  · simp only [in_eq, valid_eq, less_eq, more_eq, taken_eq, Try.f52, Try.f69, Try.f70, Try.f71, Try.f53, Try.f72, Try.f81, Try.f82, Try.f83, Try.f84, Try.f85, Try.f86, p52_11, p71_1, p81_1, p81_2, p82_1, p83_1, p83_2, p84_1, p85_1, p85_2, go_sem, ↓reduceIte, Nat.reduceAdd, Nat.reduceSub, Nat.reduceMul, Nat.reduceEqDiff, Nat.reduceLT, Nat.reduceLeDiff, Int.reduceToNat, Int.reduceLE, Int.reduceLT, Int.reduceEq, Int.reduceNeg, reduceCtorEq]
    refine loop_of { q : Nat × PSt // q.1 ≤ m ∧ AllOk n q.2 ∧ SumB (b + 480000 * q.1) q.2 ∧ evRun (n : Int) l (m - q.1) q.1 q.2 = evRun (n : Int) l m 0 x }
      (fun q => [(15, .int .i64 (q.1.1 : Int)), (14, .int .i64 m), (13, .row m 5 fun i j => .int .i64 (l i j)), (6, .ptr 6 0), (5, .ptr 3 0), (4, .int .i64 (q.1.1 : Int)), (0, .ptr 2 0)])
      (fun q => ⟨[.live 22 [.vec 0 0], .live 44 [.int .i64 0, .int .i64 0, .int .i64 0, .int .i64 0, .int .i64 0, .int .i64 0], .live 96 [.vec 1 ver, .int .i64 (q.1.2.s 0), .int .i64 (q.1.2.s 1), .int .i64 (q.1.2.s 2), .int .i64 (q.1.2.s 3), .int .i64 (q.1.2.s 4), .int .i64 (q.1.2.s 5)], .live 26 [.int .i64 0], .live 85 [.ptr 2 0], .live 112 [.func 81 [.ptr 4 0], .func 82 [.ptr 4 0], .func 84 [.ptr 4 0], .func 85 [], .func 86 []], .live 112 [.func 81 [.ptr 4 0], .func 82 [.ptr 4 0], .func 84 [.ptr 4 0], .func 85 [], .func 86 []]], [.live 0 37 4 0 fun _ _ => .any, .live ver 93 4 n fun i j => .int .i64 (q.1.2.z i j)]⟩)
      (fun q => m - q.1.1) (fun _ => ⟨rfl, rfl⟩) ⟨(0, x), by omega, hx, by simpa using hs, rfl⟩ (by (apply sub_of <;> simp only [go_sem, ↓reduceIte, Nat.reduceAdd, Nat.reduceSub, Nat.reduceMul, Nat.reduceEqDiff, Nat.reduceLT, Nat.reduceLeDiff, Int.reduceToNat, Int.reduceLE, Int.reduceLT, Int.reduceEq, Int.reduceNeg, reduceCtorEq] <;> (try simp [catF]))) ?_
    rintro ⟨⟨i, y⟩, hi, hok, hsum, hrun⟩
    simp only [] at hi hok hsum hrun
    simp only [in_eq, valid_eq, less_eq, more_eq, taken_eq, Try.f52, Try.f69, Try.f70, Try.f71, Try.f53, Try.f72, Try.f81, Try.f82, Try.f83, Try.f84, Try.f85, Try.f86, p52_11, p71_1, p81_1, p81_2, p82_1, p83_1, p83_2, p84_1, p85_1, p85_2, go_sem, ↓reduceIte, Nat.reduceAdd, Nat.reduceSub, Nat.reduceMul, Nat.reduceEqDiff, Nat.reduceLT, Nat.reduceLeDiff, Int.reduceToNat, Int.reduceLE, Int.reduceLT, Int.reduceEq, Int.reduceNeg, reduceCtorEq]
    have hwn : IntKind.i64.wrap ((n : Int) - 1) = (n : Int) - 1 := wrap_id (by omega) (by omega)
    simp only [hwn]
    repeat' (first | refine And.intro ?_ ?_ | intro _)
    all_goals try (first | (show planOk _ _ = true; kernel_rfl) | (show keepOk _ _ = true; kernel_rfl) | trivial)
    all_goals try (simp only [decide_eq_true_eq, decide_eq_false_iff_not, Bool.not_eq_true', Bool.not_eq_false'] at *; omega)
    all_goals simp only [decide_eq_true_eq, decide_eq_false_iff_not, Bool.not_eq_true', Bool.not_eq_false', ← Bool.not_eq_true, in3_iff, sp3_iff, not_and, Int.not_le] at *
    all_goals try omega
    all_goals first
      | (have hf : ¬ (evOk (n : Int) (l i) = true) := by
           intro hc
           have h1 := evOk_iff.1 hc
           unfold toOf EvB at h1
           split at h1 <;> omega
         refine defS_mono (def68_some _ 3 1 0 rfl) ?_
         rintro p' h' ⟨rfl, rfl⟩
         simp only [go_sem, ↓reduceIte, Nat.reduceAdd, Nat.reduceSub, Nat.reduceMul, Nat.reduceEqDiff, Nat.reduceLT, Nat.reduceLeDiff, Int.reduceToNat, Int.reduceLE, Int.reduceLT, Int.reduceEq, Int.reduceNeg, reduceCtorEq]
         have e1 : evRun (n : Int) l m 0 x = .inl (i, 1) := by
           rw [← hrun, evRun_cons (by omega), if_neg hf]
         unfold plPJ
         rw [e1]
         exact ⟨rfl, _, _, _, rfl⟩)
      | (refine defS_mono (def68_none _ 3) ?_
         rintro p' h' ⟨rfl, rfl⟩
         simp only [go_sem, ↓reduceIte, Nat.reduceAdd, Nat.reduceSub, Nat.reduceMul, Nat.reduceEqDiff, Nat.reduceLT, Nat.reduceLeDiff, Int.reduceToNat, Int.reduceLE, Int.reduceLT, Int.reduceEq, Int.reduceNeg, reduceCtorEq]
         have e0 : m - i = 0 := by omega
         have e1 : evRun (n : Int) l m 0 x = .inr y := by rw [← hrun, e0]; rfl
         have e2 : i = m := by omega
         subst e2
         unfold plPJ
         rw [e1]
         exact ⟨rfl, _, rfl⟩)
      | skip
    all_goals
      have hev : evOk (n : Int) (l i) = true := by
        refine evOk_iff.2 ?_
        unfold toOf EvB
        split <;> omega
      obtain ⟨⟨a1, a2, a3⟩, hEv⟩ := evOk_iff.1 hev
      have hfr : ((l i 1).toNat : Int) = l i 1 := by omega
      have hto : toOf (l i) = if l i 0 = 3 then l i 1 else l i 2 := rfl
      refine loop_ofH { r : Nat × PSt // (l i 1).toNat ≤ r.1 ∧ (r.1 : Int) ≤ toOf (l i) + 1 ∧ AllOk n r.2 ∧ SumB (b + 480000 * i + 20000 * (r.1 - l i 1)) r.2 ∧ zRun (l i) (toOf (l i) + 1 - r.1).toNat r.1 r.2 = zRun (l i) (toOf (l i) - l i 1 + 1).toNat (l i 1).toNat y }
        (fun r => [(5, .int .i64 (r.1.1 : Int)), (3, .ptr 9 0), (2, .ptr 11 0), (1, .ptr 10 0), (0, .yield 12)])
        (fun h r => ⟨[.live 22 [.vec 0 0], .live 44 [.int .i64 0, .int .i64 0, .int .i64 0, .int .i64 0, .int .i64 0, .int .i64 0], .live 96 [.vec 1 ver, .int .i64 (r.1.2.s 0), .int .i64 (r.1.2.s 1), .int .i64 (r.1.2.s 2), .int .i64 (r.1.2.s 3), .int .i64 (r.1.2.s 4), .int .i64 (r.1.2.s 5)], .live 26 [.int .i64 0], .live 85 [.ptr 2 0], .live 112 [.func 81 [.ptr 4 0], .func 82 [.ptr 4 0], .func 84 [.ptr 4 0], .func 85 [], .func 86 []], .live 112 [.func 81 [.ptr 4 0], .func 82 [.ptr 4 0], .func 84 [.ptr 4 0], .func 85 [], .func 86 []], .live 41 [.int .i64 (l i 0), .int .i64 (l i 1), .int .i64 (toOf (l i)), .int .i64 (l i 3), .int .i64 (l i 4)], .dead, .live 85 [.ptr 2 0], .live 3 [.int .i64 (l i 1)], .live 3 [.int .i64 (toOf (l i))], getB h.blks 12], [.live 0 37 4 0 fun _ _ => .any, .live ver 93 4 n fun i j => .int .i64 (r.1.2.z i j)]⟩)
        (fun r => (toOf (l i) + 1 - r.1.1).toNat) (fun _ => ⟨rfl, rfl⟩) ⟨((l i 1).toNat, y), by omega, by omega, hok, by simpa [hfr] using hsum, by rw [hfr]; congr 1; omega⟩ (by apply sub_of <;> simp only [go_sem, ↓reduceIte, Nat.reduceAdd, Nat.reduceSub, Nat.reduceMul, Nat.reduceEqDiff, Nat.reduceLT, Nat.reduceLeDiff, Int.reduceToNat, Int.reduceLE, Int.reduceLT, Int.reduceEq, Int.reduceNeg, reduceCtorEq] <;> (try simp [hto, hfr, *]) <;> (try (refine bd_setL ?_; simp only [go_sem, ↓reduceIte, Nat.reduceAdd, Nat.reduceSub, Nat.reduceMul, Nat.reduceEqDiff, Nat.reduceLT, Nat.reduceLeDiff, Int.reduceToNat, Int.reduceLE, Int.reduceLT, Int.reduceEq, Int.reduceNeg, reduceCtorEq]; try simp))) ?_
      rintro ⟨⟨k, w⟩, hk1, hk2, hwok, hwsum, hwrun⟩
      simp only [] at hk1 hk2 hwok hwsum hwrun
      have hkind : l i 0 = 0 ∨ l i 0 = 1 ∨ l i 0 = 2 ∨ l i 0 = 3 ∨ l i 0 = 4 := by omega
      rcases hkind with hk | hk | hk | hk | hk <;> (try (exfalso; omega))
    all_goals
      simp only [hk, in_eq, valid_eq, less_eq, more_eq, taken_eq, Try.f52, Try.f69, Try.f70, Try.f71, Try.f53, Try.f72, Try.f81, Try.f82, Try.f83, Try.f84, Try.f85, Try.f86, p52_11, p71_1, p81_1, p81_2, p82_1, p83_1, p83_2, p84_1, p85_1, p85_2, go_sem, ↓reduceIte, Nat.reduceAdd, Nat.reduceSub, Nat.reduceMul, Nat.reduceEqDiff, Nat.reduceLT, Nat.reduceLeDiff, Int.reduceToNat, Int.reduceLE, Int.reduceLT, Int.reduceEq, Int.reduceNeg, reduceCtorEq]
      have hev2 : evRun (n : Int) l (m - i) i y = _ := evRun_cons (by omega)
      rw [if_pos hev] at hev2
      refine ⟨fun d1 => ?_, fun d1 => ?_⟩
      · simp only [decide_eq_true_eq] at d1
        have hkn : k < n := by omega
        have hz := hwok k hkn
        have hzr := zRun_cons (e := l i) (c := (toOf (l i) + 1 - (k : Int)).toNat) (k := k) (x := w) (by omega)
        have hzz := okZ_iff.1 hz
        have hE1 := hEv.2
        have hst : ∀ j, (stepZ (l i) k w).s j = w.s j + dS (l i) (w.z k) j := fun _ => rfl
        have hwv : ∀ v j, 0 ≤ v → v ≤ 20000 → IntKind.i64.wrap (w.s j + v) = w.s j + v := fun v j h1 h2 => by
          have := hwsum j
          exact wrap_id (by omega) (by omega)
        have hw2 : IntKind.i64.wrap ((k : Int) + 1) = ((k + 1 : Nat) : Int) := by rw [wrap_id (by omega) (by omega)]; omega
        repeat' (first | refine And.intro ?_ ?_ | intro _)
        all_goals try (first | (show planOk _ _ = true; kernel_rfl) | (show keepOk _ _ = true; kernel_rfl) | trivial)
        all_goals try omega
        all_goals try (rename_i f1; simp only [Bool.not_eq_true', Bool.not_eq_false', decide_eq_true_eq, decide_eq_false_iff_not] at f1)
        all_goals first
          | (have hze : zErr (l i) (w.z k) = 6 := by
               unfold zErr dErr
               rw [hk]
               try rw [wrap_id (by omega) (by omega)] at f1
               simp
               omega
             refine defS_mono (def68_some _ 3 6 0 rfl) ?_
             rintro p' h' ⟨rfl, rfl⟩
             simp only [go_sem, ↓reduceIte, Nat.reduceAdd, Nat.reduceSub, Nat.reduceMul, Nat.reduceEqDiff, Nat.reduceLT, Nat.reduceLeDiff, Int.reduceToNat, Int.reduceLE, Int.reduceLT, Int.reduceEq, Int.reduceNeg, reduceCtorEq]
             have e1 : evRun (n : Int) l m 0 x = .inl (i, 6) := by
               rw [← hrun, hev2, ← hwrun, hzr, hze]; rfl
             unfold plPJ
             rw [e1]
             exact ⟨rfl, _, _, _, rfl⟩)
          | (have hze : zErr (l i) (w.z k) = 12 := by
               unfold zErr dErr
               rw [hk]
               try rw [wrap_id (by omega) (by omega)] at f1
               simp
               omega
             refine defS_mono (def68_some _ 3 12 0 rfl) ?_
             rintro p' h' ⟨rfl, rfl⟩
             simp only [go_sem, ↓reduceIte, Nat.reduceAdd, Nat.reduceSub, Nat.reduceMul, Nat.reduceEqDiff, Nat.reduceLT, Nat.reduceLeDiff, Int.reduceToNat, Int.reduceLE, Int.reduceLT, Int.reduceEq, Int.reduceNeg, reduceCtorEq]
             have e1 : evRun (n : Int) l m 0 x = .inl (i, 12) := by
               rw [← hrun, hev2, ← hwrun, hzr, hze]; rfl
             unfold plPJ
             rw [e1]
             exact ⟨rfl, _, _, _, rfl⟩)
          | (have h0 : zErr (l i) (w.z k) = 0 := by
               unfold zErr dErr
               rw [hk]
               try rw [wrap_id (by omega) (by omega)] at f1
               simp
               try omega
             rw [if_pos h0] at hzr
             refine ⟨⟨(k + 1, stepZ (l i) k w), by simp only []; omega, by simp only []; omega, step_ok hEv hwok hkn h0, ?_, ?_⟩, by simp only []; omega, ?_⟩
             · have := step_sum hEv hwok hkn hwsum
               intro j; have := this j; simp only []; omega
             · simp only []; rw [← hwrun, hzr]; congr 1; omega
             · apply sub_of <;> simp only [hw2, hst, dS, hk, go_sem, ↓reduceIte, Nat.reduceAdd, Nat.reduceSub, Nat.reduceMul, Nat.reduceEqDiff, Nat.reduceLT, Nat.reduceLeDiff, Int.reduceToNat, Int.reduceLE, Int.reduceLT, Int.reduceEq, Int.reduceNeg, reduceCtorEq] <;> (try simp)
               all_goals first
                 | exact ⟨hwv _ _ (by omega) (by omega), hwv _ _ (by omega) (by omega)⟩
                 | (refine bd_setL ?_
                    simp only [go_sem, ↓reduceIte, Nat.reduceAdd, Nat.reduceSub, Nat.reduceMul, Nat.reduceEqDiff, Nat.reduceLT, Nat.reduceLeDiff, Int.reduceToNat, Int.reduceLE, Int.reduceLT, Int.reduceEq, Int.reduceNeg, reduceCtorEq]
                    simp; done)
                 | (intro a c ha hc
                    by_cases hak : a = k
                    · subst hak
                      have hc4 : c = 0 ∨ c = 1 ∨ c = 2 ∨ c = 3 := by omega
                      rcases hc4 with rfl | rfl | rfl | rfl <;> simp [stepZ, dZ, dA, dB, hk, nth] <;> (try (rw [wrap_id (by omega) (by omega)]))
                    · simp [stepZ, hak]))
      · simp only [decide_eq_false_iff_not] at d1
        have e0 : (toOf (l i) + 1 - (k : Int)).toNat = 0 := by omega
        rw [e0, zRun] at hwrun
        rw [← hwrun] at hev2
        have hw2 : IntKind.i64.wrap ((i : Int) + 1) = ((i + 1 : Nat) : Int) := by rw [wrap_id (by omega) (by omega)]; omega
        refine ⟨⟨(i + 1, w), by simp only []; omega, hwok, fun j => by have := hwsum j; simp only []; omega, ?_⟩, by simp only []; omega, ?_⟩
        · simp only []; rw [← hrun, hev2]; congr 1
        · apply sub_of <;> simp only [hw2, go_sem, ↓reduceIte, Nat.reduceAdd, Nat.reduceSub, Nat.reduceMul, Nat.reduceEqDiff, Nat.reduceLT, Nat.reduceLeDiff, Int.reduceToNat, Int.reduceLE, Int.reduceLT, Int.reduceEq, Int.reduceNeg, reduceCtorEq] <;> (try simp)
end Go.Eng
end

/- Play: the program's. -/
section
namespace Go.Eng
open Go Go.RowKit Go.Proofs
set_option maxRecDepth 100000
set_option maxHeartbeats 4000000
attribute [local irreducible] OwnT DefS
theorem zRun_err {e : Nat → Int} : ∀ {c k : Nat} {x : PSt} {q : Int}, zRun e c k x = .inl q → q ≠ 0
  | 0, k, x, q, h => by simp [zRun] at h
  | c + 1, k, x, q, h => by
    simp only [zRun] at h
    split at h
    · exact zRun_err h
    · rename_i h0; cases h; exact h0
theorem evRun_err {n : Int} {l : Nat → Nat → Int} : ∀ {c i : Nat} {x : PSt} {j : Nat} {q : Int}, evRun n l c i x = .inl (j, q) → q ≠ 0
  | 0, i, x, j, q, h => by simp [evRun] at h
  | c + 1, i, x, j, q, h => by
    simp only [evRun] at h
    split at h
    · split at h
      · rename_i e he; cases h; exact zRun_err he
      · exact evRun_err h
    · cases h; decide
theorem row_snoc {k : Nat} {z : Nat → Nat → Int} {a b : Nat} (ha : a < k + 1) (hb : b < 4) : catF k (fun i j => SV.int .i64 (z i j)) (oneF [.int .i64 (z k 0), .int .i64 (z k 1), .int .i64 (z k 2), .int .i64 (z k 3)]) a b = .int .i64 (z a b) := by
  unfold catF oneF
  split
  · rfl
  · have : a = k := by omega
    subst this
    have hc4 : b = 0 ∨ b = 1 ∨ b = 2 ∨ b = 3 := by omega
    rcases hc4 with rfl | rfl | rfl | rfl <;> rfl
def playBase : BaseF := fun args => match args with
  | [.row n sz_z f_z, .row m sz_l f_l] => some ((sz_z = 4 ∧ IntR n 4 f_z) ∧ (sz_l = 5 ∧ IntR m 5 f_l), tplayR n m (fun i j => iv (f_z i j)) (fun i j => iv (f_l i j)))
  | _ => none
theorem play_eq (n : Nat) (z : Nat → Nat → Int) (m : Nat) (l : Nat → Nat → Int) : playBase [.row n 4 (fun i j => .int .i64 (z i j)), .row m 5 (fun i j => .int .i64 (l i j))] = some ((4 = 4 ∧ IntR n 4 (fun i j => .int .i64 (z i j))) ∧ (5 = 5 ∧ IntR m 5 (fun i j => .int .i64 (l i j))), tplayR n m z l) := rfl
theorem play_base : BaseO Try.prog 19 37 playBase := by
  intro args p v hq hp
  unfold playBase at hq
  split at hq
  rotate_left
  · cases hq
  rename_i n sz_z f_z m sz_l f_l
  cases hq
  obtain ⟨⟨rfl, i_z⟩, ⟨rfl, i_l⟩⟩ := hp
  refine baseO_of (C := cx [52] [] [(37, rinkBase)] [(19, 2, p19_2), (19, 4, p19_4), (19, 8, p19_8), (19, 11, p19_11), (19, 12, p19_12)] none) (cx_ok trivial ⟨isRink_base, trivial⟩) rfl (g := 19) (fn := Try.f19)
    (args' := [.row n 4 (rowF .i64 (fun i j => iv (f_z i j))), .row m 5 (rowF .i64 (fun i j => iv (f_l i j)))]) (fn_19) rfl 1000 (by simp only [BdL, Bd, and_self, and_true, true_and]; exact ⟨fun i j hi hj => by rw [i_z i j hi hj]; trivial, fun i j hi hj => by rw [i_l i j hi hj]; trivial⟩) ⟨SameD.int i_z, SameD.int i_l, trivial⟩ ?_
  generalize (fun i j => iv (f_z i j)) = z
  generalize (fun i j => iv (f_l i j)) = l
  simp only [rowF_eq]
  simp only [rink_eq, p19_2, p19_4, p19_8, p19_11, p19_12, pTup, Try.f51, Try.f53, Try.f72, Try.f19, go_sem, ↓reduceIte, Nat.reduceAdd, Nat.reduceSub, Nat.reduceMul, Nat.reduceEqDiff, Nat.reduceLT, Nat.reduceLeDiff, Int.reduceToNat, Int.reduceLE, Int.reduceLT, Int.reduceEq, Int.reduceNeg, reduceCtorEq]
  refine ⟨fun c1 => ⟨⟨by kernel_rfl, by kernel_rfl⟩, ?_⟩, fun c1 => ⟨fun c2 => ⟨⟨by kernel_rfl, by kernel_rfl⟩, ?_⟩, fun c2 => ?_⟩⟩
  · rw [show tplayR n m z l = pTup (pErr 0 1) by simp at c1; simp [tplayR, playT, c1]]
    simp only [pTup, pErr, go_sem, ↓reduceIte, Nat.reduceAdd, Nat.reduceSub, Nat.reduceMul, Nat.reduceEqDiff, Nat.reduceLT, Nat.reduceLeDiff, Int.reduceToNat, Int.reduceLE, Int.reduceLT, Int.reduceEq, Int.reduceNeg, reduceCtorEq]
    simp
  · rw [show tplayR n m z l = pTup (pErr 0 3) by simp at c1 c2; simp [tplayR, playT, c1, show ¬ m ≤ 256 by omega]]
    simp only [pTup, pErr, go_sem, ↓reduceIte, Nat.reduceAdd, Nat.reduceSub, Nat.reduceMul, Nat.reduceEqDiff, Nat.reduceLT, Nat.reduceLeDiff, Int.reduceToNat, Int.reduceLE, Int.reduceLT, Int.reduceEq, Int.reduceNeg, reduceCtorEq]
    simp
  simp at c1 c2
  have hb := rinkB_iff.1 c1
  have hT : tplayR n m z l = pTup (playO n m z l) := by simp [tplayR, playT, c1, show m ≤ 256 by omega]
  refine loop_of { i : Nat // i ≤ n }
    (fun i => [(8, .int .i64 (i.1 : Int)), (7, .int .i64 (n : Int)), (6, .row n 4 fun i j => .int .i64 (z i j)), (3, .ptr 2 0)])
    (fun i => ⟨[.live 22 [.vec 0 0], .live 44 [.int .i64 0, .int .i64 0, .int .i64 0, .int .i64 0, .int .i64 0, .int .i64 0], .live 96 [.vec 1 i.1, .int .i64 0, .int .i64 0, .int .i64 0, .int .i64 0, .int .i64 0, .int .i64 0]],
       [.live 0 37 4 0 fun _ _ => .any, .live i.1 93 4 i.1 fun i j => .int .i64 (z i j)]⟩) (fun i => n - i.1) (fun _ => ⟨rfl, rfl⟩) ⟨0, by omega⟩ (by (apply sub_of <;> simp only [go_sem, ↓reduceIte, Nat.reduceAdd, Nat.reduceSub, Nat.reduceMul, Nat.reduceEqDiff, Nat.reduceLT, Nat.reduceLeDiff, Int.reduceToNat, Int.reduceLE, Int.reduceLT, Int.reduceEq, Int.reduceNeg, reduceCtorEq] <;> (try simp [catF]))) ?_
  rintro ⟨i, hi⟩
  simp only [rink_eq, p19_2, p19_4, p19_8, p19_11, p19_12, pTup, Try.f51, Try.f53, Try.f72, Try.f19, go_sem, ↓reduceIte, Nat.reduceAdd, Nat.reduceSub, Nat.reduceMul, Nat.reduceEqDiff, Nat.reduceLT, Nat.reduceLeDiff, Int.reduceToNat, Int.reduceLE, Int.reduceLT, Int.reduceEq, Int.reduceNeg, reduceCtorEq]
  refine ⟨fun d1 => ⟨⟨by omega, by simpa using d1⟩, ⟨by simp at d1; omega, by simp at d1; omega⟩, ⟨⟨i + 1, by simp at d1; omega⟩, by simp at d1; simp only []; omega, ?_⟩⟩, fun d1 => ?_⟩
  · simp at d1
    have hw2 : IntKind.i64.wrap ((i : Int) + 1) = ((i + 1 : Nat) : Int) := by rw [wrap_id (by omega) (by omega)]; omega
    apply sub_of <;> simp only [hw2, go_sem, ↓reduceIte, Nat.reduceAdd, Nat.reduceSub, Nat.reduceMul, Nat.reduceEqDiff, Nat.reduceLT, Nat.reduceLeDiff, Int.reduceToNat, Int.reduceLE, Int.reduceLT, Int.reduceEq, Int.reduceNeg, reduceCtorEq] <;> (try simp)
    exact fun a c ha hc => row_snoc ha hc
  · simp at d1
    have e : i = n := by omega
    subst e
    unfold callS
    refine calls_mono ?_ (plP i m i ⟨z, fun _ => 0⟩ l hb.1 (by omega) hb.2 0 (by omega) (fun j => by simp))
    intro o h' hk
    unfold plPK at hk
    split at hk
    · rename_i y hy
      obtain ⟨rfl, rfl⟩ := hk
      simp only [rink_eq, p19_2, p19_4, p19_8, p19_11, p19_12, pTup, Try.f51, Try.f53, Try.f72, Try.f19, go_sem, ↓reduceIte, Nat.reduceAdd, Nat.reduceSub, Nat.reduceMul, Nat.reduceEqDiff, Nat.reduceLT, Nat.reduceLeDiff, Int.reduceToNat, Int.reduceLE, Int.reduceLT, Int.reduceEq, Int.reduceNeg, reduceCtorEq]
      have hy2 : y = ⟨y.z, y.s⟩ := rfl
      rw [hT]
      have hP : playO i m z l = ⟨i, y.z, y.s, m, 0⟩ := by unfold playO; rw [hy]; rfl
      rw [hP]
      have hwn : IntKind.i64.wrap ((i : Int) - 1) = (i : Int) - 1 := wrap_id (by omega) (by omega)
      simp only [hwn]
      refine loop_ofH { k : Nat // k ≤ i } (fun k => [(5, .int .i64 (k.1 : Int)), (3, .ptr 3 0), (2, .ptr 5 0), (1, .ptr 4 0), (0, .yield 6)])
        (fun h k => ⟨[.live 22 [.vec 0 k.1], .live 44 [.int .i64 0, .int .i64 0, .int .i64 0, .int .i64 0, .int .i64 0, .int .i64 0], getB h.blks 2, .live 85 [.ptr 2 0], .live 3 [.int .i64 0], .live 3 [.int .i64 ((i : Int) - 1)], getB h.blks 6], [.live k.1 37 4 k.1 fun i j => .int .i64 (y.z i j), getV h.vecs 1]⟩)
        (fun k => i - k.1) (fun _ => ⟨rfl, rfl⟩) ⟨0, by omega⟩ (by apply sub_of <;> simp only [go_sem, ↓reduceIte, Nat.reduceAdd, Nat.reduceSub, Nat.reduceMul, Nat.reduceEqDiff, Nat.reduceLT, Nat.reduceLeDiff, Int.reduceToNat, Int.reduceLE, Int.reduceLT, Int.reduceEq, Int.reduceNeg, reduceCtorEq] <;> (try simp) <;> (try (refine bd_setL ?_; simp only [go_sem, ↓reduceIte, Nat.reduceAdd, Nat.reduceSub, Nat.reduceMul, Nat.reduceEqDiff, Nat.reduceLT, Nat.reduceLeDiff, Int.reduceToNat, Int.reduceLE, Int.reduceLT, Int.reduceEq, Int.reduceNeg, reduceCtorEq]; try simp))) ?_
      rintro ⟨k, hk⟩
      simp only [rink_eq, p19_2, p19_4, p19_8, p19_11, p19_12, pTup, Try.f51, Try.f53, Try.f72, Try.f19, go_sem, ↓reduceIte, Nat.reduceAdd, Nat.reduceSub, Nat.reduceMul, Nat.reduceEqDiff, Nat.reduceLT, Nat.reduceLeDiff, Int.reduceToNat, Int.reduceLE, Int.reduceLT, Int.reduceEq, Int.reduceNeg, reduceCtorEq]
      have hw2 : IntKind.i64.wrap ((k : Int) + 1) = ((k + 1 : Nat) : Int) := by rw [wrap_id (by omega) (by omega)]; omega
      refine ⟨fun d2 => ?_, fun d2 => ?_⟩
      · simp only [decide_eq_true_eq] at d2
        refine ⟨⟨by omega, by omega⟩, ⟨by kernel_rfl, by kernel_rfl⟩, by omega, by omega, ⟨by omega, by omega⟩, ⟨k + 1, by omega⟩, by simp only []; omega, ?_⟩
        apply sub_of <;> simp only [hw2, go_sem, ↓reduceIte, Nat.reduceAdd, Nat.reduceSub, Nat.reduceMul, Nat.reduceEqDiff, Nat.reduceLT, Nat.reduceLeDiff, Int.reduceToNat, Int.reduceLE, Int.reduceLT, Int.reduceEq, Int.reduceNeg, reduceCtorEq] <;> (try simp) <;> first
          | exact fun a c ha hc => row_snoc ha hc
          | (refine bd_setL ?_; simp only [go_sem, ↓reduceIte, Nat.reduceAdd, Nat.reduceSub, Nat.reduceMul, Nat.reduceEqDiff, Nat.reduceLT, Nat.reduceLeDiff, Int.reduceToNat, Int.reduceLE, Int.reduceLT, Int.reduceEq, Int.reduceNeg, reduceCtorEq]; simp; done)
      · simp only [decide_eq_false_iff_not] at d2
        have e : k = i := by omega
        subst e
        exact ⟨⟨by kernel_rfl, by kernel_rfl⟩, rfl, fun _ _ _ _ => trivial⟩
    · rename_i e k hy
      obtain ⟨rfl, rfl⟩ := hk
      simp only [rink_eq, p19_2, p19_4, p19_8, p19_11, p19_12, pTup, Try.f51, Try.f53, Try.f72, Try.f19, go_sem, ↓reduceIte, Nat.reduceAdd, Nat.reduceSub, Nat.reduceMul, Nat.reduceEqDiff, Nat.reduceLT, Nat.reduceLeDiff, Int.reduceToNat, Int.reduceLE, Int.reduceLT, Int.reduceEq, Int.reduceNeg, reduceCtorEq]
      have hk0 := evRun_err hy
      refine ⟨fun d2 => ⟨⟨by kernel_rfl, by kernel_rfl⟩, ?_⟩, fun d2 => absurd (by simpa using d2) hk0⟩
      rw [hT]
      have hP : playO i m z l = pErr e k := by unfold playO; rw [hy]; rfl
      rw [hP]
      simp only [pTup, pErr, go_sem, ↓reduceIte, Nat.reduceAdd, Nat.reduceSub, Nat.reduceMul, Nat.reduceEqDiff, Nat.reduceLT, Nat.reduceLeDiff, Int.reduceToNat, Int.reduceLE, Int.reduceLT, Int.reduceEq, Int.reduceNeg, reduceCtorEq]
      simp
theorem play_at (n : Nat) (z : Nat → Nat → Int) (m : Nat) (l : Nat → Nat → Int) : playBase [.row n 4 (fun i j => .int .i64 (z i j)), .row m 5 (fun i j => .int .i64 (l i j))] = some ((4 = 4 ∧ IntR n 4 (fun i j => .int .i64 (z i j))) ∧ (5 = 5 ∧ IntR m 5 (fun i j => .int .i64 (l i j))), pTup (playT n m z l)) := rfl
end Go.Eng
end

/- Water's results, part by part. -/
section
namespace Go.Eng
open Go Go.RowKit Go.Proofs
set_option maxRecDepth 100000
set_option maxHeartbeats 4000000
attribute [local irreducible] OwnT DefS
def waterV (n : Nat) (z : Nat → Nat → Int) (wl wh pl ph : Int) (passes : Int) (least most : Int) : Int × Int × Int :=
  if rinkB n z = true ∧ sp3 wl wh 20000 = true ∧ sp3 pl ph 20000 = true then
    if in3 passes 1 100 = true ∧ in3 most 0 20000 = true ∧ in3 least 0 most = true then
      if srch (muchB n passes.toNat (fun i => z i 1) wl pl most) 20001 0 20001 ≤ srch (enoughB n passes.toNat (fun i => z i 0) wh ph least) 20001 0 20001 then (0, 0, 4)
      else ((srch (enoughB n passes.toNat (fun i => z i 0) wh ph least) 20001 0 20001 : Int), (srch (muchB n passes.toNat (fun i => z i 1) wl pl most) 20001 0 20001 : Int) - 1, 0)
    else (0, 0, 2)
  else (0, 0, 1)
def spanT (v : Int × Int × Int) : SV := .tup [.agg [.int .i64 v.1, .int .i64 v.2.1], .int .i64 v.2.2]
theorem waterR_tup (n : Nat) (z : Nat → Nat → Int) (wl wh pl ph passes least most : Int) : waterR n z wl wh pl ph passes least most = spanT (waterV n z wl wh pl ph passes least most) := by
  unfold waterR waterV
  split
  · split
    · simp only []
      split <;> rfl
    · rfl
  · rfl
theorem water_at (n : Nat) (z : Nat → Nat → Int) (wl wh pl ph passes least most : Int) : waterBase [.row n 4 (fun i j => .int .i64 (z i j)), .agg [.int .i64 wl, .int .i64 wh], .agg [.int .i64 pl, .int .i64 ph], .int .i64 passes, .int .i64 least, .int .i64 most] =
    some (4 = 4 ∧ IntR n 4 (fun i j => .int .i64 (z i j)), spanT (waterV n z wl wh pl ph passes least most)) := by
  rw [← waterR_tup]; rfl
theorem rwater_at (n : Nat) (z : Nat → Nat → Int) (wl wh pl ph passes least most : Int) : rwaterBase [.row n 4 (fun i j => .int .i64 (z i j)), .agg [.int .i64 wl, .int .i64 wh], .agg [.int .i64 pl, .int .i64 ph], .int .i64 passes, .int .i64 least, .int .i64 most] =
    some (4 = 4 ∧ IntR n 4 (fun i j => .int .i64 (z i j)), spanT (waterV n z wl wh pl ph passes least most)) := by
  rw [← waterR_tup, waters_same]; rfl
theorem water_gen (n : Nat) (f : Nat → Nat → SV) (wl wh pl ph passes least most : Int) : waterBase [.row n 4 f, .agg [.int .i64 wl, .int .i64 wh], .agg [.int .i64 pl, .int .i64 ph], .int .i64 passes, .int .i64 least, .int .i64 most] =
    some (4 = 4 ∧ IntR n 4 f, spanT (waterV n (fun i j => iv (f i j)) wl wh pl ph passes least most)) := by
  rw [← waterR_tup]; rfl
theorem play_gen (n m : Nat) (f l : Nat → Nat → SV) : playBase [.row n 4 f, .row m 5 l] = some ((4 = 4 ∧ IntR n 4 f) ∧ (5 = 5 ∧ IntR m 5 l), pTup (playT n m (fun i j => iv (f i j)) (fun i j => iv (l i j)))) := rfl
theorem same_gen (n m : Nat) (f l : Nat → Nat → SV) : sameBase [.row n 4 f, .row m 4 l] = some ((4 = 4 ∧ IntR n 4 f) ∧ (4 = 4 ∧ IntR m 4 l) ∧ n ≤ 1000000, .bool (sameB n m (fun i j => iv (f i j)) (fun i j => iv (l i j)))) := rfl
def intRb (n sz : Nat) (f : Nat → Nat → SV) : Bool := allU (fun i => allU (fun j => match f i j with | .int .i64 _ => true | _ => false) sz) n
theorem intR_of {n sz : Nat} {f : Nat → Nat → SV} (h : intRb n sz f = true) : IntR n sz f := by
  intro i j hi hj
  have := allU_iff.1 (allU_iff.1 h i hi) j hj
  revert this
  generalize f i j = x
  intro this
  split at this
  · rfl
  · cases this
theorem spl_t {q : Bool} {A B : Prop} (h : q = true) (ha : A) : spl q A B := ⟨fun _ => ha, fun h' => (by rw [h] at h'; cases h')⟩
theorem spl_f {q : Bool} {A B : Prop} (h : q = false) (hb : B) : spl q A B := ⟨fun h' => (by rw [h] at h'; cases h'), fun _ => hb⟩
def aliveBase : BaseF := fun args => match args with
  | [] => some (True, .bool true)
  | _ => none
theorem alive_eq  : aliveBase [] = some (True, .bool true) := rfl
theorem alive_base : Base Try.prog 13 aliveBase := by
  intro args p v hq hp
  unfold aliveBase at hq
  split at hq
  rotate_left
  · cases hq
  cases hq
  refine base_of (C := cx [] [(19, 37, playBase)] [(14, waterBase), (25, sameBase), (23, spanBase)] [(13, 5, p13_5)] none) (cx_ok ⟨play_base, trivial⟩ ⟨water_base, same_base, span_base, trivial⟩) rfl (g := 13) (fn := Try.f13)
    (args' := []) (fn_13) rfl 1000 (by simp only [BdL, Bd, and_self]) trivial ?_
  simp only [span_eq, p13_5, play_gen, same_gen, water_gen, pTup, spanT, Try.f36, Try.f13, go_sem, ↓reduceIte, Nat.reduceAdd, Nat.reduceSub, Nat.reduceMul, Nat.reduceEqDiff, Nat.reduceLT, Nat.reduceLeDiff, Int.reduceToNat, Int.reduceLE, Int.reduceLT, Int.reduceEq, Int.reduceNeg, reduceCtorEq]
  exact ⟨⟨intR_of (by kernel_rfl), intR_of (by kernel_rfl)⟩, intR_of (by kernel_rfl), ⟨intR_of (by kernel_rfl), of_decide_eq_true (by kernel_rfl)⟩, ⟨by kernel_rfl, by kernel_rfl⟩, spl_t (by kernel_rfl) (spl_t (by kernel_rfl) (spl_t (by kernel_rfl) (spl_t (by kernel_rfl) (spl_t (by kernel_rfl) (congrArg SV.bool (by kernel_rfl))))))⟩
end Go.Eng
end

/- IceWaters: its call returns true. -/
section
namespace Go.Eng
open Go Go.RowKit Go.Proofs
set_option maxRecDepth 100000
set_option maxHeartbeats 4000000
attribute [local irreducible] OwnT DefS
def iceWatersBase : BaseF := fun args => match args with
  | [.row n sz_z f_z, .agg [.int .i64 wl, .int .i64 wh], .agg [.int .i64 pl, .int .i64 ph], .int .i64 passes, .int .i64 least, .int .i64 most] => some ((sz_z = 4 ∧ IntR n 4 f_z), .bool true)
  | _ => none
theorem iceWaters_eq (n : Nat) (z : Nat → Nat → Int) (wl : Int) (wh : Int) (pl : Int) (ph : Int) (passes : Int) (least : Int) (most : Int) : iceWatersBase [.row n 4 (fun i j => .int .i64 (z i j)), .agg [.int .i64 wl, .int .i64 wh], .agg [.int .i64 pl, .int .i64 ph], .int .i64 passes, .int .i64 least, .int .i64 most] = some ((4 = 4 ∧ IntR n 4 (fun i j => .int .i64 (z i j))), .bool true) := rfl
theorem iceWaters_base : Base Try.prog 3 iceWatersBase := by
  intro args p v hq hp
  unfold iceWatersBase at hq
  split at hq
  rotate_left
  · cases hq
  rename_i n sz_z f_z wl wh pl ph passes least most
  cases hq
  obtain ⟨rfl, i_z⟩ := hp
  refine base_of (C := cx [] [] [(14, waterBase), (15, rwaterBase), (13, aliveBase)] [] none) (cx_ok trivial ⟨water_base, rwater_base, alive_base, trivial⟩) rfl (g := 3) (fn := Try.f3)
    (args' := [.row n 4 (rowF .i64 (fun i j => iv (f_z i j))), .agg [.int .i64 wl, .int .i64 wh], .agg [.int .i64 pl, .int .i64 ph], .int .i64 passes, .int .i64 least, .int .i64 most]) (fn_3) rfl 1000 (by simp only [BdL, Bd, and_self, and_true, true_and]; exact fun i j hi hj => by rw [i_z i j hi hj]; trivial) ⟨SameD.int i_z, SameD.rfl' _, SameD.rfl' _, SameD.rfl' _, SameD.rfl' _, SameD.rfl' _, trivial⟩ ?_
  generalize (fun i j => iv (f_z i j)) = z
  simp only [rowF_eq]
  simp only [alive_eq, water_at, rwater_at, spanT, Try.f3, go_sem, ↓reduceIte, Nat.reduceAdd, Nat.reduceSub, Nat.reduceMul, Nat.reduceEqDiff, Nat.reduceLT, Nat.reduceLeDiff, Int.reduceToNat, Int.reduceLE, Int.reduceLT, Int.reduceEq, Int.reduceNeg, reduceCtorEq]
  simp [spl]
end Go.Eng
end

/- From what the statement says of its arguments to symbolic values. -/
section
namespace Go.Eng
open Go Go.RowKit Go.ChangeShapes Go.WideShapes

/-- What a cell is: a number, a bool, or a slice of such cells. -/
inductive Sh where
  | int (k : IntKind)
  | bool
  | sl (e : List Sh)
def shF (P : Program) (rec : Nat → Option (List Sh)) : List Field → Nat → Option (List Sh)
  | [], _ => some []
  | f :: fs, off => if f.offset = off then match rec f.type with
    | some a => if a.length = P.cellsOf f.type then match shF P rec fs (off + a.length) with
      | some b => some (a ++ b)
      | none => none
      else none
    | none => none
    else none
def repS (s : List Sh) : Nat → List Sh
  | 0 => []
  | n + 1 => s ++ repS s n
def shT (P : Program) : Nat → Nat → Option (List Sh)
  | 0, _ => none
  | d + 1, t => match P.underlying t with
    | some (.int k) => some [.int k]
    | some .bool => some [.bool]
    | some (.slice e) => match shT P d e with
      | some s => if s.length = P.cellsOf e ∧ 0 < s.length then some [.sl s] else none
      | none => none
    | some (.struct fs) => match shF P (shT P d) fs.toList 0 with
      | some s => if s.length = P.cellsOf t then some s else none
      | none => none
    | some (.array n e) => match shT P d e with
      | some s => if s.length = P.cellsOf e ∧ (repS s n).length = P.cellsOf t then some (repS s n) else none
      | none => none
    | _ => none
inductive Typ : Sh → SV → Prop
  | int {k : IntKind} {n : Int} (h : (Lit.int k n).wf = true) : Typ (.int k) (.int k n)
  | bool (b : Bool) : Typ .bool (.bool b)
  | sl {e : List Sh} {n : Nat} {f : Nat → Nat → SV} (hn : n ≤ maxLen) (h : ∀ i j sh, i < n → e[j]? = some sh → Typ sh (f i j)) : Typ (.sl e) (.row n e.length f)
def Env.emp : Env := { nb := 0, rho := id, nv := 0, val := fun _ _ => none, own := fun _ => none }
theorem emp_rel (w : World) : RelH Env.emp ⟨[], []⟩ w :=
  ⟨rfl, rfl, fun nm ty c h => by simp [getB] at h, fun id a b c d e h => by simp [getV] at h, fun b t hb => by simp [Env.emp] at hb, fun nm st pend fid t params assign body hb => by simp [getB] at hb⟩
/-- Cells that read as shapes are denoted. -/
def CellsD (w : World) (shs : List Sh) (cs : List Value) : Prop :=
  cs.length = shs.length ∧ ∃ xs : List SV, xs.length = shs.length ∧ ∀ (j : Nat) (a : SV) (v : Value) (sh : Sh), xs[j]? = some a → cs[j]? = some v → shs[j]? = some sh → Den Env.emp w a v ∧ Typ sh a ∧ v.oneCell' = true
theorem CellsD.app {w : World} {s1 s2 : List Sh} {c1 c2 : List Value} (h1 : CellsD w s1 c1) (h2 : CellsD w s2 c2) : CellsD w (s1 ++ s2) (c1 ++ c2) := by
  obtain ⟨a1, x1, b1, d1⟩ := h1
  obtain ⟨a2, x2, b2, d2⟩ := h2
  refine ⟨by simp [a1, a2], x1 ++ x2, by simp [b1, b2], fun j a v sh ha hv hs => ?_⟩
  by_cases hj : j < s1.length
  · rw [List.getElem?_append_left (by omega)] at ha hv hs
    exact d1 j a v sh ha hv hs
  · rw [List.getElem?_append_right (by omega)] at ha hv hs
    rw [b1] at ha; rw [a1] at hv
    exact d2 _ a v sh ha hv hs
section
variable {H : Type} {enc : TypeId × Value → H} {P : Program} {w : World} {held : Bool}
theorem fields_ok {rec : Nat → Option (List Sh)} {n : Nat} {cs : List Value} (hrec : ∀ t s c x, rec t = some s → DataW.trod enc P w 0 (fun _ => true) held n t c = some x → CellsD w s c) :
    ∀ (fs : List Field) (off : Nat) (s : List Sh), shF P rec fs off = some s → (∀ (i : Nat) (f : Field), fs[i]? = some f → ∃ x, DataW.trod enc P w 0 (fun _ => true) held n f.type ((cs.drop f.offset).take (P.cellsOf f.type)) = some x) → CellsD w s ((cs.drop off).take s.length)
  | [], off, s, h, _ => by simp only [shF, Option.some.injEq] at h; subst h; exact ⟨by simp, [], rfl, fun j a v sh ha => by simp at ha⟩
  | f :: fs, off, s, h, hx => by
    simp only [shF] at h
    split at h
    · rename_i ho
      split at h
      · rename_i a ha
        split at h
        · rename_i hl
          split at h
          · rename_i b hb
            cases h
            obtain ⟨x, hx0⟩ := hx 0 f rfl
            have h1 := hrec _ _ _ _ ha hx0
            have h2 := fields_ok hrec fs _ _ hb (fun i f hf => hx (i + 1) f (by simpa using hf))
            rw [ho, ← hl] at h1
            have e : (cs.drop off).take (a ++ b).length = (cs.drop off).take a.length ++ (cs.drop (off + a.length)).take b.length := by
              rw [List.length_append, List.take_add, List.drop_drop]
            rw [e]
            exact h1.app h2
          · cases h
        · cases h
      · cases h
    · cases h
theorem arr_ok {s : List Sh} {cs : List Value} : ∀ (n off : Nat), (∀ i, i < n → CellsD w s ((cs.drop (off + i * s.length)).take s.length)) → CellsD w (repS s n) ((cs.drop off).take (repS s n).length)
  | 0, off, _ => ⟨by simp [repS], [], rfl, fun j a v sh ha => by simp at ha⟩
  | n + 1, off, h => by
    have h1 := h 0 (by omega)
    have h2 := arr_ok n (off + s.length) (fun i hi => by have := h (i + 1) (by omega); rw [Nat.succ_mul] at this; rw [show off + s.length + i * s.length = off + (i * s.length + s.length) by omega]; exact this)
    have e : (cs.drop off).take (repS s (n + 1)).length = (cs.drop off).take s.length ++ (cs.drop (off + s.length)).take (repS s n).length := by
      simp only [repS]
      rw [List.length_append, List.take_add, List.drop_drop]
    rw [e]
    simp only [repS]
    exact CellsD.app (by simpa using h1) h2

theorem trod_den : ∀ (d : Nat) (t : Nat) (cs : List Value) (fuel : Nat) (x : DataW H × List MemPlace) (shs : List Sh), shT P d t = some shs → DataW.trod enc P w 0 (fun _ => true) held fuel t cs = some x → CellsD w shs cs := by
  intro d
  induction d with
  | zero => intro t cs fuel x shs h; simp [shT] at h
  | succ d ih =>
    intro t cs fuel x shs h hx
    simp only [shT] at h
    have one : ∀ (a : SV) (v : Value) (sh : Sh), Den Env.emp w a v → Typ sh a → v.oneCell' = true → CellsD w [sh] [v] := fun a v sh h1 h2 h3 => ⟨rfl, [a], rfl, fun j b u s hb hu hs => by
      cases j with
      | zero => simp at hb hu hs; subst hb hu hs; exact ⟨h1, h2, h3⟩
      | succ j => simp at hb⟩
    split at h
    · rename_i k hk
      cases h
      obtain ⟨n, rfl, _, hw⟩ := DataW.trod_int hk hx
      exact one _ _ _ (.int k n) (.int hw) rfl
    · rename_i hk
      cases h
      obtain ⟨b, rfl, _⟩ := DataW.trod_bool hk hx
      exact one _ _ _ (.bool b) (.bool b) rfl
    · rename_i e hk
      split at h
      · rename_i s hs
        split at h
        · rename_i hl
          cases h
          rcases DataW.trod_slice hk hx with ⟨rfl, _⟩ | ⟨a, len, cap, elems, rest, n, _, rfl, _, _, hlc, hcap, hlen, hel, _, _⟩
          · exact one (.row 0 s.length fun _ _ => .any) _ _ (.rowZ _ _) (.sl (Nat.zero_le _) (fun i j sh hi => by omega)) rfl
          · by_cases h0 : len = 0
            · subst h0
              exact one (.row 0 s.length fun _ _ => .any) _ _ (.rowZ _ _) (.sl (Nat.zero_le _) (fun i j sh hi => by omega)) rfl
            · have hi : ∀ i, ∃ xs : List SV, i < len → xs.length = s.length ∧ ∀ (j : Nat) (sh : Sh), s[j]? = some sh → ∃ a' v, xs[j]? = some a' ∧ w.cell? (a.add (i * s.length + j)) = some v ∧ Den Env.emp w a' v ∧ Typ sh a' ∧ v.oneCell' = true := by
                intro i
                by_cases hil : i < len
                · have h1 := hel i hil
                  have h2 : elems[i]? = some (elems[i]'(by omega)) := List.getElem?_eq_getElem (by omega)
                  rw [h2] at h1
                  cases hc : w.cells? 0 (a.add (i * P.cellsOf e)) (P.cellsOf e) with
                  | none => rw [hc] at h1; cases h1
                  | some cs' =>
                    rw [hc] at h1
                    obtain ⟨q1, xs, q2, q3⟩ := ih e cs' n _ s hs h1
                    refine ⟨xs, fun _ => ⟨q2, fun j sh hj => ?_⟩⟩
                    have hjl : j < s.length := (List.getElem?_eq_some_iff.1 hj).1
                    obtain ⟨_, hcl, hat⟩ := World.cells?_some hc
                    have hcj := hat j (by omega)
                    have e1 : cs'[j]? = some (cs'[j]'(by omega)) := List.getElem?_eq_getElem (by omega)
                    have e2 : xs[j]? = some (xs[j]'(by omega)) := List.getElem?_eq_getElem (by omega)
                    obtain ⟨r1, r2, r3⟩ := q3 j _ _ sh e2 e1 hj
                    rw [e1] at hcj
                    have hadd : (a.add (i * P.cellsOf e)).add j = a.add (i * s.length + j) := by
                      rw [hl.1, Addr.add_add]
                    rw [hadd] at hcj
                    exact ⟨_, _, e2, hcj, r1, r2, r3⟩
                · exact ⟨[], fun h => absurd h hil⟩
              obtain ⟨F, hF⟩ := Classical.skolem.1 hi
              have hcell : ∀ i j, i < len → j < s.length → ∃ a' v, (F i)[j]? = some a' ∧ w.cell? (a.add (i * s.length + j)) = some v ∧ Den Env.emp w a' v ∧ v.oneCell' = true := fun i j hil hj => by
                obtain ⟨_, h2⟩ := hF i hil
                obtain ⟨a', v, k1, k2, k3, _, k5⟩ := h2 j _ (List.getElem?_eq_getElem hj)
                exact ⟨a', v, k1, k2, k3, k5⟩
              have hb : a.block < w.heap.size := by
                obtain ⟨_, v, _, k2, _⟩ := hcell 0 0 (by omega) hl.2
                have := block_of_cell k2
                rwa [add_block] at this
              refine one (.row len s.length fun i j => nth (F i) j) _ _ (.row a cap (fun i j => (w.cell? (a.add (i * s.length + j))).getD undef) hb rfl hlc (fun i j hi hj => ?_) (fun i j hi hj => ?_) (fun i j hi hj => ?_)) (.sl (by omega) (fun i j sh hil hj => ?_)) rfl
              · obtain ⟨_, v, _, k2, _⟩ := hcell i j hi hj
                rw [k2]; rfl
              · obtain ⟨_, v, _, k2, _, k5⟩ := hcell i j hi hj
                rw [k2]; exact k5
              · obtain ⟨a', v, k1, k2, k3, _⟩ := hcell i j hi hj
                rw [k2, nth_eq, List.getD, k1]; exact k3
              · obtain ⟨_, h2⟩ := hF i hil
                obtain ⟨a', v, k1, _, _, k4, _⟩ := h2 j sh hj
                rw [nth_eq, List.getD, k1]; exact k4
        · cases h
      · cases h
    · rename_i fs hk
      split at h
      · rename_i s hs
        split at h
        · rename_i hl
          cases h
          obtain ⟨xs, n, _, _, hlen, hxl, hg⟩ := DataW.trod_struct hk hx
          have := fields_ok (cs := cs) (n := n) (fun t s c x h1 h2 => ih t c n x s h1 h2) fs.toList 0 shs hs (fun i f hf => by
            have hf' : fs[i]? = some f := by simpa using hf
            have hil : i < xs.length := by rw [hxl]; exact (Array.getElem?_eq_some_iff.1 hf').1
            exact ⟨xs[i], by rw [hg i f hf']; exact List.getElem?_eq_getElem hil⟩)
          rw [List.drop_zero, hl, ← hlen, List.take_length] at this
          exact this
        · cases h
      · cases h
    · rename_i n e hk
      split at h
      · rename_i s hs
        split at h
        · rename_i hl
          cases h
          obtain ⟨xs, m, _, _, hlen, hxl, hg⟩ := DataW.trod_array hk hx
          have := arr_ok (w := w) (s := s) (cs := cs) n 0 (fun i hi => by
            have h1 := hg i hi
            have hil : i < xs.length := by omega
            rw [List.getElem?_eq_getElem hil] at h1
            rw [Nat.zero_add, hl.1]
            exact ih e _ m _ s hs h1)
          rw [List.drop_zero, hl.2, ← hlen, List.take_length] at this
          exact this
        · cases h
      · cases h
    · cases h

/-- A struct, an array. -/
theorem arg_agg {r : Reach} {b : Nat} {t : TypeId} {fs : Array Field} {v : Value} {d : DataW H} {ps : List MemPlace} {shs : List Sh} (ht : P.underlying t = some (.struct fs)) (hs : shT P 12 t = some shs) (hval : Value.okWide P w r b t v) (h : DataW.Trod enc P w 0 (fun _ => true) held t v d ps) :
    ∃ xs : List SV, Den Env.emp w (.agg xs) v ∧ xs.length = shs.length ∧ ∀ (j : Nat) (a : SV) (sh : Sh), xs[j]? = some a → shs[j]? = some sh → Typ sh a := by
  obtain ⟨cs, rfl, hsz⟩ := okWide_struct ht hval
  obtain ⟨fuel, hf⟩ := h
  obtain ⟨q1, xs, q2, q3⟩ := trod_den 12 t _ fuel _ shs hs hf
  have hcl : (Value.agg cs).cells.toList = cs.toList := rfl
  rw [hcl] at q1 q3
  refine ⟨xs, .agg cs (by simpa [q2] using q1) (fun i u hu => ?_) (fun i x u hx hu => ?_), q2, fun j a sh ha hsh => ?_⟩
  · have hil : i < cs.size := (Array.getElem?_eq_some_iff.1 hu).1
    have h1 : i < shs.length := by rw [← q1]; simpa using hil
    exact (q3 i _ u _ (List.getElem?_eq_getElem (by omega)) (by simpa using hu) (List.getElem?_eq_getElem h1)).2.2
  · have hil : i < xs.length := (List.getElem?_eq_some_iff.1 hx).1
    exact (q3 i x u _ hx (by simpa using hu) (List.getElem?_eq_getElem (by omega))).1
  · have hil : j < cs.toList.length := by have := (List.getElem?_eq_some_iff.1 hsh).1; omega
    exact (q3 j a _ sh ha (List.getElem?_eq_getElem hil) hsh).2.1
theorem arg_row {r : Reach} {b : Nat} {t e : TypeId} {v : Value} {d : DataW H} {ps : List MemPlace} {s : List Sh} (ht : P.underlying t = some (.slice e)) (hs : shT P 12 t = some [.sl s]) (hval : Value.okWide P w r b t v) (h : DataW.Trod enc P w 0 (fun _ => true) held t v d ps) :
    ∃ (n : Nat) (f : Nat → Nat → SV), Den Env.emp w (.row n s.length f) v ∧ n ≤ maxLen ∧ ∀ i j sh, i < n → s[j]? = some sh → Typ sh (f i j) := by
  obtain ⟨a, len, cap, rfl⟩ := okWide_slice ht hval
  obtain ⟨fuel, hf⟩ := h
  obtain ⟨q1, xs, q2, q3⟩ := trod_den 12 t _ fuel _ _ hs hf
  match xs, q2 with
  | [x], _ =>
    obtain ⟨k1, k2, _⟩ := q3 0 x (.slice a len cap) (.sl s) rfl rfl rfl
    cases k2 with
    | @sl e n f hn hh => exact ⟨n, f, k1, hn, hh⟩

theorem trodAll_below {W W' : World} (hl : laidOutB P = true) (hb : Below W.heap.size W W') : ∀ {ts : List TypeId} {vs : List Value} {ds : List (DataW H)} {ps : List MemPlace}, (∀ t ∈ ts, P.readableRec t = true ∧ t < P.types.size) →
    DataW.TrodAll enc P W 0 (fun _ => true) true ts vs ds ps → (∀ x ∈ ps, x.block < W.heap.size) → DataW.TrodAll enc P W' 0 (fun b => decide (b < W.heap.size)) true ts vs ds ps
  | [], [], [], _, _, h, _ => h
  | t :: ts, v :: vs, d :: ds, ps, hr, ⟨p, q, h1, h2, e⟩, hlt => by
    subst e
    have := hr t (by simp)
    exact ⟨p, q, Below.trod hl this.1 this.2 h1 hb (fun x hx => hlt x (List.mem_append_left _ hx)), trodAll_below hl hb (fun t ht => hr t (List.mem_cons_of_mem _ ht)) h2 (fun x hx => hlt x (List.mem_append_right _ hx)), rfl⟩
end
/-- A law's end: it returned true, and of what was there nothing turned. -/
theorem law_end {H : Type} {enc : TypeId × Value → H} {P : Program} {f : Func} {s : ChangeSpec} {W W' : World} {args : Array Value} {ds gs : List (DataW H)} {before : List MemPlace} {tb : TypeId}
    (hl : laidOutB P = true) (hres : f.resultTypes = #[tb]) (htb : P.underlying tb = some .bool) (hpar : (f.params.toList.all fun t => P.readableRec t && decide (t < P.types.size)) = true) (hvars : s.vars = [])
    (hW : DataW.Whole enc P f.params.toList s.vars false W args.toList ds gs before) (hfn : s.fn H (ds ++ gs) = { results := [.lit (.bool true)], args := ds, vars := [] }) (hb : Below W.heap.size W W') :
    s.post enc P f false true false false W args (.bool true) W' := by
  have hW0 := hW
  obtain ⟨p, q, hA, hV, rfl, hfz, hnd⟩ := hW
  rw [hvars] at hV
  have hq : gs = [] ∧ q = [] := by
    cases gs with
    | nil => exact ⟨rfl, by simpa [DataW.TrodVars] using hV⟩
    | cons _ _ => simp [DataW.TrodVars] at hV
  obtain ⟨rfl, rfl⟩ := hq
  refine ⟨ds, [], p ++ [], [], p, [], hW0, ?_, ?_, ?_, hb.frame _, fun h => by cases h⟩
  · rw [hfn, hres]
    exact ⟨[], [], shut_bool htb true, rfl, rfl⟩
  · rw [hfn]
    exact trodAll_below hl hb (fun t ht => by have := List.all_eq_true.1 hpar t ht; simpa using this) hA (fun x hx => hW0.lt x (by simpa using hx))
  · rw [hfn, hvars]; rfl
theorem below_of {w w' : World} {E' : Env} (hx : Ext Env.emp w E' w') : Below w.heap.size w w' := ⟨hx.os, hx.tape, hx.output, hx.size, fun k hk => (hx.keep k hk rfl).2⟩
/-- The law's call, by its contract. -/
theorem law_calls {P : Program} {g : Nat} {base : List SV → Option (Prop × SV)} (hb : Base P g base) {args : List SV} {p : Prop} (hq : base args = some (p, .bool true)) (hp : p) {W : World} {vals : Array Value} (hd : DenA Env.emp W args vals) :
    Calls P g vals W fun e W' => e = .returned (.bool true) ∧ Below W.heap.size W W' := by
  obtain ⟨_, h2⟩ := hb _ _ _ hq hp
  refine (h2 Env.emp W vals (emp_rel W) hd).mono ?_
  rintro e w' ⟨o, h', E', ⟨u, rfl, hfl, hsd⟩, hr', hx, hout⟩
  cases e with
  | panicked _ => exact hout.elim
  | outgrown => exact hout.elim
  | returned val =>
    have := hsd.out _ _ _ hout
    cases this
    exact ⟨rfl, below_of hx⟩
def DenL (E : Env) (w : World) : List SV → List Value → Prop
  | [], [] => True
  | x :: l, v :: vs => Den E w x v ∧ DenL E w l vs
  | _, _ => False
theorem DenL.get {E : Env} {w : World} : ∀ {l : List SV} {vs : List Value}, DenL E w l vs → vs.length = l.length ∧ ∀ (i : Nat) (x : SV) (u : Value), l[i]? = some x → vs[i]? = some u → Den E w x u
  | [], [], _ => ⟨rfl, fun i x u h => by simp at h⟩
  | x :: l, v :: vs, h => by
    obtain ⟨h1, h2⟩ := DenL.get h.2
    refine ⟨by simp [h1], fun i y u hy hu => ?_⟩
    cases i with
    | zero => simp at hy hu; subst hy hu; exact h.1
    | succ i => exact h2 i y u (by simpa using hy) (by simpa using hu)
  | [], _ :: _, h => h.elim
  | _ :: _, [], h => h.elim
theorem denA_of {E : Env} {w : World} {l : List SV} {vs : List Value} (h : DenL E w l vs) : DenA E w l vs.toArray :=
  ⟨by simpa using h.get.1, fun i x u hx hu => h.get.2 i x u hx (by simpa using hu)⟩
theorem agg_2 {xs : List SV} {k1 k2 : IntKind} (hl : xs.length = 2) (h : ∀ (j : Nat) (a : SV) (sh : Sh), xs[j]? = some a → [Sh.int k1, Sh.int k2][j]? = some sh → Typ sh a) :
    ∃ x y, xs = [.int k1 x, .int k2 y] ∧ (Lit.int k1 x).wf = true ∧ (Lit.int k2 y).wf = true := by
  match xs, hl with
  | [a, b], _ =>
    have h0 := h 0 a _ rfl rfl
    have h1 := h 1 b _ rfl rfl
    cases h0 with
    | int w0 => cases h1 with
      | int w1 => exact ⟨_, _, rfl, w0, w1⟩
theorem intK_of_typ {k : IntKind} {n c : Nat} {f : Nat → Nat → SV} {e : List Sh} (he : e = List.replicate c (Sh.int k)) (h : ∀ i j sh, i < n → e[j]? = some sh → Typ sh (f i j)) : IntK k n c f ∧ ∀ i j, i < n → j < c → (Lit.int k (iv (f i j))).wf = true := by
  have : ∀ i j, i < n → j < c → ∃ x, f i j = .int k x ∧ (Lit.int k x).wf = true := fun i j hi hj => by
    have := h i j (.int k) hi (by rw [he]; simp [List.getElem?_replicate, hj])
    generalize f i j = x at this
    cases this with
    | int hw => exact ⟨_, rfl, hw⟩
  exact ⟨fun i j hi hj => by obtain ⟨x, hx, _⟩ := this i j hi hj; rw [hx]; rfl, fun i j hi hj => by obtain ⟨x, hx, hw⟩ := this i j hi hj; rw [hx]; exact hw⟩
end Go.Eng
end
