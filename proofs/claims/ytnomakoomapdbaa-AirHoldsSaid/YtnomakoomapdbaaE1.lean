/-
  A part of the symbolic machine, of its soundness, and of what functions compute. No condition.
-/
import Derived.AtR
import Derived.Below
import Derived.DataElems
import Derived.Laws.Cells
import Derived.Laws.CopyRow
import Derived.Laws.Entries
import Derived.Laws.Rows
import Derived.OrdersIn
import Derived.Laws.AppendOwn
import Derived.Laws.Append
import Derived.Laws.Tables
import Derived.Laws.StructEq
import Derived.Shelf.Abstract
import Derived.Orders
import Derived.RangeFuncLeaves
import Derived.RangeFuncRecord
set_option linter.unusedSimpArgs false
set_option linter.unusedVariables false
/- Symbolic values, a symbolic heap, and what they say of the machine's values and memory. No program in sight. -/
section
namespace Go.Eng
open Go.RowKit

/-- A symbolic value: its leaves (numbers, bools, functions of an index) are any terms. -/
inductive SV where
  | any
  | int (k : IntKind) (n : Int)
  | bool (b : Bool)
  | str (s : ByteArray)
  | ptr (nm off : Nat)
  | nilp
  | rptr (sz : Nat) (f : Nat → SV)
  | row (n sz : Nat) (f : Nat → Nat → SV)
  | vec (id ver : Nat)
  | vptr (id ver sz i off : Nat)
  | func (g : Nat) (caps : List SV)
  | nilf
  | iface (t : TypeId) (v : SV)
  | nili
  | agg (l : List SV)
  | tup (l : List SV)
  | yield (nm : Nat)
  | meth (g : Nat) (first : List SV)

instance : Inhabited SV := ⟨.any⟩

def nth : List SV → Nat → SV
  | [], _ => .any
  | x :: _, 0 => x
  | _ :: l, n + 1 => nth l n
def upd : List SV → Nat → SV → List SV
  | [], _, _ => []
  | _ :: l, 0, v => v :: l
  | x :: l, n + 1, v => x :: upd l n v
def takeN : Nat → List SV → List SV
  | 0, _ => []
  | _ + 1, [] => []
  | n + 1, x :: l => x :: takeN n l
def dropN : Nat → List SV → List SV
  | 0, l => l
  | _ + 1, [] => []
  | n + 1, _ :: l => dropN n l
/-- Writing ys over l from place n on. -/
def over : List SV → Nat → List SV → List SV
  | l, _, [] => l
  | l, n, y :: ys => over (upd l n y) (n + 1) ys

theorem nth_eq (l : List SV) (i : Nat) : nth l i = l.getD i .any := by
  induction l generalizing i with
  | nil => simp [nth]
  | cons x l ih => cases i <;> simp [nth, ih]
theorem upd_eq (l : List SV) (i : Nat) (v : SV) : upd l i v = l.set i v := by
  induction l generalizing i with
  | nil => simp [upd]
  | cons x l ih => cases i <;> simp [upd, ih]
theorem takeN_eq (n : Nat) (l : List SV) : takeN n l = l.take n := by
  induction l generalizing n with
  | nil => cases n <;> simp [takeN]
  | cons x l ih => cases n <;> simp [takeN, ih]
theorem dropN_eq (n : Nat) (l : List SV) : dropN n l = l.drop n := by
  induction l generalizing n with
  | nil => cases n <;> simp [dropN]
  | cons x l ih => cases n <;> simp [dropN, ih]

inductive Tag where
  | blk (nm : Nat)
  | vec (id : Nat)
  | other

/-- The ghost: which block bears which name; what each version of an own slice is; which blocks are owned. -/
structure Env where
  nb : Nat
  rho : Nat → Nat
  nv : Nat
  val : Nat → Nat → Option (Option Addr × Nat × Nat)
  own : Nat → Option Tag

inductive Den (E : Env) (w : World) : SV → Value → Prop
  | any (v : Value) : Den E w .any v
  | int (k : IntKind) (n : Int) : Den E w (.int k n) (.int k n)
  | bool (b : Bool) : Den E w (.bool b) (.bool b)
  | str (s : ByteArray) : Den E w (.str s) (.string s)
  | ptr {nm off : Nat} (h : nm < E.nb) : Den E w (.ptr nm off) (.pointer (some ⟨E.rho nm, off, none⟩))
  | nilp : Den E w .nilp (.pointer none)
  | rptr {sz : Nat} {f : Nat → SV} (A : Addr) (g : Nat → Value) (hA : A.block < w.heap.size) (ho : E.own A.block = none)
      (hc : ∀ j, j < sz → w.cell? (A.add j) = some (g j)) (h1 : ∀ j, j < sz → (g j).oneCell' = true) (hd : ∀ j, j < sz → Den E w (f j) (g j)) : Den E w (.rptr sz f) (.pointer (some A))
  | row {n sz : Nat} {f : Nat → Nat → SV} (A : Addr) (cap : Nat) (g : Nat → Nat → Value) (hA : A.block < w.heap.size) (ho : E.own A.block = none) (hn : n ≤ cap)
      (hc : ∀ i j, i < n → j < sz → w.cell? (A.add (i * sz + j)) = some (g i j)) (h1 : ∀ i j, i < n → j < sz → (g i j).oneCell' = true) (hd : ∀ i j, i < n → j < sz → Den E w (f i j) (g i j)) : Den E w (.row n sz f) (.slice (some A) n cap)
  | rowZ {sz : Nat} {f : Nat → Nat → SV} (a : Option Addr) (cap : Nat) : Den E w (.row 0 sz f) (.slice a 0 cap)
  | vec {id ver : Nat} {a : Option Addr} {n cap : Nat} (hi : id < E.nv) (h : E.val id ver = some (a, n, cap)) : Den E w (.vec id ver) (.slice a n cap)
  | vptr {id ver sz i off b n cap : Nat} (hi : id < E.nv) (h : E.val id ver = some (some ⟨b, 0, none⟩, n, cap)) : Den E w (.vptr id ver sz i off) (.pointer (some ⟨b, i * sz + off, none⟩))
  | func {g : Nat} {caps : List SV} (vs : Array Value) (hs : vs.size = caps.length) (hd : ∀ (i : Nat) (x : SV) (u : Value), caps[i]? = some x → vs[i]? = some u → Den E w x u) : Den E w (.func g caps) (.func (.func g) #[] vs)
  | meth {g : Nat} {first : List SV} (vs : Array Value) (hs : vs.size = first.length) (hd : ∀ (i : Nat) (x : SV) (u : Value), first[i]? = some x → vs[i]? = some u → Den E w x u) : Den E w (.meth g first) (.func (.func g) vs #[])
  | nilf : Den E w .nilf .nilFunc
  | iface {t : TypeId} {x : SV} {v : Value} (h : Den E w x v) : Den E w (.iface t x) (.iface t v)
  | nili : Den E w .nili .nilIface
  | agg {l : List SV} (vs : Array Value) (hs : vs.size = l.length) (h1 : ∀ (i : Nat) (u : Value), vs[i]? = some u → u.oneCell' = true) (hd : ∀ (i : Nat) (x : SV) (u : Value), l[i]? = some x → vs[i]? = some u → Den E w x u) : Den E w (.agg l) (.agg vs)
  | tup {l : List SV} (vs : Array Value) (hs : vs.size = l.length) (hd : ∀ (i : Nat) (x : SV) (u : Value), l[i]? = some x → vs[i]? = some u → Den E w x u) : Den E w (.tup l) (.tuple vs)
  | yield {nm : Nat} (h : nm < E.nb) : Den E w (.yield nm) (.func (.yield (E.rho nm)) #[] #[])

/-- A list of symbolic values and an array of values. -/
def DenA (E : Env) (w : World) (l : List SV) (vs : Array Value) : Prop :=
  vs.size = l.length ∧ ∀ (i : Nat) (x : SV) (u : Value), l[i]? = some x → vs[i]? = some u → Den E w x u

/-- From one world to a later one: the streams stay; names and versions keep what they bear; what is not owned is not touched. -/
structure Ext (E : Env) (w : World) (E' : Env) (w' : World) : Prop where
  os : w'.os = w.os
  tape : w'.tape = w.tape
  output : w'.output = w.output
  size : w.heap.size ≤ w'.heap.size
  nb : E.nb ≤ E'.nb
  nv : E.nv ≤ E'.nv
  rho : ∀ nm, nm < E.nb → E'.rho nm = E.rho nm
  val : ∀ id ver x, id < E.nv → E.val id ver = some x → E'.val id ver = some x
  keep : ∀ b, b < w.heap.size → E.own b = none → E'.own b = none ∧ w'.heap[b]? = w.heap[b]?
  oth : ∀ b, E.own b = some .other → E'.own b = some .other ∧ w'.heap[b]? = w.heap[b]?

theorem Ext.refl (E : Env) (w : World) : Ext E w E w :=
  ⟨rfl, rfl, rfl, Nat.le_refl _, Nat.le_refl _, Nat.le_refl _, fun _ _ => rfl, fun _ _ _ _ h => h, fun _ _ h => ⟨h, rfl⟩, fun _ h => ⟨h, rfl⟩⟩
theorem Ext.trans {E E' E'' : Env} {w w' w'' : World} (h : Ext E w E' w') (k : Ext E' w' E'' w'') : Ext E w E'' w'' :=
  ⟨k.os.trans h.os, k.tape.trans h.tape, k.output.trans h.output, Nat.le_trans h.size k.size, Nat.le_trans h.nb k.nb, Nat.le_trans h.nv k.nv,
   fun nm hn => (k.rho nm (Nat.lt_of_lt_of_le hn h.nb)).trans (h.rho nm hn),
   fun id ver x hi hv => k.val id ver x (Nat.lt_of_lt_of_le hi h.nv) (h.val id ver x hi hv),
   fun b hb ho => let ⟨h1, h2⟩ := h.keep b hb ho; let ⟨k1, k2⟩ := k.keep b (Nat.lt_of_lt_of_le hb h.size) h1; ⟨k1, k2.trans h2⟩,
   fun b ho => let ⟨h1, h2⟩ := h.oth b ho; let ⟨k1, k2⟩ := k.oth b h1; ⟨k1, k2.trans h2⟩⟩

theorem block_of_cell {w : World} {a : Addr} {v : Value} (h : w.cell? a = some v) : a.block < w.heap.size := by
  unfold World.cell? at h
  cases ho : w.heap[a.block]? with
  | none => simp [ho] at h
  | some o => exact (Array.getElem?_eq_some_iff.1 ho).1
theorem add_block (A : Addr) (k : Nat) : (A.add k).block = A.block := by unfold Addr.add; split <;> rfl
theorem Ext.cell {E E' : Env} {w w' : World} (h : Ext E w E' w') {a : Addr} {v : Value} (ho : E.own a.block = none) (hc : w.cell? a = some v) : w'.cell? a = some v :=
  (World.cell?_of_block (h.keep _ (block_of_cell hc) ho).2).trans hc

theorem Den.ext {E E' : Env} {w w' : World} (h : Ext E w E' w') {x : SV} {v : Value} (hd : Den E w x v) : Den E' w' x v := by
  induction hd with
  | any v => exact .any v
  | int k n => exact .int k n
  | bool b => exact .bool b
  | str s => exact .str s
  | @ptr nm off hn => rw [← h.rho nm hn]; exact .ptr (Nat.lt_of_lt_of_le hn h.nb)
  | nilp => exact .nilp
  | @rptr sz f A g hA ho hc h1 hd ih => exact .rptr A g (Nat.lt_of_lt_of_le hA h.size) (h.keep _ hA ho).1 (fun j hj => h.cell (by rw [add_block]; exact ho) (hc j hj)) h1 ih
  | @row n sz f A cap g hA ho hn hc h1 hd ih => exact .row A cap g (Nat.lt_of_lt_of_le hA h.size) (h.keep _ hA ho).1 hn (fun i j hi hj => h.cell (by rw [add_block]; exact ho) (hc i j hi hj)) h1 ih
  | rowZ a cap => exact .rowZ a cap
  | vec hi hv => exact .vec (Nat.lt_of_lt_of_le hi h.nv) (h.val _ _ _ hi hv)
  | vptr hi hv => exact .vptr (Nat.lt_of_lt_of_le hi h.nv) (h.val _ _ _ hi hv)
  | func vs hs hd ih => exact .func vs hs ih
  | meth vs hs hd ih => exact .meth vs hs ih
  | nilf => exact .nilf
  | iface _ ih => exact .iface ih
  | nili => exact .nili
  | agg vs hs h1 hd ih => exact .agg vs hs h1 ih
  | tup vs hs hd ih => exact .tup vs hs ih
  | @yield nm hn => rw [← h.rho nm hn]; exact .yield (Nat.lt_of_lt_of_le hn h.nb)
end Go.Eng
end

/- The symbolic heap: own blocks by name, own slices by number and version. -/
section
namespace Go.Eng
open Go.RowKit

inductive Blk where
  | live (ty : TypeId) (cells : List SV)
  | dead
  | loop (st : LoopState) (pend : Option Code) (fid : Nat) (t : List SV) (params : Array Nat) (assign body : Code)
inductive Vc where
  | live (ver : Nat) (ty : TypeId) (sz n : Nat) (f : Nat → Nat → SV)
  | dead
structure HS where
  blks : List Blk
  vecs : List Vc

def getB : List Blk → Nat → Blk
  | [], _ => .dead
  | x :: _, 0 => x
  | _ :: l, n + 1 => getB l n
def setB : List Blk → Nat → Blk → List Blk
  | [], _, _ => []
  | _ :: l, 0, v => v :: l
  | x :: l, n + 1, v => x :: setB l n v
def snocB : List Blk → Blk → List Blk
  | [], v => [v]
  | x :: l, v => x :: snocB l v
def lenB : List Blk → Nat
  | [] => 0
  | _ :: l => lenB l + 1
def getV : List Vc → Nat → Vc
  | [], _ => .dead
  | x :: _, 0 => x
  | _ :: l, n + 1 => getV l n
def setV : List Vc → Nat → Vc → List Vc
  | [], _, _ => []
  | _ :: l, 0, v => v :: l
  | x :: l, n + 1, v => x :: setV l n v
def snocV : List Vc → Vc → List Vc
  | [], v => [v]
  | x :: l, v => x :: snocV l v
def lenV : List Vc → Nat
  | [] => 0
  | _ :: l => lenV l + 1

theorem getB_lt : ∀ {l : List Blk} {n : Nat} {ty cells}, getB l n = .live ty cells → n < lenB l
  | [], _, _, _, h => by simp [getB] at h
  | _ :: _, 0, _, _, _ => by simp [lenB]
  | _ :: l, n + 1, _, _, h => by have := getB_lt (l := l) (n := n) h; simp [lenB]; omega
theorem getB_ltL : ∀ {l : List Blk} {n : Nat} {a b c d e f g}, getB l n = .loop a b c d e f g → n < lenB l
  | [], _, _, _, _, _, _, _, _, h => by simp [getB] at h
  | _ :: _, 0, _, _, _, _, _, _, _, _ => by simp [lenB]
  | _ :: l, n + 1, _, _, _, _, _, _, _, h => by have := getB_ltL (l := l) (n := n) h; simp [lenB]; omega
theorem getV_lt : ∀ {l : List Vc} {n : Nat} {a b c d e}, getV l n = .live a b c d e → n < lenV l
  | [], _, _, _, _, _, _, h => by simp [getV] at h
  | _ :: _, 0, _, _, _, _, _, _ => by simp [lenV]
  | _ :: l, n + 1, _, _, _, _, _, h => by have := getV_lt (l := l) (n := n) h; simp [lenV]; omega
theorem getB_snoc : ∀ (l : List Blk) (v : Blk) (n : Nat), getB (snocB l v) n = if n = lenB l then v else getB l n
  | [], v, 0 => by simp [snocB, getB, lenB]
  | [], v, n + 1 => by simp [snocB, getB, lenB]
  | x :: l, v, 0 => by simp [snocB, getB, lenB]
  | x :: l, v, n + 1 => by simp [snocB, getB, lenB, getB_snoc l v n]
theorem lenB_snoc : ∀ (l : List Blk) (v : Blk), lenB (snocB l v) = lenB l + 1
  | [], _ => rfl
  | _ :: l, v => by simp [snocB, lenB, lenB_snoc l v]
theorem getB_set : ∀ (l : List Blk) (m : Nat) (v : Blk) (n : Nat), getB (setB l m v) n = if n = m ∧ m < lenB l then v else getB l n
  | [], m, v, n => by simp [setB, getB, lenB]
  | x :: l, 0, v, 0 => by simp [setB, getB, lenB]
  | x :: l, 0, v, n + 1 => by simp [setB, getB]
  | x :: l, m + 1, v, 0 => by simp [setB, getB]
  | x :: l, m + 1, v, n + 1 => by simp [setB, getB, lenB, getB_set l m v n]
theorem lenB_set : ∀ (l : List Blk) (m : Nat) (v : Blk), lenB (setB l m v) = lenB l
  | [], _, _ => rfl
  | _ :: _, 0, _ => rfl
  | _ :: l, m + 1, v => by simp [setB, lenB, lenB_set l m v]
theorem getV_snoc : ∀ (l : List Vc) (v : Vc) (n : Nat), getV (snocV l v) n = if n = lenV l then v else getV l n
  | [], v, 0 => by simp [snocV, getV, lenV]
  | [], v, n + 1 => by simp [snocV, getV, lenV]
  | x :: l, v, 0 => by simp [snocV, getV, lenV]
  | x :: l, v, n + 1 => by simp [snocV, getV, lenV, getV_snoc l v n]
theorem lenV_snoc : ∀ (l : List Vc) (v : Vc), lenV (snocV l v) = lenV l + 1
  | [], _ => rfl
  | _ :: l, v => by simp [snocV, lenV, lenV_snoc l v]
theorem getV_set : ∀ (l : List Vc) (m : Nat) (v : Vc) (n : Nat), getV (setV l m v) n = if n = m ∧ m < lenV l then v else getV l n
  | [], m, v, n => by simp [setV, getV, lenV]
  | x :: l, 0, v, 0 => by simp [setV, getV, lenV]
  | x :: l, 0, v, n + 1 => by simp [setV, getV]
  | x :: l, m + 1, v, 0 => by simp [setV, getV]
  | x :: l, m + 1, v, n + 1 => by simp [setV, getV, lenV, getV_set l m v n]
theorem lenV_set : ∀ (l : List Vc) (m : Nat) (v : Vc), lenV (setV l m v) = lenV l
  | [], _, _ => rfl
  | _ :: _, 0, _ => rfl
  | _ :: l, m + 1, v => by simp [setV, lenV, lenV_set l m v]

theorem DenA.ext {E E' : Env} {w w' : World} (h : Ext E w E' w') {l : List SV} {vs : Array Value} (hd : DenA E w l vs) : DenA E' w' l vs :=
  ⟨hd.1, fun i x u hx hu => (hd.2 i x u hx hu).ext h⟩
theorem DenA.nth {E : Env} {w : World} {l : List SV} {vs : Array Value} (hd : DenA E w l vs) (i : Nat) : Den E w (nth l i) (vs.getD i undef) := by
  rw [nth_eq]
  by_cases h : i < l.length
  · have hv : i < vs.size := by rw [hd.1]; exact h
    have := hd.2 i l[i] vs[i] (List.getElem?_eq_getElem h) (Array.getElem?_eq_getElem hv)
    simpa [List.getD, List.getElem?_eq_getElem h, Array.getD, hv] using this
  · have : l[i]? = none := List.getElem?_eq_none (by omega)
    simp only [List.getD, this, Option.getD_none]
    exact .any _
theorem DenA.set {E : Env} {w : World} {l : List SV} {vs : Array Value} (hd : DenA E w l vs) (i : Nat) {x : SV} {v : Value} (hx : Den E w x v) : DenA E w (upd l i x) (vs.setIfInBounds i v) := by
  refine ⟨by simp [upd_eq, hd.1], fun j y u hy hu => ?_⟩
  rw [upd_eq, List.getElem?_set] at hy
  rw [Array.getElem?_setIfInBounds] at hu
  by_cases e : i = j
  · subst e
    simp only [if_true] at hy hu
    split at hy
    · simp only [Option.some.injEq] at hy
      subst hy
      split at hu
      · simp only [Option.some.injEq] at hu; subst hu; exact hx
      · cases hu
    · cases hy
  · simp only [e, if_false] at hy hu
    exact hd.2 j y u hy hu

/-- What an own slice is in memory. -/
def VecAt (E : Env) (w : World) (id : Nat) (ty : TypeId) (sz n : Nat) (f : Nat → Nat → SV) (a : Option Addr) (cap : Nat) : Prop :=
  (a = none ∧ n = 0 ∧ cap = 0) ∨
  ∃ g cur, a = some ⟨g, 0, none⟩ ∧ n ≤ cap ∧ cap ≤ maxLen ∧ w.heap[g]? = some (.cells cur ty (0, 0)) ∧ cur.size = cap * sz ∧ E.own g = some (.vec id) ∧
    (∀ (k : Nat) (u : Value), k < n * sz → cur[k]? = some u → u.oneCell' = true) ∧ ∀ i j u, i < n → j < sz → cur[i * sz + j]? = some u → Den E w (f i j) u

/-- What the record of a range over a function is in memory. -/
def LpAt (E : Env) (w : World) (nm : Nat) (st : LoopState) (pend : Option Code) (fid : Nat) (t : List SV) (params : Array Nat) (assign body : Code) : Prop :=
  ∃ tmps db, w.heap[E.rho nm]? = some (.loop { state := st, pending := pend, fn := fid, tmps, params, assign, body, defers := db }) ∧ DenA E w t tmps ∧ E.own (E.rho nm) = some (.blk nm)
theorem LpAt.ext {E E' : Env} {w w' : World} (h : Ext E w E' w') {nm : Nat} {st pend fid t params assign body} (hl : LpAt E w nm st pend fid t params assign body)
    (hk : E.own (E.rho nm) = some (.blk nm) → E'.rho nm = E.rho nm ∧ w'.heap[E.rho nm]? = w.heap[E.rho nm]? ∧ E'.own (E.rho nm) = E.own (E.rho nm)) : LpAt E' w' nm st pend fid t params assign body := by
  obtain ⟨tmps, db, h1, h2, h3⟩ := hl
  obtain ⟨k1, k2, k3⟩ := hk h3
  exact ⟨tmps, db, by rw [k1, k2]; exact h1, h2.ext h, by rw [k1, k3]; exact h3⟩

structure RelH (E : Env) (h : HS) (w : World) : Prop where
  nb : E.nb = lenB h.blks
  nv : E.nv = lenV h.vecs
  blk : ∀ nm ty cells, getB h.blks nm = .live ty cells → ∃ cs, w.heap[E.rho nm]? = some (.cells cs ty (0, 0)) ∧ DenA E w cells cs ∧
    (∀ (k : Nat) (u : Value), cs[k]? = some u → u.oneCell' = true) ∧ E.own (E.rho nm) = some (.blk nm)
  vec : ∀ id ver ty sz n f, getV h.vecs id = .live ver ty sz n f → 0 < sz ∧ (∃ a cap, E.val id ver = some (a, n, cap) ∧ VecAt E w id ty sz n f a cap) ∧ ∀ v', ver < v' → E.val id v' = none
  own : ∀ b t, E.own b = some t → b < w.heap.size
  lp : ∀ nm st pend fid t params assign body, getB h.blks nm = .loop st pend fid t params assign body → LpAt E w nm st pend fid t params assign body

theorem VecAt.ext {E E' : Env} {w w' : World} (h : Ext E w E' w') {id : Nat} {ty : TypeId} {sz n : Nat} {f : Nat → Nat → SV} {a : Option Addr} {cap : Nat} (hv : VecAt E w id ty sz n f a cap)
    (hk : ∀ g, E.own g = some (.vec id) → w'.heap[g]? = w.heap[g]? ∧ E'.own g = E.own g) : VecAt E' w' id ty sz n f a cap := by
  rcases hv with hv | ⟨g, cur, h1, h2, h3, h4, h5, h6, h7, h8⟩
  · exact .inl hv
  · obtain ⟨k1, k2⟩ := hk g h6
    exact .inr ⟨g, cur, h1, h2, h3, k1.trans h4, h5, k2.trans h6, h7, fun i j u hi hj hu => (h8 i j u hi hj hu).ext h⟩

/-- A step that changes nothing that is owned, and no names. -/
theorem RelH.quiet {E : Env} {h : HS} {w w' : World} (hr : RelH E h w) (hx : Ext E w E w') (hk : ∀ b, b < w.heap.size → w'.heap[b]? = w.heap[b]?) : RelH E h w' where
  nb := hr.nb
  nv := hr.nv
  blk := fun nm ty cells hb => by
    obtain ⟨cs, h1, h2, h3, h4⟩ := hr.blk nm ty cells hb
    exact ⟨cs, (hk _ (hr.own _ _ h4)).trans h1, h2.ext hx, h3, h4⟩
  vec := fun id ver ty sz n f hv => by
    obtain ⟨h0, ⟨a, cap, h1, h2⟩, h3⟩ := hr.vec id ver ty sz n f hv
    exact ⟨h0, ⟨a, cap, h1, h2.ext hx (fun g hg => ⟨hk g (hr.own _ _ hg), rfl⟩)⟩, h3⟩
  own := fun b t hb => Nat.lt_of_lt_of_le (hr.own b t hb) hx.size
  lp := fun nm st pend fid t params assign body hb => (hr.lp _ _ _ _ _ _ _ _ hb).ext hx (fun ho => ⟨rfl, hk _ (hr.own _ _ ho), rfl⟩)

theorem ext_of_grow {E : Env} {w w' : World} (hb : ∀ b t, E.own b = some t → b < w.heap.size) (ho : w'.os = w.os) (ht : w'.tape = w.tape) (hu : w'.output = w.output) (hs : w.heap.size ≤ w'.heap.size) (hk : ∀ b, b < w.heap.size → w'.heap[b]? = w.heap[b]?) : Ext E w E w' :=
  ⟨ho, ht, hu, hs, Nat.le_refl _, Nat.le_refl _, fun _ _ => rfl, fun _ _ _ _ h => h, fun b hb h => ⟨h, hk b hb⟩, fun b h => ⟨h, hk b (hb b _ h)⟩⟩

/-- A new own block. -/
def Env.newB (E : Env) (b : Nat) : Env :=
  { E with nb := E.nb + 1, rho := fun nm => if nm = E.nb then b else E.rho nm, own := fun k => if k = b then some (.blk E.nb) else E.own k }

theorem ext_alloc {E : Env} {w : World} (hb : ∀ b t, E.own b = some t → b < w.heap.size) (o : Obj) (x : World) (hx : x = w.alloc o) : Ext E w (E.newB w.heap.size) x := by
  subst hx
  refine ⟨rfl, rfl, rfl, by simp, by simp [Env.newB], Nat.le_refl _, fun nm hn => ?_, fun _ _ _ _ h => h, fun b hb h => ⟨?_, Below.heap_alloc w o b hb⟩, fun b h => ⟨?_, Below.heap_alloc w o b (hb b _ h)⟩⟩
  · simp only [Env.newB]; rw [if_neg (by omega)]
  · simp only [Env.newB]; rw [if_neg (by omega)]; exact h
  · have := hb b _ h; simp only [Env.newB]; rw [if_neg (by omega)]; exact h

theorem RelH.alloc {E : Env} {h : HS} {w : World} (hr : RelH E h w) (ty : TypeId) (cells : List SV) (cs : Array Value) (hd : DenA E w cells cs)
    (h1 : ∀ (k : Nat) (u : Value), cs[k]? = some u → u.oneCell' = true) :
    RelH (E.newB w.heap.size) { h with blks := snocB h.blks (.live ty cells) } (w.alloc (.cells cs ty)) := by
  have hx : Ext E w (E.newB w.heap.size) (w.alloc (.cells cs ty)) := ext_alloc hr.own _ _ rfl
  have hold : ∀ b, b < w.heap.size → (w.alloc (.cells cs ty)).heap[b]? = w.heap[b]? := fun b hb => Below.heap_alloc w _ b hb
  refine ⟨by simp [Env.newB, lenB_snoc, hr.nb], hr.nv, ?_, ?_, ?_, ?_⟩
  · intro nm ty' cells' hb
    simp only [getB_snoc] at hb
    split at hb
    · rename_i e
      have e' : nm = E.nb := e.trans hr.nb.symm
      cases hb
      refine ⟨cs, ?_, hd.ext hx, h1, ?_⟩
      · simp only [Env.newB, e', if_true]; exact heap_alloc_new w _
      · simp only [Env.newB, e', if_true]
    · rename_i e
      have e' : nm ≠ E.nb := fun e' => e (e'.trans hr.nb)
      obtain ⟨cs', k1, k2, k3, k4⟩ := hr.blk nm ty' cells' hb
      have hlt := hr.own _ _ k4
      refine ⟨cs', ?_, k2.ext hx, k3, ?_⟩
      · simp only [Env.newB, e', if_false]; exact (hold _ hlt).trans k1
      · simp only [Env.newB, e', if_false]; rw [if_neg (by omega)]; exact k4
  · intro id ver ty' sz n f hv
    obtain ⟨h0, ⟨a, cap, k1, k2⟩, k3⟩ := hr.vec id ver ty' sz n f hv
    refine ⟨h0, ⟨a, cap, k1, k2.ext hx (fun g hg => ?_)⟩, k3⟩
    have hlt := hr.own _ _ hg
    exact ⟨hold g hlt, by simp only [Env.newB]; rw [if_neg (by omega)]⟩
  · intro b t hb
    simp only [Env.newB] at hb
    split at hb
    · rename_i e; subst e; simp
    · have := hr.own b t hb; simp; omega
  · intro nm st pend fid t params assign body hb
    simp only [getB_snoc] at hb
    split at hb
    · cases hb
    · rename_i e
      have e' : nm ≠ E.nb := fun e' => e (e'.trans hr.nb)
      refine (hr.lp _ _ _ _ _ _ _ _ hb).ext hx (fun ho => ?_)
      have hlt := hr.own _ _ ho
      exact ⟨by simp only [Env.newB, e', if_false], hold _ hlt, by simp only [Env.newB]; rw [if_neg (by omega)]⟩

/-- A write into an own block. -/
theorem ext_setRow {E : Env} {w : World} {g : Nat} {t : Tag} (hg : E.own g = some t) (hto : t ≠ .other) (cs : Array Value) : Ext E w E (w.setRow g cs) :=
  ⟨rfl, rfl, rfl, by simp, Nat.le_refl _, Nat.le_refl _, fun _ _ => rfl, fun _ _ _ _ h => h, fun b _ h => ⟨h, setRow_other w g b cs (fun e => by subst e; rw [hg] at h; cases h)⟩, fun b h => ⟨h, setRow_other w g b cs (fun e => by subst e; rw [hg] at h; cases h; exact hto rfl)⟩⟩

theorem RelH.write {E : Env} {h : HS} {w : World} (hr : RelH E h w) {nm : Nat} {ty : TypeId} {cells : List SV} (hb : getB h.blks nm = .live ty cells) (cells' : List SV) (cs' : Array Value)
    (hd : DenA E w cells' cs') (h1 : ∀ (k : Nat) (u : Value), cs'[k]? = some u → u.oneCell' = true) :
    RelH E { h with blks := setB h.blks nm (.live ty cells') } (w.setRow (E.rho nm) cs') := by
  obtain ⟨cs, a1, a2, a3, a4⟩ := hr.blk nm ty cells hb
  have hx : Ext E w E (w.setRow (E.rho nm) cs') := ext_setRow a4 (by intro e; cases e) cs'
  refine ⟨by simp [lenB_set, hr.nb], hr.nv, ?_, ?_, fun b t hb => by simpa using hr.own b t hb, ?_⟩
  · intro nm' ty' c' hb'
    simp only [getB_set] at hb'
    split at hb'
    · rename_i e
      obtain ⟨rfl, _⟩ := e
      cases hb'
      exact ⟨cs', setRow_heap w _ cs cs' ty (0, 0) a1, hd.ext hx, h1, a4⟩
    · rename_i e
      have hne : nm' ≠ nm := fun e' => e ⟨e', getB_lt hb⟩
      obtain ⟨c, b1, b2, b3, b4⟩ := hr.blk nm' ty' c' hb'
      refine ⟨c, ?_, b2.ext hx, b3, b4⟩
      rw [setRow_other]
      · exact b1
      · intro e'; rw [e', a4] at b4; injection b4 with b4; injection b4 with b4; exact hne b4.symm
  · intro id ver ty' sz n f hv
    obtain ⟨h0, ⟨a, cap, k1, k2⟩, k3⟩ := hr.vec id ver ty' sz n f hv
    refine ⟨h0, ⟨a, cap, k1, k2.ext hx (fun g hg => ⟨setRow_other w _ g cs' (fun e => ?_), rfl⟩)⟩, k3⟩
    rw [e, a4] at hg; injection hg with hg; cases hg
  · intro nm' st pend fid t params assign body hb'
    simp only [getB_set] at hb'
    split at hb'
    · cases hb'
    · rename_i e
      have hne : nm' ≠ nm := fun e' => e ⟨e', getB_lt hb⟩
      refine (hr.lp _ _ _ _ _ _ _ _ hb').ext hx (fun ho => ⟨rfl, setRow_other w _ _ cs' (fun e' => ?_), rfl⟩)
      rw [e', a4] at ho; injection ho with ho; injection ho with ho; exact hne ho.symm

/- ### records of ranges over functions -/
theorem RelH.newLoop {E : Env} {h : HS} {w : World} (hr : RelH E h w) (fid : Nat) (t : List SV) (tmps : Array Value) (hd : DenA E w t tmps) (params : Array Nat) (assign body : Code) (db : Nat) (st : LoopState) (pend : Option Code) :
    RelH (E.newB w.heap.size) { h with blks := snocB h.blks (.loop st pend fid t params assign body) } (w.alloc (.loop { state := st, pending := pend, fn := fid, tmps, params, assign, body, defers := db })) := by
  have hx : Ext E w (E.newB w.heap.size) (w.alloc (.loop { state := st, pending := pend, fn := fid, tmps, params, assign, body, defers := db })) := ext_alloc hr.own _ _ rfl
  have hold : ∀ b, b < w.heap.size → (w.alloc (.loop { state := st, pending := pend, fn := fid, tmps, params, assign, body, defers := db })).heap[b]? = w.heap[b]? := fun b hb => Below.heap_alloc w _ b hb
  refine ⟨by simp [Env.newB, lenB_snoc, hr.nb], hr.nv, ?_, ?_, ?_, ?_⟩
  · intro nm ty' cells' hb
    simp only [getB_snoc] at hb
    split at hb
    · cases hb
    · rename_i e
      have e' : nm ≠ E.nb := fun e' => e (e'.trans hr.nb)
      obtain ⟨cs', k1, k2, k3, k4⟩ := hr.blk nm ty' cells' hb
      have hlt := hr.own _ _ k4
      refine ⟨cs', ?_, k2.ext hx, k3, ?_⟩
      · simp only [Env.newB, e', if_false]; exact (hold _ hlt).trans k1
      · simp only [Env.newB, e', if_false]; rw [if_neg (by omega)]; exact k4
  · intro id ver ty' sz n f hv
    obtain ⟨h0, ⟨a, cap, k1, k2⟩, k3⟩ := hr.vec id ver ty' sz n f hv
    refine ⟨h0, ⟨a, cap, k1, k2.ext hx (fun g hg => ?_)⟩, k3⟩
    have hlt := hr.own _ _ hg
    exact ⟨hold g hlt, by simp only [Env.newB]; rw [if_neg (by omega)]⟩
  · intro b t hb
    simp only [Env.newB] at hb
    split at hb
    · rename_i e; subst e; simp
    · have := hr.own b t hb; simp; omega
  · intro nm st' pend' fid' t' params' assign' body' hb
    simp only [getB_snoc] at hb
    split at hb
    · rename_i e
      have e' : nm = E.nb := e.trans hr.nb.symm
      cases hb
      refine ⟨tmps, db, ?_, hd.ext hx, ?_⟩
      · simp only [Env.newB, e', if_true]; exact heap_alloc_new w _
      · simp only [Env.newB, e', if_true]
    · rename_i e
      have e' : nm ≠ E.nb := fun e' => e (e'.trans hr.nb)
      refine (hr.lp _ _ _ _ _ _ _ _ hb).ext hx (fun ho => ?_)
      have hlt := hr.own _ _ ho
      exact ⟨by simp only [Env.newB, e', if_false], hold _ hlt, by simp only [Env.newB]; rw [if_neg (by omega)]⟩

/-- A record moves on. -/
theorem RelH.setLoop {E : Env} {h : HS} {w w' : World} (hr : RelH E h w) {nm : Nat} {st pend fid t params assign body} (hb : getB h.blks nm = .loop st pend fid t params assign body) (st' : LoopState) (pend' : Option Code)
    {tmps : Array Value} {db : Nat} (h0 : w.heap[E.rho nm]? = some (.loop { state := st, pending := pend, fn := fid, tmps, params, assign, body, defers := db }))
    (hx : Ext E w E w') (hsz : w'.heap.size = w.heap.size) (hoth : ∀ b, b ≠ E.rho nm → w'.heap[b]? = w.heap[b]?) (hnew : w'.heap[E.rho nm]? = some (.loop { state := st', pending := pend', fn := fid, tmps, params, assign, body, defers := db })) :
    RelH E { h with blks := setB h.blks nm (.loop st' pend' fid t params assign body) } w' := by
  obtain ⟨tmps', db', b1, b2, b3⟩ := hr.lp _ _ _ _ _ _ _ _ hb
  rw [h0] at b1
  cases b1
  have hne : ∀ b tg, E.own b = some tg → tg ≠ .blk nm → b ≠ E.rho nm := fun b tg ho ht e => by rw [e, b3] at ho; cases ho; exact ht rfl
  refine ⟨by simp [lenB_set, hr.nb], hr.nv, ?_, ?_, fun b t hb => by rw [hsz]; exact hr.own b t hb, ?_⟩
  · intro nm' ty' c' hb'
    simp only [getB_set] at hb'
    split at hb'
    · cases hb'
    · rename_i e
      have hn : nm' ≠ nm := fun e' => e ⟨e', getB_ltL hb⟩
      obtain ⟨c, k1, k2, k3, k4⟩ := hr.blk nm' ty' c' hb'
      exact ⟨c, (hoth _ (hne _ _ k4 (fun e => hn (by injection e)))).trans k1, k2.ext hx, k3, k4⟩
  · intro id ver ty' sz n f hv
    obtain ⟨h0, ⟨a, cap, k1, k2⟩, k3⟩ := hr.vec id ver ty' sz n f hv
    exact ⟨h0, ⟨a, cap, k1, k2.ext hx (fun g hg => ⟨hoth g (hne _ _ hg (by intro e; cases e)), rfl⟩)⟩, k3⟩
  · intro nm' st2 pend2 fid2 t2 params2 assign2 body2 hb'
    simp only [getB_set] at hb'
    split at hb'
    · rename_i e
      obtain ⟨rfl, _⟩ := e
      cases hb'
      exact ⟨tmps, db, hnew, b2.ext hx, b3⟩
    · rename_i e
      have hn : nm' ≠ nm := fun e' => e ⟨e', getB_ltL hb⟩
      exact (hr.lp _ _ _ _ _ _ _ _ hb').ext hx (fun ho => ⟨rfl, hoth _ (hne _ _ ho (fun e => hn (by injection e))), rfl⟩)
end Go.Eng
end

/- Own slices: made, appended to, read and written. -/
section
namespace Go.Eng
open Go.RowKit

def Env.newV (E : Env) : Env :=
  { E with nv := E.nv + 1, val := fun id ver => if id = E.nv then (if ver = 0 then some (none, 0, 0) else none) else E.val id ver }

theorem ext_newV (E : Env) (w : World) : Ext E w E.newV w :=
  ⟨rfl, rfl, rfl, Nat.le_refl _, Nat.le_refl _, by simp [Env.newV], fun _ _ => rfl, fun id ver x hi hv => by simp only [Env.newV]; rw [if_neg (by omega)]; exact hv, fun _ _ h => ⟨h, rfl⟩, fun _ h => ⟨h, rfl⟩⟩

theorem RelH.newVec {E : Env} {h : HS} {w : World} (hr : RelH E h w) (ty : TypeId) (sz : Nat) (hsz : 0 < sz) (f : Nat → Nat → SV) :
    RelH E.newV { h with vecs := snocV h.vecs (.live 0 ty sz 0 f) } w := by
  have hx := ext_newV E w
  refine ⟨hr.nb, by simp [Env.newV, lenV_snoc, hr.nv], ?_, ?_, hr.own, fun nm st pend fid t params assign body hb => (hr.lp _ _ _ _ _ _ _ _ hb).ext hx (fun _ => ⟨rfl, rfl, rfl⟩)⟩
  · intro nm ty' cells hb
    obtain ⟨cs, a1, a2, a3, a4⟩ := hr.blk nm ty' cells hb
    exact ⟨cs, a1, a2.ext hx, a3, a4⟩
  · intro id ver ty' sz' n f' hv
    simp only [getV_snoc] at hv
    split at hv
    · rename_i e
      cases hv
      have e' : id = E.nv := e.trans hr.nv.symm
      refine ⟨hsz, ⟨none, 0, by simp [Env.newV, e'], .inl ⟨rfl, rfl, rfl⟩⟩, fun v' hv' => ?_⟩
      simp only [Env.newV, e', if_true]
      rw [if_neg (by omega)]
    · rename_i e
      have e' : id ≠ E.nv := fun e' => e (e'.trans hr.nv)
      obtain ⟨h0, ⟨a, cap, k1, k2⟩, k3⟩ := hr.vec id ver ty' sz' n f' hv
      refine ⟨h0, ⟨a, cap, by simp only [Env.newV, e', if_false]; exact k1, k2.ext hx (fun g hg => ⟨rfl, rfl⟩)⟩, fun v' hv' => by simp only [Env.newV, e', if_false]; exact k3 v' hv'⟩

/-- m elements of sz cells lie at A, and are g. -/
def SrcAt (E : Env) (w : World) (A : Addr) (m sz : Nat) (g : Nat → Nat → SV) : Prop :=
  ∃ news : List Value, news.length = m * sz ∧ (∀ k u, news[k]? = some u → w.cell? (A.add k) = some u) ∧ (∀ u ∈ news, u.oneCell' = true) ∧
    ∀ i j u, i < m → j < sz → news[i * sz + j]? = some u → Den E w (g i j) u

theorem idx_lt {i j n sz : Nat} (hi : i < n) (hj : j < sz) : i * sz + j < n * sz := by
  have : (i + 1) * sz ≤ n * sz := Nat.mul_le_mul_right _ hi
  rw [Nat.add_mul] at this
  omega

theorem srcAt_row {E : Env} {w : World} {n sz : Nat} {f : Nat → Nat → SV} {A : Addr} (hsz : 0 < sz) (g : Nat → Nat → Value)
    (hc : ∀ i j, i < n → j < sz → w.cell? (A.add (i * sz + j)) = some (g i j)) (h1 : ∀ i j, i < n → j < sz → (g i j).oneCell' = true) (hd : ∀ i j, i < n → j < sz → Den E w (f i j) (g i j)) :
    SrcAt E w A n sz f := by
  have key : ∀ k, k < n * sz → k / sz < n ∧ k % sz < sz ∧ k / sz * sz + k % sz = k := fun k hk =>
    ⟨(Nat.div_lt_iff_lt_mul hsz).2 hk, Nat.mod_lt _ hsz, Nat.div_add_mod' k sz⟩
  refine ⟨(List.range (n * sz)).map fun k => g (k / sz) (k % sz), by simp, ?_, ?_, ?_⟩
  · intro k u hu
    rw [List.getElem?_map] at hu
    by_cases hk : k < n * sz
    · rw [List.getElem?_range hk] at hu
      simp only [Option.map_some, Option.some.injEq] at hu
      obtain ⟨a, b, c⟩ := key k hk
      have := hc _ _ a b
      rw [c] at this
      rw [this, hu]
    · rw [List.getElem?_eq_none (by simp; omega)] at hu
      simp at hu
  · intro u hu
    simp only [List.mem_map, List.mem_range] at hu
    obtain ⟨k, hk, rfl⟩ := hu
    obtain ⟨a, b, c⟩ := key k hk
    exact h1 _ _ a b
  · intro i j u hi hj hu
    have hk := idx_lt hi hj
    rw [List.getElem?_map, List.getElem?_range hk] at hu
    simp only [Option.map_some, Option.some.injEq] at hu
    have e1 : (i * sz + j) / sz = i := by rw [Nat.add_comm, Nat.add_mul_div_right _ _ hsz, Nat.div_eq_of_lt hj]; omega
    have e2 : (i * sz + j) % sz = j := by rw [Nat.add_comm, Nat.add_mul_mod_self_right, Nat.mod_eq_of_lt hj]
    rw [e1, e2] at hu
    rw [← hu]
    exact hd i j hi hj

theorem VecAt.src {E : Env} {w : World} {id : Nat} {ty : TypeId} {sz n : Nat} {f : Nat → Nat → SV} {A : Addr} {cap : Nat} (h : VecAt E w id ty sz n f (some A) cap) : SrcAt E w A n sz f := by
  rcases h with ⟨h, _⟩ | ⟨g, cur, h1, h2, h3, h4, h5, h6, h7, h8⟩
  · cases h
  · cases h1
    have hle : n * sz ≤ cur.size := by rw [h5]; exact Nat.mul_le_mul_right _ h2
    refine ⟨cur.toList.take (n * sz), by simp; omega, ?_, ?_, ?_⟩
    · intro k u hu
      rw [List.getElem?_take] at hu
      split at hu
      · rw [Addr.add_lit]
        simp only [World.cell?, h4]
        simpa using hu
      · cases hu
    · intro u hu
      obtain ⟨k, hk⟩ := List.getElem?_of_mem hu
      rw [List.getElem?_take] at hk
      split at hk
      · rename_i hlt; exact h7 k u hlt (by simpa using hk)
      · cases hk
    · intro i j u hi hj hu
      rw [List.getElem?_take, if_pos (idx_lt hi hj)] at hu
      exact h8 i j u hi hj (by simpa using hu)

def Env.bump (E : Env) (id ver : Nat) (x : Option Addr × Nat × Nat) : Env :=
  { E with val := fun i v => if i = id ∧ v = ver then some x else E.val i v }
def Env.bumpO (E : Env) (id ver : Nat) (x : Option Addr × Nat × Nat) (g : Nat) : Env :=
  { E with val := fun i v => if i = id ∧ v = ver then some x else E.val i v, own := fun k => if k = g then some (.vec id) else E.own k }

def catF (n : Nat) (f g : Nat → Nat → SV) : Nat → Nat → SV := fun i j => if i < n then f i j else g (i - n) j

/-- The heap when one vec has moved on to a new version, whatever the new world. -/
theorem RelH.moved {E E' : Env} {h : HS} {w w' : World} (hr : RelH E h w) {id ver : Nat} {ty : TypeId} {sz n : Nat} {f : Nat → Nat → SV} (hv : getV h.vecs id = .live ver ty sz n f)
    (hx : Ext E w E' w') (hnb : E'.nb = E.nb) (hnv : E'.nv = E.nv) (hrho : E'.rho = E.rho) (hval : ∀ i v, i ≠ id → E'.val i v = E.val i v)
    (hkeep : ∀ b t, E.own b = some t → t ≠ .vec id → w'.heap[b]? = w.heap[b]? ∧ E'.own b = E.own b)
    (hown : ∀ b t, E'.own b = some t → b < w'.heap.size)
    {ver' n' : Nat} {f' : Nat → Nat → SV} {a : Option Addr} {cap : Nat} (h1 : E'.val id ver' = some (a, n', cap)) (h2 : VecAt E' w' id ty sz n' f' a cap) (h3 : ∀ v', ver' < v' → E'.val id v' = none) :
    RelH E' { h with vecs := setV h.vecs id (.live ver' ty sz n' f') } w' := by
  refine ⟨hnb.trans hr.nb, by rw [hnv, hr.nv]; simp [lenV_set], ?_, ?_, hown, fun nm st pend fid t params assign body hb => (hr.lp _ _ _ _ _ _ _ _ hb).ext hx (fun ho => ⟨by rw [hrho], hkeep _ _ ho (by intro e; cases e)⟩)⟩
  · intro nm ty' cells hb
    obtain ⟨cs, a1, a2, a3, a4⟩ := hr.blk nm ty' cells hb
    obtain ⟨k1, k2⟩ := hkeep _ _ a4 (by intro e; cases e)
    exact ⟨cs, by rw [hrho]; exact k1.trans a1, a2.ext hx, a3, by rw [hrho]; exact k2.trans a4⟩
  · intro id' v' ty' sz' m g hg
    simp only [getV_set] at hg
    split at hg
    · rename_i e
      obtain ⟨rfl, _⟩ := e
      cases hg
      exact ⟨(hr.vec _ _ _ _ _ _ hv).1, ⟨a, cap, h1, h2⟩, h3⟩
    · rename_i e
      have hne : id' ≠ id := fun e' => e ⟨e', getV_lt hv⟩
      obtain ⟨h0, ⟨b, c, k1, k2⟩, k3⟩ := hr.vec _ _ _ _ _ _ hg
      exact ⟨h0, ⟨b, c, (hval _ _ hne).trans k1, k2.ext hx (fun q hq => hkeep q _ hq (by intro e; injection e with e; exact hne e))⟩, fun v hv => (hval _ _ hne).trans (k3 v hv)⟩
end Go.Eng
end

/- append onto an own slice. -/
section
namespace Go.Eng
open Go.RowKit

theorem bump_ext {E : Env} {h : HS} {w w' : World} (hr : RelH E h w) {id ver : Nat} {ty : TypeId} {sz n : Nat} {f : Nat → Nat → SV} (hv : getV h.vecs id = .live ver ty sz n f)
    (hx : Ext E w E w') (x : Option Addr × Nat × Nat) : Ext E w (E.bump id (ver + 1) x) w' := by
  have hn := (hr.vec _ _ _ _ _ _ hv).2.2
  refine ⟨hx.os, hx.tape, hx.output, hx.size, Nat.le_refl _, Nat.le_refl _, fun _ _ => rfl, fun i v y hi hy => ?_, hx.keep, hx.oth⟩
  simp only [Env.bump]
  split
  · rename_i e
    obtain ⟨rfl, rfl⟩ := e
    rw [hn _ (by omega)] at hy
    cases hy
  · exact hy

theorem bumpO_ext {E : Env} {h : HS} {w : World} (hr : RelH E h w) {id ver : Nat} {ty : TypeId} {sz n : Nat} {f : Nat → Nat → SV} (hv : getV h.vecs id = .live ver ty sz n f)
    (x : Option Addr × Nat × Nat) (o : Obj) : Ext E w (E.bumpO id (ver + 1) x w.heap.size) (w.drew.alloc o) := by
  have hn := (hr.vec _ _ _ _ _ _ hv).2.2
  refine ⟨rfl, rfl, rfl, by simp, Nat.le_refl _, Nat.le_refl _, fun _ _ => rfl, fun i v y hi hy => ?_, fun b hb h => ⟨?_, Below.heap_alloc w.drew o b hb⟩, fun b h => ⟨?_, Below.heap_alloc w.drew o b (hr.own b _ h)⟩⟩
  · simp only [Env.bumpO]
    split
    · rename_i e
      obtain ⟨rfl, rfl⟩ := e
      rw [hn _ (by omega)] at hy
      cases hy
    · exact hy
  · simp only [Env.bumpO]; rw [if_neg (by omega)]; exact h
  · have := hr.own b _ h; simp only [Env.bumpO]; rw [if_neg (by omega)]; exact h

theorem bump_none {E : Env} {id ver : Nat} {x : Option Addr × Nat × Nat} (h : ∀ v', ver < v' → E.val id v' = none) : ∀ v', ver + 1 < v' → (E.bump id (ver + 1) x).val id v' = none := fun v' hv => by
  simp only [Env.bump]; rw [if_neg (by omega)]; exact h v' (by omega)

theorem size_zeroCells' (z : Array Value) (n : Nat) : (Builtin.zeroCells z n).size = n * z.size := by simp [Builtin.zeroCells]

theorem append_ok {P : Program} {E : Env} {h : HS} {w : World} (hr : RelH E h w) {id ver : Nat} {e : TypeId} {sz n : Nat} {f : Nat → Nat → SV} (hv : getV h.vecs id = .live ver e sz n f)
    (t tr : TypeId) (i : TypeInfo) (z : Value) (ht : P.underlying t = some (.slice e)) (hi : P.info? e = some i) (hz : i.zero = some z) (hs : i.size = sz) (hzs : z.cells.size = sz)
    {a : Option Addr} {cap : Nat} (hval : E.val id ver = some (a, n, cap)) (x : Value) (m : Nat) (g : Nat → Nat → SV)
    (hx : (∃ A c, x = .slice (some A) m c ∧ SrcAt E w A m sz g) ∨ (m = 0 ∧ ∃ a' c, x = .slice a' 0 c))
    (h63 : n + m ≤ maxLen) (hby : (n + m) * i.bytes ≤ 140737488355328) :
    ∃ a' cap' w' E', (Builtin.append_ #[t, t] tr #[.slice a n cap, x]).run P w = .ok (.slice a' (n + m) cap') w' ∧ Ext E w E' w' ∧
      RelH E' { h with vecs := setV h.vecs id (.live (ver + 1) e sz (n + m) (catF n f g)) } w' ∧ E'.val id (ver + 1) = some (a', n + m, cap') ∧ id < E'.nv := by
  obtain ⟨hsz, ⟨a2, cap2, k1, k2⟩, k3⟩ := hr.vec _ _ _ _ _ _ hv
  rw [hval] at k1
  simp only [Option.some.injEq, Prod.mk.injEq, true_and] at k1
  obtain ⟨rfl, rfl⟩ := k1
  have hid : id < E.nv := by rw [hr.nv]; exact getV_lt hv
  have hfeq : ∀ (g : Nat → Nat → SV) (i j : Nat), i < n → catF n f g i j = f i j := fun g i j hi => by simp [catF, hi]
  by_cases hm : m = 0
  · -- nothing is appended
    subst hm
    obtain ⟨a', c, rfl⟩ : ∃ a' c, x = .slice a' 0 c := by
      rcases hx with ⟨A, c, rfl, _⟩ | ⟨_, a', c, rfl⟩
      · exact ⟨_, _, rfl⟩
      · exact ⟨_, _, rfl⟩
    have hnc : n ≤ cap := by rcases k2 with ⟨_, h1, h2⟩ | ⟨_, _, _, h2, _⟩ <;> omega
    have hrun : (Builtin.append_ #[t, t] tr #[.slice a n cap, .slice a' 0 c]).run P w = .ok (.slice a (n + 0) cap) w := by
      cases a <;> cases a' <;> simp [Builtin.append_, run_underlying ht, sizeOf, typeInfo, hi, Builtin.lenOf, Builtin.firstCells, hnc, loadCells, loadCellsFrom, storeCells]
    have hxx := bump_ext hr hv (Ext.refl E w) (a, n + 0, cap)
    refine ⟨a, cap, w, E.bump id (ver + 1) (a, n + 0, cap), hrun, hxx, ?_, by simp [Env.bump], hid⟩
    refine hr.moved hv hxx rfl rfl rfl (fun i v hi => by simp [Env.bump, hi]) (fun b t hb _ => ⟨rfl, rfl⟩) hr.own (a := a) (cap := cap) (by simp [Env.bump]) ?_ (bump_none k3)
    rcases k2 with h1 | ⟨g1, cur, h1, h2, h3, h4, h5, h6, h7, h8⟩
    · exact .inl ⟨h1.1, by omega, h1.2.2⟩
    · exact .inr ⟨g1, cur, h1, h2, h3, h4, h5, h6, h7, fun i j u hi hj hu => by rw [hfeq g i j hi]; exact (h8 i j u hi hj hu).ext hxx⟩
  · obtain ⟨A, c, rfl, news, hl, hnews, hone, hden⟩ : ∃ A c, x = .slice (some A) m c ∧ SrcAt E w A m sz g := by
      rcases hx with hx | ⟨h0, _⟩
      · exact hx
      · exact absurd h0 hm
    subst hs
    have key : ∀ {w' : World} {E' : Env} (xs : List Value) (rest : List Value) (hxx : Ext E w E' w'), xs.length = n * i.size → (∀ (k : Nat) (u : Value), xs[k]? = some u → u.oneCell' = true) →
        (∀ i' j u, i' < n → j < i.size → xs[i' * i.size + j]? = some u → Den E w (f i' j) u) →
        (∀ (k : Nat) (u : Value), k < (n + m) * i.size → (xs ++ news ++ rest)[k]? = some u → u.oneCell' = true) ∧ ∀ i' j u, i' < n + m → j < i.size → (xs ++ news ++ rest)[i' * i.size + j]? = some u → Den E' w' (catF n f g i' j) u := by
      intro w' E' xs rest hxx hxl hx1 hxd
      refine ⟨fun k u hk hu => ?_, fun i' j u hi' hj hu => ?_⟩
      · have hk2 : k < (xs ++ news).length := by rw [List.length_append, hxl, hl, ← Nat.add_mul]; exact hk
        rw [List.getElem?_append_left hk2] at hu
        by_cases hk3 : k < xs.length
        · rw [List.getElem?_append_left hk3] at hu; exact hx1 k u hu
        · rw [List.getElem?_append_right (by omega)] at hu; exact hone u (List.mem_of_getElem? hu)
      · have hk2 : i' * i.size + j < (xs ++ news).length := by rw [List.length_append, hxl, hl, ← Nat.add_mul]; exact idx_lt hi' hj
        rw [List.getElem?_append_left hk2] at hu
        by_cases hin : i' < n
        · rw [List.getElem?_append_left (by rw [hxl]; exact idx_lt hin hj)] at hu
          rw [hfeq g i' j hin]
          exact (hxd i' j u hin hj hu).ext hxx
        · obtain ⟨q, rfl⟩ : ∃ q, i' = n + q := ⟨i' - n, by omega⟩
          have e1 : (n + q) * i.size + j = xs.length + (q * i.size + j) := by rw [hxl, Nat.add_mul]; omega
          rw [e1, List.getElem?_append_right (by omega), Nat.add_sub_cancel_left] at hu
          have e2 : catF n f g (n + q) j = g q j := by simp only [catF]; rw [if_neg hin, Nat.add_sub_cancel_left]
          rw [e2]
          exact (hden q j u (by omega) hj hu).ext hxx
    have fresh : ∀ (xs : List Value) (cap' : Nat) (zs : Array Value), xs.length = n * i.size → (∀ (k : Nat) (u : Value), xs[k]? = some u → u.oneCell' = true) → (∀ i' j u, i' < n → j < i.size → xs[i' * i.size + j]? = some u → Den E w (f i' j) u) →
        n + m ≤ cap' → cap' ≤ maxLen → zs.size = (cap' - (n + m)) * i.size →
        ∃ E', Ext E w E' (w.drew.alloc (.cells (xs.toArray ++ news.toArray ++ zs) e)) ∧
          RelH E' { h with vecs := setV h.vecs id (.live (ver + 1) e i.size (n + m) (catF n f g)) } (w.drew.alloc (.cells (xs.toArray ++ news.toArray ++ zs) e)) ∧ E'.val id (ver + 1) = some (some ⟨w.heap.size, 0, none⟩, n + m, cap') ∧ id < E'.nv := by
      intro xs cap' zs hxl hx1 hxd hc1 hc2 hzl
      have hxx := bumpO_ext hr hv (some ⟨w.heap.size, 0, none⟩, n + m, cap') (.cells (xs.toArray ++ news.toArray ++ zs) e)
      obtain ⟨q1, q2⟩ := key xs zs.toList hxx hxl hx1 hxd
      have hcat : ∀ k : Nat, (xs.toArray ++ news.toArray ++ zs)[k]? = (xs ++ news ++ zs.toList)[k]? := fun k => by
        rw [← Array.getElem?_toList]; congr 1; simp
      refine ⟨_, hxx, ?_, by simp [Env.bumpO], hid⟩
      refine hr.moved hv hxx rfl rfl rfl (fun i' v hi' => by simp [Env.bumpO, hi']) (fun b t hb _ => ?_) (fun b t hb => ?_) (a := some ⟨w.heap.size, 0, none⟩) (cap := cap') (by simp [Env.bumpO]) ?_ (fun v' hv' => ?_)
      · have hlt := hr.own b t hb
        exact ⟨Below.heap_alloc w.drew _ b hlt, by simp only [Env.bumpO]; rw [if_neg (by omega)]⟩
      · simp only [Env.bumpO] at hb
        split at hb
        · rename_i e'; subst e'; simp
        · have := hr.own b t hb; simp; omega
      · refine .inr ⟨w.heap.size, _, rfl, hc1, hc2, heap_alloc_new w.drew _, ?_, by simp [Env.bumpO], fun k u hk hu => q1 k u hk (by rw [← hcat]; exact hu), fun i' j u hi' hj hu => q2 i' j u hi' hj (by rw [← hcat]; exact hu)⟩
        simp only [Array.size_append, List.size_toArray, hxl, hl, hzl, ← Nat.add_mul]
        congr 1
        omega
      · simp only [Env.bumpO]; rw [if_neg (by omega)]; exact k3 v' (by omega)
    rcases k2 with ⟨rfl, rfl, rfl⟩ | ⟨g1, cur, rfl, h2, h3, h4, h5, h6, h7, h8⟩
    · -- from nil
      have hrun := run_append_nil (P := P) w t tr e i z ht hi hz A m c news hl hnews (by omega) (by simp only [maxLen] at h63; omega) (by simp only [Nat.zero_add] at hby; omega)
      have hge := grownCap_ge w m 0 e
      have hle := grownCap_le_maxLen w m 0 e (by simpa using h63)
      obtain ⟨E', q1, q2, q3, q4⟩ := fresh [] (grownCap w m 0 e) (Builtin.zeroCells z.cells (grownCap w m 0 e - m)) (by simp) (by simp) (by simp) (by omega) hle (by rw [size_zeroCells', hzs]; simp)
      simp only [Nat.zero_add, Array.empty_append] at q1 q2 q3 q4 ⊢
      exact ⟨_, _, _, E', hrun, q1, q2, q3, q4⟩
    · have hle : n * i.size ≤ cur.size := by rw [h5]; exact Nat.mul_le_mul_right _ h2
      have hcl : (cur.toList.take (n * i.size)).length = n * i.size := by simp; omega
      have hc1 : ∀ (k : Nat) (u : Value), (cur.toList.take (n * i.size))[k]? = some u → u.oneCell' = true := fun k u hu => by
        rw [List.getElem?_take] at hu
        split at hu
        · rename_i hk; exact h7 k u hk (by simpa using hu)
        · cases hu
      have hcd : ∀ i' j u, i' < n → j < i.size → (cur.toList.take (n * i.size))[i' * i.size + j]? = some u → Den E w (f i' j) u := fun i' j u hi' hj hu => by
        rw [List.getElem?_take, if_pos (idx_lt hi' hj)] at hu
        exact h8 i' j u hi' hj (by simpa using hu)
      by_cases hroom : n + m ≤ cap
      · -- there is room
        have hfit : n * i.size + news.length ≤ cur.size := by rw [hl, h5, ← Nat.add_mul]; exact Nat.mul_le_mul_right _ hroom
        have hrun := run_append_room (P := P) w t tr e i ht hi g1 n cap cur h4 A m c news hl hnews hone hroom hfit
        have hx0 : Ext E w E (w.setRow g1 (cur.toList.take (n * i.size) ++ news ++ cur.toList.drop (n * i.size + news.length)).toArray) := ext_setRow h6 (by intro e; cases e) _
        have hxx := bump_ext hr hv hx0 (some ⟨g1, 0, none⟩, n + m, cap)
        obtain ⟨q1, q2⟩ := key (cur.toList.take (n * i.size)) (cur.toList.drop (n * i.size + news.length)) hxx hcl hc1 hcd
        refine ⟨_, _, _, _, hrun, hxx, ?_, by simp [Env.bump], hid⟩
        refine hr.moved hv hxx rfl rfl rfl (fun i' v hi' => by simp [Env.bump, hi']) (fun b t hb ht => ⟨setRow_other _ _ _ _ (fun e' => ?_), rfl⟩) (fun b t hb => by simpa using hr.own b t hb) (a := some ⟨g1, 0, none⟩) (cap := cap) (by simp [Env.bump]) ?_ (bump_none k3)
        · subst e'; rw [h6] at hb; cases hb; exact ht rfl
        · refine .inr ⟨g1, _, rfl, hroom, h3, setRow_heap w g1 cur _ e (0, 0) h4, ?_, h6, fun k u hk hu => q1 k u hk (by simpa using hu), fun i' j u hi' hj hu => q2 i' j u hi' hj (by simpa using hu)⟩
          simp only [List.size_toArray, List.length_append, List.length_take, List.length_drop, Array.length_toList]
          omega
      · -- a new array
        have holds : ∀ j u, (cur.toList.take (n * i.size))[j]? = some u → w.cell? ((⟨g1, 0, none⟩ : Addr).add j) = some u := fun j u hu => by
          rw [List.getElem?_take] at hu
          split at hu
          · rw [Addr.add_lit]; simp only [World.cell?, h4]; simpa using hu
          · cases hu
        have hrun := run_append_grow (P := P) w t tr e i z ht hi hz ⟨g1, 0, none⟩ n cap (cur.toList.take (n * i.size)) hcl holds A m c news hl hnews (by omega) (by simp only [maxLen] at h63; omega) (growslice_fits (by omega) hby)
        have hge := grownCap_ge w (n + m) cap e
        have hle2 := grownCap_le_maxLen w (n + m) cap e h63
        obtain ⟨E', q1, q2, q3, q4⟩ := fresh _ (grownCap w (n + m) cap e) (Builtin.zeroCells z.cells (grownCap w (n + m) cap e - (n + m))) hcl hc1 hcd hge hle2 (by rw [size_zeroCells', hzs])
        exact ⟨_, _, _, E', hrun, q1, q2, q3, q4⟩
end Go.Eng
end

/- One operation on symbolic values. -/
section
namespace Go.Eng
set_option linter.unusedVariables false
open Go.RowKit

/-- A zero cell: a plain value, or a nil slice (whose elements are to be of type e, sz cells each). -/
inductive ZC where
  | c (x : SV)
  | sl (e sz : Nat)
inductive TK where
  | slice (e : Nat) | array (n e : Nat) | struct (offs : List (Nat × Nat)) | int (k : IntKind) | bool | other
/-- A cell that is compared by its value. -/
inductive LK where
  | i | b
structure TI where
  kind : TK
  agg : Bool
  ifc : Bool
  size : Nat
  bytes : Nat
  zero : List ZC
  eq : Option (List LK)

/-- The cells of a type that is compared cell by cell. -/
def goF (P : Program) (rec : Nat → Option (List LK)) : List Field → List LK → Option (List LK)
  | [], acc => some acc
  | f :: fs, acc => if f.name ≠ "_" then if f.offset = acc.length then match rec f.type with
    | some ks => goF P rec fs (acc ++ ks)
    | none => none
    else none else none
def flatK (P : Program) : Nat → Nat → Option (List LK)
  | 0, _ => none
  | d + 1, t => match P.underlying t with
    | some (.int _) => some [.i]
    | some .bool => some [.b]
    | some (.struct fs) => if P.stoodInHeld t = false then match goF P (flatK P d) fs.toList [] with
      | some ks => match P.info? t with
        | some i => if i.size = ks.length then some ks else none
        | none => none
      | none => none
      else none
    | _ => none

def svS : Value → SV
  | .int k n => .int k n
  | .bool b => .bool b
  | .string s => .str s
  | .pointer none => .nilp
  | .slice none 0 _ => .row 0 1 (fun _ _ => .any)
  | .nilFunc => .nilf
  | .nilIface => .nili
  | _ => .any
def svL : List Value → List SV
  | [] => []
  | v :: l => svS v :: svL l
def svC : Value → SV
  | .agg cs => if cs.all (·.oneCell') then .agg (svL cs.toList) else .any
  | v => svS v
def ev (t : List SV) : Operand → SV
  | .tmp i => nth t i
  | .const v => svC v
  | .global _ => .any
  | .func f => .func f []

theorem svS_den (E : Env) (w : World) (v : Value) : Den E w (svS v) v := by
  unfold svS
  split
  · exact .int _ _
  · exact .bool _
  · exact .str _
  · exact .nilp
  · exact .rowZ _ _
  · exact .nilf
  · exact .nili
  · exact .any _
theorem svL_den (E : Env) (w : World) : ∀ (l : List Value), (svL l).length = l.length ∧ ∀ (i : Nat) (x : SV) (u : Value), (svL l)[i]? = some x → l[i]? = some u → Den E w x u
  | [] => ⟨rfl, fun i x u h => by simp [svL] at h⟩
  | v :: l => by
    obtain ⟨h1, h2⟩ := svL_den E w l
    refine ⟨by simp [svL, h1], fun i x u hx hu => ?_⟩
    cases i with
    | zero => simp [svL] at hx hu; subst hx hu; exact svS_den E w v
    | succ i => simp [svL] at hx hu; exact h2 i x u hx hu
theorem svC_den (E : Env) (w : World) (v : Value) : Den E w (svC v) v := by
  unfold svC
  split
  · rename_i cs
    split
    · rename_i h
      obtain ⟨h1, h2⟩ := svL_den E w cs.toList
      rw [Array.all_eq_true] at h
      refine .agg cs (by simp [h1]) (fun i u hu => ?_) (fun i x u hx hu => h2 i x u hx (by simpa using hu))
      obtain ⟨hi, rfl⟩ := Array.getElem?_eq_some_iff.1 hu
      exact h i hi
    · exact .any _
  · exact svS_den E w v
theorem ev_den {E : Env} {w : World} {t : List SV} {a : Act} (h : DenA E w t a.tmps) (x : Operand) : Den E w (ev t x) (a.eval x) := by
  cases x with
  | tmp i => exact h.nth i
  | const v => exact svC_den E w v
  | global g => exact .any _
  | func f => exact .func #[] rfl (fun i x u hx => by simp at hx)

inductive Res where
  | val (p : Prop) (v : SV) (h : HS)
  | skip (p : Prop) (h : HS)
  /-- One of two values: the first only if p. -/
  | fork (p : Prop) (v u : SV) (h : HS)
  | pan (v : SV)
  | call (g : Nat) (args : List SV)
  | round (nm fid : Nat) (t : List SV) (assign body : Code)
  | bad

/-- What a result promises of the operation's run. -/
def ResOk (P : Program) (E : Env) (h : HS) (w : World) (r : Result Next) : Res → Prop
  | .val p v h' => p → ∃ val w' E', r = .ok (.value val) w' ∧ Den E' w' v val ∧ RelH E' h' w' ∧ Ext E w E' w'
  | .skip p h' => p → ∃ w' E', r = .ok .skip w' ∧ RelH E' h' w' ∧ Ext E w E' w'
  | .fork p v u h' => ∃ val w' E', r = .ok (.value val) w' ∧ ((p ∧ Den E' w' v val) ∨ Den E' w' u val) ∧ RelH E' h' w' ∧ Ext E w E' w'
  | .pan v => ∃ val, r = .halt (.panic val) w ∧ Den E w v val
  | .call g args => ∃ vals, r = .ok (.enter g vals) w ∧ DenA E w args vals
  | .round nm fid t assign body => ∃ tmps, r = .ok (.round (E.rho nm) fid tmps assign body) w ∧ DenA E w t tmps ∧ nm < E.nb
  | .bad => True

/-- The tables of types say what the program says. -/
structure TIOk (P : Program) (t : Nat) (ti : TI) : Prop where
  one : ti.agg = false → ti.size = 1
  info : ∃ (i : TypeInfo) (z : Value), P.info? t = some i ∧ i.size = ti.size ∧ i.bytes = ti.bytes ∧ i.zero = some z ∧ z.cells.size = ti.size ∧ ti.zero.length = ti.size ∧
    (∀ (k : Nat) (u : Value), z.cells[k]? = some u → u.oneCell' = true ∧ match ti.zero[k]? with | some (.c x) => x = svS u | some (.sl _ sz) => u = .slice none 0 0 ∧ 0 < sz | none => False)
  desc : ∃ d, P.underlying t = some d ∧ ti.ifc = (match d with | .interface _ => true | _ => false) ∧ ti.agg = (match d with | .struct _ | .array _ _ => true | _ => false) ∧
    match ti.kind with
    | .slice e => d = .slice e
    | .array n e => d = .array n e
    | .struct offs => ∃ fs : Array Field, d = .struct fs ∧ (fs.toList.mapM fun f => (P.info? f.type).map fun i => (f.offset, i.size)) = some offs ∧ ∀ x ∈ offs, x.2 ≠ 0
    | .int k => d = .int k
    | .bool => d = .bool
    | .other => True
  eqv : ∀ ks, ti.eq = some ks → flatK P 8 t = some ks ∧ P.eqGuardType P.depth t = false

theorem places_get {P : Program} : ∀ (fs : List Field) (offs : List (Nat × Nat)), (fs.mapM fun f => (P.info? f.type).map fun i => (f.offset, i.size)) = some offs →
    ∀ (k o s : Nat), offs[k]? = some (o, s) → ∃ f : Field, fs[k]? = some f ∧ f.offset = o ∧ ∃ i, P.info? f.type = some i ∧ i.size = s
  | [], offs, h, k, o, s, hk => by simp at h; subst h; simp at hk
  | f :: fs, offs, h, k, o, s, hk => by
    simp only [List.mapM_cons, Option.bind_eq_bind, Option.pure_def] at h
    cases hi : P.info? f.type with
    | none => simp [hi] at h
    | some i =>
      cases hr : fs.mapM (fun f => (P.info? f.type).map fun i => (f.offset, i.size)) with
      | none => simp [hi, hr] at h
      | some rest =>
        simp [hi, hr] at h
        subst h
        cases k with
        | zero => simp at hk; exact ⟨f, rfl, hk.1, i, hi, hk.2⟩
        | succ k => exact places_get fs rest hr k o s (by simpa using hk)

/- ### the kinds of operations -/
def rBin (op : BinOp) (a b : SV) (h : HS) : Res :=
  match op, a, b with
  | .add, .int k x, .int k' y => if k = k' then .val True (.int k (k.wrap (x + y))) h else .bad
  | .sub, .int k x, .int k' y => if k = k' then .val True (.int k (k.wrap (x - y))) h else .bad
  | .mul, .int k x, .int k' y => if k = k' then .val True (.int k (k.wrap (x * y))) h else .bad
  | .quo, .int k x, .int k' y => if k = k' then .val (y ≠ 0) (.int k (k.wrap (x.tdiv y))) h else .bad
  | .rem, .int k x, .int k' y => if k = k' then .val (y ≠ 0) (.int k (x.tmod y)) h else .bad
  | .shr, .int k x, .int _ y => .val (0 ≤ y) (.int k (x.fdiv (2 ^ (min y.toNat k.bits)))) h
  | .eql, .int k x, .int k' y => if k = k' then .val True (.bool (decide (x = y))) h else .bad
  | .neq, .int k x, .int k' y => if k = k' then .val True (.bool (!decide (x = y))) h else .bad
  | .lss, .int k x, .int k' y => if k = k' then .val True (.bool (decide (x < y))) h else .bad
  | .leq, .int k x, .int k' y => if k = k' then .val True (.bool (decide (x ≤ y))) h else .bad
  | .gtr, .int k x, .int k' y => if k = k' then .val True (.bool (decide (y < x))) h else .bad
  | .geq, .int k x, .int k' y => if k = k' then .val True (.bool (decide (y ≤ x))) h else .bad
  | _, _, _ => .bad

theorem rBin_ok {P : Program} {E : Env} {h : HS} {w : World} (hr : RelH E h w) {op : BinOp} {a b : SV} {va vb : Value} (ha : Den E w a va) (hb : Den E w b vb) (t : TypeId) (x y : Operand) :
    ResOk P E h w (((do eqGuard op t x y va vb; binOp op t va vb : Sem Value) >>= fun v => pure (Next.value v)).run P w) (rBin op a b h) := by
  have fin : ∀ (p : Prop) (v : SV) (val : Value), (p → ((do eqGuard op t x y va vb; binOp op t va vb : Sem Value) >>= fun v => pure (Next.value v)).run P w = .ok (.value val) w) → Den E w v val →
      ResOk P E h w (((do eqGuard op t x y va vb; binOp op t va vb : Sem Value) >>= fun v => pure (Next.value v)).run P w) (.val p v h) :=
    fun p v val h1 h2 hp => ⟨val, w, E, h1 hp, h2, hr, Ext.refl E w⟩
  unfold rBin
  split
  · cases ha; cases hb; split
    · rename_i e; subst e; exact fin _ _ _ (fun hp => by simp [eqGuard, binOp, Op.intArith]) (.int _ _)
    · trivial
  · cases ha; cases hb; split
    · rename_i e; subst e; exact fin _ _ _ (fun hp => by simp [eqGuard, binOp, Op.intArith]) (.int _ _)
    · trivial
  · cases ha; cases hb; split
    · rename_i e; subst e; exact fin _ _ _ (fun hp => by simp [eqGuard, binOp, Op.intArith]) (.int _ _)
    · trivial
  · cases ha; cases hb; split
    · rename_i e; subst e; exact fin _ _ _ (fun hp => by simp [eqGuard, binOp, Op.intDiv, show ¬ _ = (0 : Int) from hp]) (.int _ _)
    · trivial
  · cases ha; cases hb; split
    · rename_i e; subst e; exact fin _ _ _ (fun hp => by simp [eqGuard, binOp, Op.intDiv, show ¬ _ = (0 : Int) from hp]) (.int _ _)
    · trivial
  · cases ha; cases hb; exact fin _ _ _ (fun hp => by simp [eqGuard, binOp, Op.shift, Int.not_lt.2 hp]) (.int _ _)
  · cases ha; cases hb; split
    · rename_i e; subst e; exact fin _ _ _ (fun hp => by simp [eqGuard, binOp, Op.intCmp]; rfl) (.bool _)
    · trivial
  · cases ha; cases hb; split
    · rename_i e; subst e; exact fin _ _ _ (fun hp => by simp [eqGuard, binOp, Op.intCmp, bne]; rfl) (.bool _)
    · trivial
  · cases ha; cases hb; split
    · rename_i e; subst e; exact fin _ _ _ (fun hp => by simp [eqGuard, binOp, Op.intCmp]) (.bool _)
    · trivial
  · cases ha; cases hb; split
    · rename_i e; subst e; exact fin _ _ _ (fun hp => by simp [eqGuard, binOp, Op.intCmp]) (.bool _)
    · trivial
  · cases ha; cases hb; split
    · rename_i e; subst e; exact fin _ _ _ (fun hp => by simp [eqGuard, binOp, Op.intCmp]) (.bool _)
    · trivial
  · cases ha; cases hb; split
    · rename_i e; subst e; exact fin _ _ _ (fun hp => by simp [eqGuard, binOp, Op.intCmp]) (.bool _)
    · trivial
  · trivial

/- ### comparing -/
def eqS : List LK → List SV → List SV → Option Bool
  | [], [], [] => some true
  | .i :: ks, .int k x :: l, .int k' y :: m => if k = k' then match eqS ks l m with
    | some q => some (decide (x = y) && q)
    | none => none
    else none
  | .b :: ks, .bool x :: l, .bool y :: m => match eqS ks l m with
    | some q => some (x == y && q)
    | none => none
  | _, _, _ => none
def eqV : List LK → List Value → List Value → Option Bool
  | [], [], [] => some true
  | .i :: ks, .int k x :: l, .int k' y :: m => if k = k' then match eqV ks l m with
    | some q => some (decide (x = y) && q)
    | none => none
    else none
  | .b :: ks, .bool x :: l, .bool y :: m => match eqV ks l m with
    | some q => some (x == y && q)
    | none => none
  | _, _, _ => none
theorem eqS_eqV {E : Env} {w : World} : ∀ {ks : List LK} {l m : List SV} {us vs : List Value} {q : Bool}, eqS ks l m = some q → us.length = l.length → vs.length = m.length →
    (∀ (i : Nat) (x : SV) (u : Value), l[i]? = some x → us[i]? = some u → Den E w x u) → (∀ (i : Nat) (x : SV) (u : Value), m[i]? = some x → vs[i]? = some u → Den E w x u) → eqV ks us vs = some q := by
  intro ks l m
  fun_induction eqS ks l m with
  | case1 =>
    intro us vs q h h1 h2 _ _
    cases us <;> cases vs <;> simp at h1 h2
    simpa [eqV] using h
  | case2 ks x l k y m q0 h0 ih =>
    intro us vs q h h1 h2 d1 d2
    cases us with
    | nil => simp at h1
    | cons u us =>
      cases vs with
      | nil => simp at h2
      | cons v vs =>
        have a1 := d1 0 _ _ rfl rfl
        have a2 := d2 0 _ _ rfl rfl
        cases a1; cases a2
        have := ih (us := us) (vs := vs) h0 (by simpa using h1) (by simpa using h2) (fun i x u hx hu => d1 (i + 1) x u (by simpa using hx) (by simpa using hu)) (fun i x u hx hu => d2 (i + 1) x u (by simpa using hx) (by simpa using hu))
        simp [eqV, this]
        simpa using h
  | case3 => intro us vs q h; cases h
  | case4 => intro us vs q h; cases h
  | case5 ks x l y m q0 h0 ih =>
    intro us vs q h h1 h2 d1 d2
    cases us with
    | nil => simp at h1
    | cons u us =>
      cases vs with
      | nil => simp at h2
      | cons v vs =>
        have a1 := d1 0 _ _ rfl rfl
        have a2 := d2 0 _ _ rfl rfl
        cases a1; cases a2
        have := ih (us := us) (vs := vs) h0 (by simpa using h1) (by simpa using h2) (fun i x u hx hu => d1 (i + 1) x u (by simpa using hx) (by simpa using hu)) (fun i x u hx hu => d2 (i + 1) x u (by simpa using hx) (by simpa using hu))
        simp [eqV, this]
        simpa using h
  | case6 => intro us vs q h; cases h
  | case7 => intro us vs q h; cases h
theorem eqV_len : ∀ {ks : List LK} {us vs : List Value} {q : Bool}, eqV ks us vs = some q → us.length = ks.length ∧ vs.length = ks.length := by
  intro ks us vs
  fun_induction eqV ks us vs with
  | case1 => intro q h; exact ⟨rfl, rfl⟩
  | case2 ks x l k y m q0 h0 ih => intro q h; have := ih h0; simp [this]
  | case3 => intro q h; cases h
  | case4 => intro q h; cases h
  | case5 ks x l y m q0 h0 ih => intro q h; have := ih h0; simp [this]
  | case6 => intro q h; cases h
  | case7 => intro q h; cases h
theorem eqV_app : ∀ {ks js : List LK} {us vs : List Value} {q : Bool}, eqV (ks ++ js) us vs = some q →
    ∃ a b, eqV ks (us.take ks.length) (vs.take ks.length) = some a ∧ eqV js (us.drop ks.length) (vs.drop ks.length) = some b ∧ q = (a && b)
  | [], js, us, vs, q, h => ⟨true, q, by simp [eqV], by simpa using h, by simp⟩
  | .i :: ks, js, us, vs, q, h => by
    cases us with
    | nil => simp [eqV] at h
    | cons u us =>
      cases vs with
      | nil => cases u <;> simp [eqV] at h
      | cons v vs =>
        cases u <;> cases v <;> simp only [List.cons_append, eqV, reduceCtorEq] at h
        split at h
        · rename_i k x k' y e
          subst e
          split at h
          · rename_i q0 h0
            obtain ⟨a, b, h1, h2, rfl⟩ := eqV_app h0
            simp only [Option.some.injEq] at h
            refine ⟨decide (x = y) && a, b, by simp [eqV, h1], by simpa using h2, by rw [← h, Bool.and_assoc]⟩
          · cases h
        · cases h
  | .b :: ks, js, us, vs, q, h => by
    cases us with
    | nil => simp [eqV] at h
    | cons u us =>
      cases vs with
      | nil => cases u <;> simp [eqV] at h
      | cons v vs =>
        cases u <;> cases v <;> simp only [List.cons_append, eqV, reduceCtorEq] at h
        rename_i x y
        split at h
        · rename_i q0 h0
          obtain ⟨a, b, h1, h2, rfl⟩ := eqV_app h0
          simp only [Option.some.injEq] at h
          refine ⟨x == y && a, b, by simp [eqV, h1], by simpa using h2, by rw [← h, Bool.and_assoc]⟩
        · cases h

/-- Two parts compared. -/
def EqAt (P : Program) (w : World) (D t off : Nat) (xs ys : Array Value) (q : Bool) : Prop :=
  ∃ a b, (part t xs off).run P w = .ok a w ∧ (part t ys off).run P w = .ok b w ∧ (Op.equalIn D t a b).run P w = .ok q w
theorem goF_ok {P : Program} {w : World} {D : Nat} {rec : Nat → Option (List LK)}
    (hrec : ∀ t ks, rec t = some ks → ∀ (xs ys : Array Value) (off : Nat) (q : Bool), eqV ks ((xs.toList.drop off).take ks.length) ((ys.toList.drop off).take ks.length) = some q → EqAt P w D t off xs ys q) :
    ∀ (fs : List Field) (acc ks : List LK), goF P rec fs acc = some ks → ∃ js, ks = acc ++ js ∧ ∀ (xs ys : Array Value) (q : Bool), eqV js (xs.toList.drop acc.length) (ys.toList.drop acc.length) = some q → (Op.eqFields D xs ys fs).run P w = .ok q w
  | [], acc, ks, h => by
    simp only [goF, Option.some.injEq] at h
    subst h
    refine ⟨[], by simp, fun xs ys q hq => ?_⟩
    generalize xs.toList.drop acc.length = a at hq
    generalize ys.toList.drop acc.length = b at hq
    cases a <;> cases b <;> simp [eqV] at hq
    subst hq
    simp [Op.eqFields]
  | f :: fs, acc, ks, h => by
    simp only [goF] at h
    split at h
    · rename_i hn
      split at h
      · rename_i ho
        split at h
        · rename_i k1 hk1
          obtain ⟨js, e, hjs⟩ := goF_ok hrec fs _ _ h
          refine ⟨k1 ++ js, by rw [e, List.append_assoc], fun xs ys q hq => ?_⟩
          obtain ⟨a, b, ha, hb, rfl⟩ := eqV_app hq
          obtain ⟨va, vb, p1, p2, p3⟩ := hrec _ _ hk1 xs ys acc.length a ha
          simp only [Op.eqFields, if_pos hn, Sem.run_bind]
          rw [ho, p1]
          simp only [Result.andThen_ok, p2, p3]
          cases a with
          | false => simp
          | true =>
            have := hjs xs ys b (by simpa [List.drop_drop, Nat.add_comm] using hb)
            simpa using this
        · cases h
      · cases h
    · cases h
theorem flatK_ok {P : Program} {w : World} : ∀ (d : Nat) (t : Nat) (ks : List LK), flatK P d t = some ks → ∀ D, d ≤ D → ∀ (xs ys : Array Value) (off : Nat) (q : Bool),
    eqV ks ((xs.toList.drop off).take ks.length) ((ys.toList.drop off).take ks.length) = some q → EqAt P w D t off xs ys q
  | 0, t, ks, h => by simp [flatK] at h
  | d + 1, t, ks, h => by
    intro D hD xs ys off q hq
    obtain ⟨D, rfl⟩ : ∃ D', D = D' + 1 := ⟨D - 1, by omega⟩
    have one : ∀ (xs : Array Value) (u : Value), (xs.toList.drop off).take 1 = [u] → xs[off]? = some u := by
      intro xs u h
      have : ((xs.toList.drop off).take 1)[0]? = some u := by rw [h]; rfl
      simpa [List.getElem?_take, List.getElem?_drop] using this
    unfold flatK at h
    split at h
    · rename_i k hu
      cases h
      simp only [List.length_cons, List.length_nil, Nat.zero_add] at hq
      generalize ha : (xs.toList.drop off).take 1 = la at hq
      generalize hb : (ys.toList.drop off).take 1 = lb at hq
      cases la with
      | nil => simp [eqV] at hq
      | cons u la =>
        cases lb with
        | nil => cases u <;> simp [eqV] at hq
        | cons v lb =>
          have la0 : la = [] := by have := congrArg List.length ha; simp at this; exact List.length_eq_zero_iff.1 (by omega)
          have lb0 : lb = [] := by have := congrArg List.length hb; simp at this; exact List.length_eq_zero_iff.1 (by omega)
          subst la0 lb0
          cases u <;> cases v <;> simp only [eqV, reduceCtorEq] at hq
          split at hq
          · rename_i k1 x k2 y e
            subst e
            simp at hq
            refine ⟨.int k1 x, .int k1 y, by simp [part, isAgg, run_underlying hu, one xs _ ha], by simp [part, isAgg, run_underlying hu, one ys _ hb], ?_⟩
            rw [run_equalIn_int w D t k1 k x y hu, ← hq]
            rfl
          · cases hq
    · rename_i hu
      cases h
      simp only [List.length_cons, List.length_nil, Nat.zero_add] at hq
      generalize ha : (xs.toList.drop off).take 1 = la at hq
      generalize hb : (ys.toList.drop off).take 1 = lb at hq
      cases la with
      | nil => simp [eqV] at hq
      | cons u la =>
        cases lb with
        | nil => cases u <;> simp [eqV] at hq
        | cons v lb =>
          have la0 : la = [] := by have := congrArg List.length ha; simp at this; exact List.length_eq_zero_iff.1 (by omega)
          have lb0 : lb = [] := by have := congrArg List.length hb; simp at this; exact List.length_eq_zero_iff.1 (by omega)
          subst la0 lb0
          cases u <;> cases v <;> simp only [eqV, reduceCtorEq] at hq
          rename_i x y
          simp at hq
          refine ⟨.bool x, .bool y, by simp [part, isAgg, run_underlying hu, one xs _ ha], by simp [part, isAgg, run_underlying hu, one ys _ hb], ?_⟩
          rw [run_equalIn_bool' w D t x y hu, ← hq]
    · rename_i fs hu
      split at h
      · rename_i hst
        split at h
        · rename_i ks' hg
          split at h
          · rename_i i hi
            split at h
            · rename_i hsz
              cases h
              have hf : P.fieldsOf t = fs := by simp [Program.fieldsOf, hu]
              obtain ⟨js, e, hjs⟩ := goF_ok (P := P) (w := w) (D := D) (rec := flatK P d) (fun t' k' hk' xs ys off q hq => flatK_ok d t' k' hk' D (by omega) xs ys off q hq) fs.toList [] _ hg
              simp only [List.nil_append] at e
              subst e
              have hA : (isAgg t).run P w = .ok true w := by simp [isAgg, run_underlying hu]
              have hS : (sizeOf t).run P w = .ok ks.length w := by simp [sizeOf, typeInfo, hi, hsz]
              refine ⟨.agg (xs.extract off (off + ks.length)), .agg (ys.extract off (off + ks.length)), by simp [part, hA, hS], by simp [part, hA, hS], ?_⟩
              rw [run_equalIn_agg w D t _ _ (by rw [hf]; exact hu) hst, hf]
              refine hjs _ _ q ?_
              have e2 : ∀ (zs : Array Value), (zs.extract off (off + ks.length)).toList = (zs.toList.drop off).take ks.length := by
                intro zs
                rw [Array.toList_extract]
                simp [List.extract]
              simpa [e2] using hq
            · cases h
          · cases h
        · cases h
      · cases h
    · cases h

def isNilSl (y : Operand) : Bool := match y with
  | .const (.slice none 0 0) => true
  | _ => false
def isConst : Operand → Bool
  | .const _ => true
  | _ => false
def neO (op : BinOp) (q : Bool) (h : HS) : Res :=
  match op with
  | .eql => .val True (.bool q) h
  | .neq => .val True (.bool (!q)) h
  | _ => .bad
def rEqA (ti : Option TI) (op : BinOp) (l m : List SV) (h : HS) : Res :=
  match ti with
  | some ti => if ti.agg then match ti.eq with
    | some ks => match eqS ks l m with
      | some q => neO op q h
      | none => .bad
    | none => .bad
    else .bad
  | none => .bad
def rEqB (ti : Option TI) (op : BinOp) (x y : Bool) (h : HS) : Res :=
  match ti with
  | some ti => match ti.kind with
    | .bool => neO op (x == y) h
    | _ => .bad
  | none => .bad
def rEqI (ti : Option TI) (op : BinOp) (q : Bool) (h : HS) : Res :=
  match ti with
  | some ti => if ti.ifc then neO op q h else .bad
  | none => .bad
/-- c: one of the two is a constant. -/
def rBin2 (ti : Option TI) (c : Bool) (op : BinOp) (a b : SV) (h : HS) : Res :=
  match a with
  | .int k x => rBin op (.int k x) b h
  | .bool x => match b with
    | .bool y => rEqB ti op x y h
    | _ => .bad
  | .agg l => match b with
    | .agg m => rEqA ti op l m h
    | _ => .bad
  | .iface _ _ => match b with
    | .nili => rEqI ti op false h
    | _ => .bad
  | .nili => match b with
    | .nili => if c then rEqI ti op true h else .bad
    | _ => .bad
  | _ => .bad

/-- A slice and nil: whether it is nil is not known, but then it is empty. -/
def rEqNil (ti : Option TI) (op : BinOp) (a : SV) (h : HS) : Res :=
  match ti with
  | some ti => match ti.kind with
    | .slice _ => match op, a with
      | .eql, .row n _ _ => .fork (n = 0) (.bool true) (.bool false) h
      | .neq, .row n _ _ => .fork (n = 0) (.bool false) (.bool true) h
      | _, _ => .bad
    | _ => .bad
  | none => .bad
def rBin3 (ti : Option TI) (c : Bool) (op : BinOp) (nl : Bool) (a b : SV) (h : HS) : Res :=
  match nl with
  | true => rEqNil ti op a h
  | false => rBin2 ti c op a b h
theorem Den.agg_inv {E : Env} {w : World} {l : List SV} {v : Value} (h : Den E w (.agg l) v) : ∃ us : Array Value, v = .agg us ∧ us.size = l.length ∧ ∀ (i : Nat) (x : SV) (u : Value), l[i]? = some x → us[i]? = some u → Den E w x u := by
  cases h
  rename_i us h1 hs hd
  exact ⟨us, rfl, hs, hd⟩
theorem eqI_nil {P : Program} (w : World) (d t : Nat) {ms : Array (String × TypeId)} (hd : P.underlying t = some (.interface ms)) (tx : TypeId) (v : Value) : (Op.equalIn (d + 1) t (.iface tx v) .nilIface).run P w = .ok false w := by
  simp [Op.equalIn, run_underlying hd]
theorem eqNN {P : Program} (w : World) (d t : Nat) {ms : Array (String × TypeId)} (hd : P.underlying t = some (.interface ms)) : (Op.equalIn (d + 1) t .nilIface .nilIface).run P w = .ok true w := by
  simp [Op.equalIn, run_underlying hd]
theorem neO_ok {P : Program} {E : Env} {h : HS} {w : World} (hr : RelH E h w) {op : BinOp} {t : TypeId} {x y : Operand} {va vb : Value} {q : Bool}
    (hg : (eqGuard op t x y va vb).run P w = .ok () w) (h1 : (binOp .eql t va vb).run P w = .ok (.bool q) w) (h2 : (binOp .neq t va vb).run P w = .ok (.bool (!q)) w) :
    ResOk P E h w (((do eqGuard op t x y va vb; binOp op t va vb : Sem Value) >>= fun v => pure (Next.value v)).run P w) (neO op q h) := by
  unfold neO
  split
  · exact fun _ => ⟨.bool q, w, E, by simp [hg, h1], .bool _, hr, Ext.refl E w⟩
  · exact fun _ => ⟨.bool (!q), w, E, by simp [hg, h2], .bool _, hr, Ext.refl E w⟩
  · trivial
theorem rBin2_ok {P : Program} {T : Nat → Option TI} (hT : ∀ t ti, T t = some ti → TIOk P t ti) {E : Env} {h : HS} {w : World} (hr : RelH E h w) {op : BinOp} {a b : SV} {va vb : Value} (ha : Den E w a va) (hb : Den E w b vb) (t : TypeId) (x y : Operand) :
    ResOk P E h w (((do eqGuard op t x y va vb; binOp op t va vb : Sem Value) >>= fun v => pure (Next.value v)).run P w) (rBin2 (T t) (isConst x || isConst y) op a b h) := by
  unfold rBin2
  split
  · exact rBin_ok hr ha hb t x y
  · split
    · cases ha; cases hb
      unfold rEqB
      split
      · rename_i ti hti
        have k := hT t ti hti
        obtain ⟨d, hd, _, _, hkd⟩ := k.desc
        split
        · rename_i hk
          rw [hk] at hkd
          subst hkd
          refine neO_ok hr (by cases op <;> simp [eqGuard]) ?_ ?_
          · simp [binOp, Op.equal, Op.maxDepth, run_equalIn_bool' w 9999 t _ _ hd]
          · simp [binOp, Op.equal, Op.maxDepth, run_equalIn_bool' w 9999 t _ _ hd]
        · trivial
      · trivial
    · trivial
  · split
    · obtain ⟨us, rfl, hs1, hd1⟩ := ha.agg_inv
      obtain ⟨vs, rfl, hs2, hd2⟩ := hb.agg_inv
      unfold rEqA
      split
      · rename_i ti hti
        have k := hT t ti hti
        obtain ⟨d, hd, _, hag, _⟩ := k.desc
        split
        · rename_i hagg
          rw [hagg] at hag
          split
          · rename_i ks hks
            obtain ⟨k1, k2⟩ := k.eqv ks hks
            split
            · rename_i q hq
              have hv := eqS_eqV hq (us := us.toList) (vs := vs.toList) (by simpa using hs1) (by simpa using hs2) (fun i x u hx hu => hd1 i x u hx (by simpa using hu)) (fun i x u hx hu => hd2 i x u hx (by simpa using hu))
              obtain ⟨n1, n2⟩ := eqV_len hv
              have n1' : us.size = ks.length := by simpa using n1
              have n2' : vs.size = ks.length := by simpa using n2
              obtain ⟨va, vb, p1, p2, p3⟩ := flatK_ok (w := w) 8 t ks k1 10000 (by omega) us vs 0 q (by
                rw [show (List.drop 0 us.toList).take ks.length = us.toList from by rw [List.drop_zero]; exact List.take_of_length_le (by omega),
                  show (List.drop 0 vs.toList).take ks.length = vs.toList from by rw [List.drop_zero]; exact List.take_of_length_le (by omega)]
                exact hv)
              have hA : (isAgg t).run P w = .ok true w := by
                unfold isAgg
                cases d <;> simp at hag <;> simp [run_underlying hd]
              have hS : ∃ n, (sizeOf t).run P w = .ok n w ∧ n = ks.length := by
                unfold flatK at k1
                rw [hd] at k1
                cases d <;> simp at hag <;> simp at k1
                obtain ⟨_, k1⟩ := k1
                split at k1
                · split at k1
                  · rename_i i hi
                    simp at k1
                    obtain ⟨k1, rfl⟩ := k1
                    exact ⟨i.size, by simp [sizeOf, typeInfo, hi], k1⟩
                  · cases k1
                · cases k1
              obtain ⟨n, hS, rfl⟩ := hS
              have hp : ∀ (zs : Array Value), zs.size = ks.length → (part t zs 0).run P w = .ok (.agg zs) w := by
                intro zs hz
                have : zs.extract 0 ks.length = zs := by rw [← hz]; simp
                simp [part, hA, hS, this]
              rw [hp us n1'] at p1
              rw [hp vs n2'] at p2
              cases p1; cases p2
              have hfin := p3
              exact neO_ok hr (run_eqGuard_agg w op t x y us vs k2) (by rw [run_eql_struct, hfin]; rfl) (by rw [run_neq_struct, hfin]; rfl)
            · trivial
          · trivial
        · trivial
      · trivial
    · trivial
  · split
    · cases ha; cases hb
      unfold rEqI
      split
      · rename_i ti hti
        have k := hT t ti hti
        obtain ⟨d, hd, hifc, _, hkd⟩ := k.desc
        split
        · rename_i hi
          rw [hi] at hifc
          cases d <;> simp at hifc
          refine neO_ok hr (by cases op <;> simp [eqGuard]) ?_ ?_
          · simp [binOp, Op.equal, Op.maxDepth, eqI_nil w 9999 t hd]
          · simp [binOp, Op.equal, Op.maxDepth, eqI_nil w 9999 t hd]
        · trivial
      · trivial
    · trivial
  · split
    · split
      · rename_i hc
        cases ha; cases hb
        unfold rEqI
        split
        · rename_i ti hti
          have k := hT t ti hti
          obtain ⟨d, hd, hifc, _, hkd⟩ := k.desc
          split
          · rename_i hi
            rw [hi] at hifc
            cases d <;> simp at hifc
            refine neO_ok hr ?_ ?_ ?_
            · cases x <;> cases y <;> simp [isConst] at hc <;> cases op <;> simp [eqGuard]
            · simp [binOp, Op.equal, Op.maxDepth, eqNN w 9999 t hd]
            · simp [binOp, Op.equal, Op.maxDepth, eqNN w 9999 t hd]
          · trivial
        · trivial
      · trivial
    · trivial
  · trivial
theorem row_nil {E : Env} {w : World} {n sz : Nat} {f : Nat → Nat → SV} {v : Value} (h : Den E w (.row n sz f) v) : ∃ a cap, v = .slice a n cap ∧ (a = none → n = 0) := by
  cases h with
  | row A cap => exact ⟨some A, cap, rfl, fun h => by cases h⟩
  | rowZ a cap => exact ⟨a, cap, rfl, fun _ => rfl⟩
theorem isNilSl_eq {y : Operand} (h : isNilSl y = true) : y = .const (.slice none 0 0) := by
  unfold isNilSl at h
  split at h
  · rfl
  · cases h
theorem eqSl {P : Program} (w : World) (d t : Nat) {e : TypeId} (hd : P.underlying t = some (.slice e)) (a : Option Addr) (n c : Nat) : (Op.equalIn (d + 1) t (.slice a n c) (.slice none 0 0)).run P w = .ok a.isNone w := by
  cases a <;> simp [Op.equalIn, run_underlying hd]
theorem rBin3_ok {P : Program} {T : Nat → Option TI} (hT : ∀ t ti, T t = some ti → TIOk P t ti) {E : Env} {h : HS} {w : World} (hr : RelH E h w) {op : BinOp} {a b : SV} {act : Act} {va : Value} (ha : Den E w a va) (t : TypeId) (x y : Operand) (hb : Den E w b (act.eval y)) :
    ResOk P E h w (((do eqGuard op t x y va (act.eval y); binOp op t va (act.eval y) : Sem Value) >>= fun v => pure (Next.value v)).run P w) (rBin3 (T t) (isConst x || isConst y) op (isNilSl y) a b h) := by
  unfold rBin3
  split
  · rename_i hn
    have := isNilSl_eq hn
    subst this
    unfold rEqNil
    split
    · rename_i ti hti
      obtain ⟨d, hd, _, _, hkd⟩ := (hT t ti hti).desc
      split
      · rename_i e hk
        rw [hk] at hkd
        subst hkd
        split
        · obtain ⟨A, cap, rfl, h0⟩ := row_nil ha
          refine ⟨.bool A.isNone, w, E, by simp [Act.eval, eqGuard, binOp, Op.equal, Op.maxDepth, eqSl w 9999 t hd], ?_, hr, Ext.refl E w⟩
          cases A with
          | none => exact .inl ⟨h0 rfl, .bool _⟩
          | some A => exact .inr (.bool _)
        · obtain ⟨A, cap, rfl, h0⟩ := row_nil ha
          refine ⟨.bool (!A.isNone), w, E, by simp [Act.eval, eqGuard, binOp, Op.equal, Op.maxDepth, eqSl w 9999 t hd], ?_, hr, Ext.refl E w⟩
          cases A with
          | none => exact .inl ⟨h0 rfl, .bool _⟩
          | some A => exact .inr (.bool _)
        · trivial
      · trivial
    · trivial
  · exact rBin2_ok hT hr ha hb t x y
end Go.Eng
end

/- Operations on memory: variables, fields, elements. -/
section
namespace Go.Eng
open Go.RowKit
set_option linter.unusedVariables false

theorem ResOk.pure {P : Program} {E : Env} {h : HS} {w : World} (hr : RelH E h w) {p : Prop} {v : SV} {val : Value} {r : Result Next} (h1 : p → r = .ok (.value val) w) (h2 : Den E w v val) : ResOk P E h w r (.val p v h) :=
  fun hp => ⟨val, w, E, h1 hp, h2, hr, Ext.refl E w⟩

/-- The pieces of a value that go into cells. -/
def cellsOf : SV → Option (List SV)
  | .agg l => some l
  | .any => none
  | .tup _ => none
  | x => some [x]

theorem cellsOf_den {E : Env} {w : World} {x : SV} {v : Value} (hd : Den E w x v) {l : List SV} (hl : cellsOf x = some l) : DenA E w l v.cells ∧ ∀ (k : Nat) (u : Value), v.cells[k]? = some u → u.oneCell' = true := by
  have one : ∀ (x : SV) (v : Value), Den E w x v → v.oneCell' = true → v.cells = #[v] → DenA E w [x] v.cells ∧ ∀ (k : Nat) (u : Value), v.cells[k]? = some u → u.oneCell' = true := by
    intro x v hd h1 hc
    rw [hc]
    refine ⟨⟨rfl, fun i y u hy hu => ?_⟩, fun k u hu => ?_⟩
    · cases i with
      | zero => simp at hy hu; subst hy hu; exact hd
      | succ i => simp at hy
    · cases k with
      | zero => simp at hu; subst hu; exact h1
      | succ k => simp at hu
  cases hd <;> simp only [cellsOf, Option.some.injEq, reduceCtorEq] at hl <;> first
    | (subst hl; refine one _ _ ?_ rfl rfl; first | exact .int _ _ | exact .bool _ | exact .str _ | exact .nilp | exact .nilf | exact .nili | exact .yield ‹_› | (constructor <;> assumption) | exact .rowZ _ _ | exact .rptr _ _ ‹_› ‹_› ‹_› ‹_› ‹_› | exact .row _ _ _ ‹_› ‹_› ‹_› ‹_› ‹_› ‹_›)
    | (subst hl; rename_i vs hs h1 hd; exact ⟨⟨hs, hd⟩, h1⟩)

/-- A value out of some cells. -/
def ofCells (agg : Bool) (size : Nat) (l : List SV) (off : Nat) : SV :=
  if agg then .agg (takeN size (dropN off l)) else nth l off

theorem DenA.sub {E : Env} {w : World} {l : List SV} {vs : Array Value} (hd : DenA E w l vs) (off size : Nat) (h : off + size ≤ l.length) :
    DenA E w (takeN size (dropN off l)) (vs.extract off (off + size)) := by
  have hs : vs.size = l.length := hd.1
  refine ⟨by simp [takeN_eq, dropN_eq, hs]; omega, fun i x u hx hu => ?_⟩
  rw [takeN_eq, dropN_eq, List.getElem?_take] at hx
  rw [Array.getElem?_extract] at hu
  split at hx
  · rw [List.getElem?_drop] at hx
    split at hu
    · exact hd.2 _ x u hx (by simpa [Nat.add_comm] using hu)
    · cases hu
  · cases hx

theorem run_loadVar_own {P : Program} {w : World} {g : Nat} {cs : Array Value} {ty : TypeId} (hg : w.heap[g]? = some (.cells cs ty (0, 0))) {t : TypeId} {ti : TI} (hT : TIOk P t ti) (off : Nat) (ho : off + ti.size ≤ cs.size) (h1 : ti.agg = false → ti.size = 1) :
    (loadVar t ⟨g, off, none⟩).run P w = .ok (if ti.agg then .agg (cs.extract off (off + ti.size)) else cs.getD off undef) w := by
  obtain ⟨i, z, hi, hsz, _⟩ := hT.info
  obtain ⟨d, hd, _, hag, _⟩ := hT.desc
  have hc : ∀ j, j < ti.size → w.cell? ((⟨g, off, none⟩ : Addr).add j) = some (cs.getD (off + j) undef) := fun j hj => by
    rw [Addr.add_lit]
    have : off + j < cs.size := by omega
    simp [World.cell?, hg, this, Array.getD]
  cases hb : ti.agg with
  | true =>
    rw [hb] at hag
    have hA : (isAgg t).run P w = .ok true w := by
      unfold isAgg
      cases d <;> simp at hag <;> simp [run_underlying hd]
    have hS : (sizeOf t).run P w = .ok ti.size w := by simp [sizeOf, typeInfo, hi, hsz]
    have hL := run_loadCells (P := P) w ⟨g, off, none⟩ ti.size (fun j => cs.getD (off + j) undef) hc
    simp only [loadVar, Sem.run_bind, hA, Result.andThen_ok, if_true, hS, hL, Sem.run_pure]
    congr 2
    apply Array.ext'
    apply List.ext_getElem?
    intro j
    by_cases hj : j < ti.size
    · have h3 : off + j < cs.size := by omega
      rw [List.getElem?_map, List.getElem?_range hj]
      rw [Array.getElem?_toList, Array.getElem?_extract, if_pos (by omega)]
      simp [Array.getD, h3]
    · rw [List.getElem?_eq_none (by simp; omega), List.getElem?_eq_none (by simp; omega)]
  | false =>
    rw [hb] at hag
    have hA : (isAgg t).run P w = .ok false w := by
      unfold isAgg
      cases d <;> simp at hag <;> simp [run_underlying hd]
    have h0 := hc 0 (by have := h1 hb; omega)
    simp only [Addr.add_zero', Nat.add_zero] at h0
    simp [loadVar, hA, h0]

theorem run_loadVar_at {P : Program} {w : World} {A : Addr} {sz : Nat} {g : Nat → Value} (hc : ∀ j, j < sz → w.cell? (A.add j) = some (g j)) {t : TypeId} {ti : TI} (hT : TIOk P t ti) (ho : ti.size ≤ sz) (h1 : ti.agg = false → ti.size = 1) :
    (loadVar t A).run P w = .ok (if ti.agg then .agg ((List.range ti.size).map g).toArray else g 0) w := by
  obtain ⟨i, z, hi, hsz, _⟩ := hT.info
  obtain ⟨d, hd, _, hag, _⟩ := hT.desc
  cases hb : ti.agg with
  | true =>
    rw [hb] at hag
    have hA : (isAgg t).run P w = .ok true w := by
      unfold isAgg
      cases d <;> simp at hag <;> simp [run_underlying hd]
    have hS : (sizeOf t).run P w = .ok ti.size w := by simp [sizeOf, typeInfo, hi, hsz]
    have hL := run_loadCells (P := P) w A ti.size g (fun j hj => hc j (by omega))
    simp only [loadVar, Sem.run_bind, hA, Result.andThen_ok, if_true, hS, hL, Sem.run_pure]
  | false =>
    rw [hb] at hag
    have hA : (isAgg t).run P w = .ok false w := by
      unfold isAgg
      cases d <;> simp at hag <;> simp [run_underlying hd]
    have h0 := hc 0 (by have := h1 hb; omega)
    simp only [Addr.add_zero'] at h0
    simp [loadVar, hA, h0]
end Go.Eng
end

/- Loads, stores, fields, elements: their results and that they are right. -/
section
namespace Go.Eng
open Go.RowKit
set_option linter.unusedVariables false

def lenS : List SV → Nat
  | [] => 0
  | _ :: l => lenS l + 1
theorem lenS_eq (l : List SV) : lenS l = l.length := by induction l <;> simp [lenS, *]
def cellsF (f : Nat → SV) : Nat → Nat → List SV
  | 0, _ => []
  | n + 1, k => f k :: cellsF f n (k + 1)
theorem cellsF_get (f : Nat → SV) : ∀ (n k i : Nat), (cellsF f n k)[i]? = if i < n then some (f (k + i)) else none
  | 0, k, i => by simp [cellsF]
  | n + 1, k, 0 => by simp [cellsF]
  | n + 1, k, i + 1 => by
    simp only [cellsF, List.getElem?_cons_succ, cellsF_get f n (k + 1) i]
    by_cases h : i < n
    · rw [if_pos h, if_pos (by omega)]; congr 2; omega
    · rw [if_neg h, if_neg (by omega)]
theorem cellsF_len (f : Nat → SV) : ∀ (n k : Nat), (cellsF f n k).length = n
  | 0, _ => rfl
  | n + 1, k => by simp [cellsF, cellsF_len f n (k + 1)]

def rLoad (ti : TI) (h : HS) (addr : SV) : Res :=
  match addr with
  | .ptr nm off => match getB h.blks nm with
    | .live _ cells => .val (off + ti.size ≤ lenS cells) (ofCells ti.agg ti.size cells off) h
    | _ => .bad
  | .rptr sz f => .val (ti.size ≤ sz) (if ti.agg then .agg (cellsF f ti.size 0) else f 0) h
  | .vptr id ver sz i off => match getV h.vecs id with
    | .live ver' _ sz' n f => .val (ver = ver' ∧ sz = sz' ∧ i < n ∧ off + ti.size ≤ sz) (if ti.agg then .agg (cellsF (fun j => f i (off + j)) ti.size 0) else f i off) h
    | .dead => .bad
  | _ => .bad

def LoadOk (P : Program) (E : Env) (h : HS) (w : World) (t : TypeId) (v : Value) : Res → Prop
  | .val p u h' => p → ∃ A val, v = .pointer (some A) ∧ (loadVar t A).run P w = .ok val w ∧ Den E w u val ∧ h' = h
  | .bad => True
  | _ => False
theorem rLoad_at {P : Program} {E : Env} {h : HS} {w : World} (hr : RelH E h w) {t : TypeId} {ti : TI} (hT : TIOk P t ti) {x : SV} {v : Value} (hd : Den E w x v) :
    LoadOk P E h w t v (rLoad ti h x) := by
  unfold rLoad
  split
  · rename_i nm off
    split
    · rename_i ty cells hb
      cases hd
      obtain ⟨cs, h1, h2, h3, h4⟩ := hr.blk _ _ _ hb
      intro hp
      rw [lenS_eq] at hp
      have hsz := h2.1
      refine ⟨_, _, rfl, (run_loadVar_own h1 hT off (by omega) hT.one), ?_, rfl⟩
      unfold ofCells
      cases hb : ti.agg with
      | true =>
        have hs := h2.sub off ti.size (by omega)
        refine .agg _ hs.1 (fun i u hu => ?_) hs.2
        rw [Array.getElem?_extract] at hu
        split at hu
        · exact h3 _ _ hu
        · cases hu
      | false => exact h2.nth off
    · trivial
  · rename_i sz f
    cases hd
    rename_i A g hA ho hc h1 hd
    intro hp
    refine ⟨_, _, rfl, (run_loadVar_at hc hT hp hT.one), ?_, rfl⟩
    cases hb : ti.agg with
    | true =>
      refine .agg _ (by simp [cellsF_len]) (fun i u hu => ?_) (fun i y u hy hu => ?_)
      · simp only [List.getElem?_toArray] at hu
        by_cases hi : i < ti.size
        · rw [List.getElem?_map, List.getElem?_range hi] at hu
          simp only [Option.map_some, Option.some.injEq] at hu
          rw [← hu]; exact h1 i (by omega)
        · rw [List.getElem?_eq_none (by simp; omega)] at hu; cases hu
      · rw [cellsF_get] at hy
        simp only [List.getElem?_toArray] at hu
        split at hy
        · rename_i hi
          rw [List.getElem?_map, List.getElem?_range hi] at hu
          simp only [Option.map_some, Option.some.injEq, Nat.zero_add] at hu hy
          rw [← hu, ← hy]; exact hd i (by omega)
        · cases hy
    | false => exact hd 0 (by have := hT.one hb; omega)
  · rename_i id ver sz i off
    split
    · rename_i ver' ty sz' n f hv
      rintro ⟨rfl, rfl, hi, hs⟩
      obtain ⟨h0, ⟨a, cap, k1, k2⟩, k3⟩ := hr.vec _ _ _ _ _ _ hv
      cases hd
      rename_i b n' cap' hid hval
      rw [k1] at hval
      simp only [Option.some.injEq, Prod.mk.injEq] at hval
      obtain ⟨rfl, rfl, rfl⟩ := hval
      rcases k2 with ⟨hk, _⟩ | ⟨g1, cur, hk, h2, h3, h4, h5, h6, h7, h8⟩
      · cases hk
      · cases hk
        have hlt : ∀ j, j < sz → i * sz + j < n * sz := fun j hj => idx_lt hi hj
        have hsz2 : n * sz ≤ cur.size := by rw [h5]; exact Nat.mul_le_mul_right _ h2
        by_cases hts : ti.size = 0
        · cases hb : ti.agg with
          | false => have := hT.one hb; omega
          | true =>
            have hl0 := run_loadVar_own (P := P) h4 hT (i * sz + off) (by have := hlt (sz - 1) (by omega); omega) hT.one
            rw [hb] at hl0
            refine ⟨_, _, rfl, hl0, ?_, rfl⟩
            simp only [hts, Nat.add_zero, if_true, cellsF]
            refine .agg _ (by simp; omega) (fun i u hu => ?_) (fun i x u hx => by simp at hx)
            rw [Array.getElem?_extract] at hu
            split at hu
            · omega
            · cases hu
        · have hl0 := run_loadVar_own (P := P) h4 hT (i * sz + off) (by have := hlt (off + ti.size - 1) (by omega); omega) hT.one
          refine ⟨_, _, rfl, hl0, ?_, rfl⟩
          have hget : ∀ j, off + j < sz → ∃ u, cur[i * sz + off + j]? = some u ∧ Den E w (f i (off + j)) u ∧ u.oneCell' = true := fun j hj => by
            have hl := hlt (off + j) hj
            have hlc : i * sz + off + j < cur.size := by omega
            refine ⟨cur[i * sz + off + j], Array.getElem?_eq_getElem hlc, h8 i (off + j) _ hi hj (by rw [← Nat.add_assoc]; exact Array.getElem?_eq_getElem hlc), h7 _ _ (by omega) (Array.getElem?_eq_getElem hlc)⟩
          cases hb : ti.agg with
          | true =>
            refine .agg _ (by simp [cellsF_len]; have := hlt (off + ti.size - 1) (by omega); omega) (fun j u hu => ?_) (fun j y u hy hu => ?_)
            · rw [Array.getElem?_extract] at hu
              split at hu
              · rename_i hj
                obtain ⟨u', e1, e2, e3⟩ := hget j (by omega)
                rw [e1] at hu; cases hu; exact e3
              · cases hu
            · rw [cellsF_get] at hy
              rw [Array.getElem?_extract] at hu
              split at hy
              · rename_i hj
                obtain ⟨u', e1, e2, e3⟩ := hget j (by omega)
                simp only [Option.some.injEq, Nat.zero_add] at hy
                split at hu
                · rw [e1] at hu; cases hu; rw [← hy]; exact e2
                · cases hu
              · cases hy
          | false =>
            have := hT.one hb
            obtain ⟨u', e1, e2, e3⟩ := hget 0 (by omega)
            simp only [Nat.add_zero] at e1 e2
            simp only [Bool.false_eq_true, if_false]
            have hlc : i * sz + off < cur.size := (Array.getElem?_eq_some_iff.1 e1).1
            simp only [Array.getD, hlc, dif_pos]
            have : cur[i * sz + off] = u' := by rw [Array.getElem?_eq_getElem hlc] at e1; exact Option.some.inj e1
            rw [show cur.getInternal (i * sz + off) hlc = u' from this]
            exact e2
    · trivial
  · trivial

theorem rLoad_ok {P : Program} {E : Env} {h : HS} {w : World} (hr : RelH E h w) {t : TypeId} {ti : TI} (hT : TIOk P t ti) {x : SV} {v : Value} (hd : Den E w x v) :
    ResOk P E h w ((Instr.loadAt t v >>= fun v => pure (Next.value v)).run P w) (rLoad ti h x) := by
  have h0 := rLoad_at hr hT hd
  cases hl : rLoad ti h x with
  | val p u h' =>
    rw [hl] at h0
    intro hp
    obtain ⟨A, val, rfl, h1, h2, rfl⟩ := h0 hp
    exact ⟨val, w, E, by simp [Instr.loadAt, Instr.sureAddr, h1], h2, hr, Ext.refl E w⟩
  | bad => trivial
  | skip p h' => rw [hl] at h0; exact h0.elim
  | fork _ _ _ _ => rw [hl] at h0; exact h0.elim
  | pan v => rw [hl] at h0; exact h0.elim
  | call g args => rw [hl] at h0; exact h0.elim
  | round _ _ _ _ _ => rw [hl] at h0; exact h0.elim
end Go.Eng
end

/- Stores, fields, elements, building. -/
section
namespace Go.Eng
open Go.RowKit
set_option linter.unusedVariables false

theorem over_len : ∀ (l : List SV) (n : Nat) (ys : List SV), (over l n ys).length = l.length
  | l, n, [] => rfl
  | l, n, y :: ys => by simp only [over]; rw [over_len]; simp [upd_eq]
theorem over_eq : ∀ (l : List SV) (n : Nat) (ys : List SV), n + ys.length ≤ l.length → over l n ys = l.take n ++ ys ++ l.drop (n + ys.length)
  | l, n, [], h => by simp [over]
  | l, n, y :: ys, h => by
    simp only [over]
    have hn : n < l.length := by simp at h; omega
    rw [over_eq _ _ _ (by simp [upd_eq] at h ⊢; omega), upd_eq]
    apply List.ext_getElem?
    intro k
    simp only [List.append_assoc, List.length_cons]
    by_cases h1 : k < n
    · rw [List.getElem?_append_left (by simp; omega), List.getElem?_append_left (by simp; omega), List.getElem?_take, List.getElem?_take, if_pos (by omega), if_pos h1, List.getElem?_set_ne (by omega)]
    · by_cases h2 : k = n
      · subst h2
        rw [List.getElem?_append_left (by simp; omega), List.getElem?_take, if_pos (by omega), List.getElem?_set_self hn, List.getElem?_append_right (by simp; omega)]
        simp [List.length_take, Nat.min_eq_left (Nat.le_of_lt hn)]
      · by_cases h3 : k < n + 1 + ys.length
        · rw [List.getElem?_append_right (by simp; omega), List.getElem?_append_left (by simp; omega), List.getElem?_append_right (by simp; omega)]
          simp only [List.length_take, List.length_set]
          rw [Nat.min_eq_left (by omega), Nat.min_eq_left (by omega)]
          rw [show k - n = (k - (n + 1)) + 1 by omega, List.cons_append, List.getElem?_cons_succ, List.getElem?_append_left (by omega)]
        · rw [List.getElem?_append_right (by simp; omega), List.getElem?_append_right (by simp; omega), List.getElem?_append_right (by simp; omega)]
          simp only [List.length_take, List.length_set]
          rw [Nat.min_eq_left (by omega), Nat.min_eq_left (by omega)]
          rw [show k - n = (k - (n + 1)) + 1 by omega, List.cons_append, List.getElem?_cons_succ, List.getElem?_append_right (by omega), List.getElem?_drop, List.getElem?_drop, List.getElem?_set_ne (by omega)]
          congr 1
          omega

theorem DenA.over {E : Env} {w : World} {l : List SV} {vs : Array Value} (hd : DenA E w l vs) {ys : List SV} {us : Array Value} (hu : DenA E w ys us) {off : Nat} (h : off + ys.length ≤ l.length) :
    DenA E w (over l off ys) (vs.toList.take off ++ us.toList ++ vs.toList.drop (off + us.toList.length)).toArray := by
  have hs := hd.1
  have hs2 := hu.1
  rw [over_eq _ _ _ h]
  refine ⟨by simp [hs2]; omega, fun i x u hx hux => ?_⟩
  simp only [List.getElem?_toArray] at hux
  by_cases h1 : i < off
  · rw [List.append_assoc, List.getElem?_append_left (by simp; omega), List.getElem?_take, if_pos h1] at hx hux
    exact hd.2 i x u hx (by simpa using hux)
  · by_cases h2 : i < off + ys.length
    · rw [List.append_assoc, List.getElem?_append_right (by simp; omega), List.getElem?_append_left (by simp; omega)] at hx hux
      simp only [List.length_take, Array.length_toList] at hx hux
      rw [Nat.min_eq_left (by omega)] at hx hux
      exact hu.2 _ x u hx (by simpa using hux)
    · rw [List.getElem?_append_right (by simp; omega)] at hx hux
      simp only [List.length_append, List.length_take, Array.length_toList] at hx hux
      rw [Nat.min_eq_left (by omega), List.getElem?_drop] at hx hux
      rw [hs2] at hux
      refine hd.2 _ x u hx ?_
      simpa using hux

theorem one_over {vs us : Array Value} (h1 : ∀ (k : Nat) (u : Value), vs[k]? = some u → u.oneCell' = true) (h2 : ∀ (k : Nat) (u : Value), us[k]? = some u → u.oneCell' = true) (off : Nat) :
    ∀ (k : Nat) (u : Value), (vs.toList.take off ++ us.toList ++ vs.toList.drop (off + us.toList.length)).toArray[k]? = some u → u.oneCell' = true := by
  intro k u hu
  have hm := List.mem_of_getElem? (by simpa using hu : (vs.toList.take off ++ (us.toList ++ vs.toList.drop (off + us.toList.length)))[k]? = some u)
  simp only [List.mem_append] at hm
  have hv : ∀ x ∈ vs.toList, x.oneCell' = true := fun x hx => by obtain ⟨j, hj⟩ := List.getElem?_of_mem hx; exact h1 j x (by simpa using hj)
  rcases hm with hm | hm | hm
  · exact hv _ (List.mem_of_mem_take hm)
  · obtain ⟨j, hj⟩ := List.getElem?_of_mem hm; exact h2 j u (by simpa using hj)
  · exact hv _ (List.mem_of_mem_drop hm)

def updF (f : Nat → Nat → SV) (i off size : Nat) (l : List SV) : Nat → Nat → SV := fun i' j' => if i' = i ∧ off ≤ j' ∧ j' < off + size then nth l (j' - off) else f i' j'

def rStore (ti : TI) (h : HS) (addr v : SV) : Res :=
  match cellsOf v with
  | none => .bad
  | some l => match addr with
    | .ptr nm off => match getB h.blks nm with
      | .live ty cells => .skip (lenS l = ti.size ∧ off + ti.size ≤ lenS cells) { h with blks := setB h.blks nm (.live ty (over cells off l)) }
      | _ => .bad
    | .vptr id ver sz i off => match getV h.vecs id with
      | .live ver' ty sz' n f => .skip (lenS l = ti.size ∧ ver = ver' ∧ sz = sz' ∧ i < n ∧ off + ti.size ≤ sz) { h with vecs := setV h.vecs id (.live ver' ty sz' n (updF f i off ti.size l)) }
      | .dead => .bad
    | _ => .bad

theorem run_storeVar_own {P : Program} {w : World} {g : Nat} {cs : Array Value} {ty : TypeId} (hg : w.heap[g]? = some (.cells cs ty (0, 0))) {t : TypeId} {ti : TI} (hT : TIOk P t ti) (off : Nat) (v : Value)
    (hs : v.cells.size = ti.size) (ho : off + ti.size ≤ cs.size) (h1 : ∀ (k : Nat) (u : Value), v.cells[k]? = some u → u.oneCell' = true) :
    (storeVar t ⟨g, off, none⟩ v).run P w = .ok () (w.setRow g (cs.toList.take off ++ v.cells.toList ++ cs.toList.drop (off + v.cells.toList.length)).toArray) := by
  obtain ⟨i, z, hi, hsz, _⟩ := hT.info
  have hst := run_storeCells_at P g off ty v.cells.toList 0 cs w hg (by simp [hs]; omega) (fun u hu => by obtain ⟨j, hj⟩ := List.getElem?_of_mem hu; exact h1 j u (by simpa using hj))
  simp only [Nat.add_zero] at hst
  simp [storeVar, sizeOf, typeInfo, hi, hs, hsz, hst]

/-- A write into an own slice's elements. -/
theorem RelH.vwrite {E : Env} {h : HS} {w : World} (hr : RelH E h w) {id ver : Nat} {ty : TypeId} {sz n : Nat} {f : Nat → Nat → SV} (hv : getV h.vecs id = .live ver ty sz n f)
    {g : Nat} {cap : Nat} (hval : E.val id ver = some (some ⟨g, 0, none⟩, n, cap)) {cur : Array Value} (hg : w.heap[g]? = some (.cells cur ty (0, 0))) (ho : E.own g = some (.vec id))
    (cs : Array Value) (f' : Nat → Nat → SV) (hs : cs.size = cur.size) (h1 : ∀ (k : Nat) (u : Value), k < n * sz → cs[k]? = some u → u.oneCell' = true)
    (hd : ∀ i j u, i < n → j < sz → cs[i * sz + j]? = some u → Den E w (f' i j) u) :
    RelH E { h with vecs := setV h.vecs id (.live ver ty sz n f') } (w.setRow g cs) ∧ Ext E w E (w.setRow g cs) := by
  have hx : Ext E w E (w.setRow g cs) := ext_setRow ho (by intro e; cases e) cs
  obtain ⟨h0, ⟨a, cap', k1, k2⟩, k3⟩ := hr.vec _ _ _ _ _ _ hv
  rw [hval] at k1
  simp only [Option.some.injEq, Prod.mk.injEq, true_and] at k1
  obtain ⟨rfl, rfl⟩ := k1
  refine ⟨hr.moved hv hx rfl rfl rfl (fun _ _ _ => rfl) (fun b t hb ht => ⟨setRow_other _ _ _ _ (fun e => ?_), rfl⟩) (fun b t hb => by simpa using hr.own b t hb) hval ?_ k3, hx⟩
  · subst e; rw [ho] at hb; cases hb; exact ht rfl
  · rcases k2 with ⟨hk, _⟩ | ⟨g1, cur1, hk, h2, h3, h4, h5, h6, h7, h8⟩
    · cases hk
    · cases hk
      rw [hg] at h4
      cases h4
      exact .inr ⟨g, cs, rfl, h2, h3, setRow_heap w g cur cs ty (0, 0) hg, hs.trans h5, ho, h1, fun i j u hi hj hu => (hd i j u hi hj hu).ext hx⟩

theorem rStore_ok {P : Program} {E : Env} {h : HS} {w : World} (hr : RelH E h w) {t : TypeId} {ti : TI} (hT : TIOk P t ti) {x y : SV} {vx vy : Value} (hx : Den E w x vx) (hy : Den E w y vy) :
    ResOk P E h w ((Instr.storeAt t vx vy >>= fun _ => (pure Next.skip : Sem Next)).run P w) (rStore ti h x y) := by
  have fin : ∀ (A : Addr) (w' : World), vx = .pointer (some A) → (storeVar t A vy).run P w = .ok () w' → (Instr.storeAt t vx vy >>= fun _ => (pure Next.skip : Sem Next)).run P w = .ok .skip w' := by
    rintro A w' rfl hl
    simp [Instr.storeAt, Instr.sureAddr, hl]
  unfold rStore
  split
  · trivial
  · rename_i l hl
    obtain ⟨d1, d2⟩ := cellsOf_den hy hl
    have hsz := d1.1
    split
    · rename_i nm off
      split
      · rename_i ty cells hb
        rintro ⟨p1, p2⟩
        rw [lenS_eq] at p1 p2
        cases hx
        obtain ⟨cs, a1, a2, a3, a4⟩ := hr.blk _ _ _ hb
        have hcs := a2.1
        refine ⟨_, E, fin _ _ rfl (run_storeVar_own a1 hT off vy (by omega) (by omega) d2), hr.write hb _ _ (a2.over d1 (by omega)) (one_over a3 d2 off), ext_setRow a4 (by intro e; cases e) _⟩
      · trivial
    · rename_i id ver sz i off
      split
      · rename_i ver' ty sz' n f hv
        rintro ⟨p1, rfl, rfl, hi, p2⟩
        rw [lenS_eq] at p1
        cases hx
        rename_i b n' cap' hid hval
        obtain ⟨h0, ⟨a, cap, k1, k2⟩, k3⟩ := hr.vec _ _ _ _ _ _ hv
        have hval' := k1
        rw [hval] at k1
        simp only [Option.some.injEq, Prod.mk.injEq] at k1
        obtain ⟨rfl, rfl, rfl⟩ := k1
        rcases k2 with ⟨hk, _⟩ | ⟨g1, cur, hk, h2, h3, h4, h5, h6, h7, h8⟩
        · cases hk
        · cases hk
          have hlt : ∀ j, j < sz → i * sz + j < n' * sz := fun j hj => idx_lt hi hj
          have hle : n' * sz ≤ cur.size := by rw [h5]; exact Nat.mul_le_mul_right _ h2
          have hbd : i * sz + off + ti.size ≤ n' * sz := by
            have : (i + 1) * sz ≤ n' * sz := Nat.mul_le_mul_right _ hi
            rw [Nat.add_mul] at this; omega
          have hvs : vy.cells.toList.length = ti.size := by simp; omega
          have hget : ∀ k, (cur.toList.take (i * sz + off) ++ vy.cells.toList ++ cur.toList.drop (i * sz + off + vy.cells.toList.length)).toArray[k]? = if i * sz + off ≤ k ∧ k < i * sz + off + ti.size then vy.cells[k - (i * sz + off)]? else cur[k]? := fun k => by
            simp only [List.getElem?_toArray]
            by_cases c1 : k < i * sz + off
            · rw [List.append_assoc, List.getElem?_append_left (by simp; omega), List.getElem?_take, if_pos c1, if_neg (by omega)]; simp
            · by_cases c2 : k < i * sz + off + ti.size
              · rw [List.append_assoc, List.getElem?_append_right (by simp; omega), List.getElem?_append_left (by simp; omega), if_pos (by omega)]
                simp only [List.length_take, Array.length_toList]
                rw [Nat.min_eq_left (by omega)]; simp
              · rw [List.getElem?_append_right (by simp; omega), if_neg (by omega), List.getElem?_drop]
                simp only [List.length_append, List.length_take, hvs, Array.length_toList]
                rw [Nat.min_eq_left (by omega)]
                have : i * sz + off + ti.size + (k - (i * sz + off + ti.size)) = k := by omega
                rw [this]; simp
          obtain ⟨r1, r2⟩ := hr.vwrite hv hval h4 h6 (cur.toList.take (i * sz + off) ++ vy.cells.toList ++ cur.toList.drop (i * sz + off + vy.cells.toList.length)).toArray (updF f i off ti.size l)
            (by simp only [List.size_toArray, List.length_append, List.length_take, List.length_drop, hvs, Array.length_toList]; omega)
            (fun k u hk hu => by
              rw [hget] at hu
              split at hu
              · exact d2 _ _ hu
              · exact h7 k u hk hu)
            (fun i' j u hi' hj hu => by
              rw [hget] at hu
              simp only [updF]
              by_cases c : i' = i ∧ off ≤ j ∧ j < off + ti.size
              · obtain ⟨rfl, c1, c2⟩ := c
                rw [if_pos ⟨rfl, c1, c2⟩]
                rw [if_pos (by omega)] at hu
                have e : i' * sz + j - (i' * sz + off) = j - off := by omega
                rw [e] at hu
                rw [nth_eq]
                have hjl : j - off < l.length := by omega
                have := d1.2 (j - off) l[j - off] u (List.getElem?_eq_getElem hjl) hu
                simpa [List.getD, List.getElem?_eq_getElem hjl] using this
              · rw [if_neg c]
                rw [if_neg ?_] at hu
                · exact h8 i' j u hi' hj hu
                · rintro ⟨c1, c2⟩
                  apply c
                  have hj2 : off + ti.size ≤ sz := p2
                  have : i' = i := by
                    rcases Nat.lt_trichotomy i' i with hlt' | heq | hgt
                    · have := Nat.mul_le_mul_right sz (Nat.succ_le_of_lt hlt')
                      rw [Nat.succ_mul] at this; omega
                    · exact heq
                    · have := Nat.mul_le_mul_right sz (Nat.succ_le_of_lt hgt)
                      rw [Nat.succ_mul] at this; omega
                  subst this
                  omega)
          exact ⟨_, E, fin _ _ rfl (run_storeVar_own h4 hT (i * sz + off) vy (by omega) (by omega) d2), r1, r2⟩
      · trivial
    · trivial
end Go.Eng
end

/- More operations. -/
section
namespace Go.Eng
open Go.RowKit
set_option linter.unusedVariables false

def nthO : List (Nat × Nat) → Nat → Option (Nat × Nat)
  | [], _ => none
  | x :: _, 0 => some x
  | _ :: l, n + 1 => nthO l n
theorem nthO_eq : ∀ (l : List (Nat × Nat)) (n : Nat), nthO l n = l[n]?
  | [], n => by simp [nthO]
  | x :: l, 0 => by simp [nthO]
  | x :: l, n + 1 => by simp [nthO, nthO_eq l n]

def rField (ti : TI) (h : HS) (x : SV) (k : Nat) : Res :=
  match ti.kind with
  | .struct offs => match nthO offs k with
    | some (o, _) => match x with
      | .ptr nm off => .val True (.ptr nm (off + o)) h
      | .rptr sz f => .val (o ≤ sz) (.rptr (sz - o) (fun j => f (o + j))) h
      | .vptr id ver sz i off => .val True (.vptr id ver sz i (off + o)) h
      | _ => .bad
    | none => .bad
  | _ => .bad

theorem rField_ok {P : Program} {E : Env} {h : HS} {w : World} (hr : RelH E h w) {t : TypeId} {ti : TI} (hT : TIOk P t ti) {x : SV} {v : Value} (hx : Den E w x v) (k : Nat) :
    ResOk P E h w ((Instr.fieldAt t v k >>= fun v => pure (Next.value v)).run P w) (rField ti h x k) := by
  unfold rField
  obtain ⟨d, hd, _, _, hk⟩ := hT.desc
  split
  · rename_i offs hko
    rw [hko] at hk
    obtain ⟨fs, rfl, hpl, hnz⟩ := hk
    split
    · rename_i o ft ho
      rw [nthO_eq] at ho
      obtain ⟨f, hf, rfl, i, hi, hi1⟩ := places_get _ _ hpl k o ft ho
      have hi0 : i.size ≠ 0 := by rw [hi1]; exact hnz _ (List.mem_of_getElem? ho)
      rw [Array.getElem?_toList] at hf
      have fin : ∀ (A : Addr), v = .pointer (some A) → (Instr.fieldAt t v k >>= fun v => pure (Next.value v)).run P w = .ok (.value (.pointer (some (A.add f.offset)))) w := by
        rintro A rfl
        simp [Instr.fieldAt, run_underlying hd, hf, Instr.sureAddr, fieldPlace, sizeOf, typeInfo, hi, hi0]
      split
      · cases hx
        rename_i hn
        refine ResOk.pure hr (fun _ => ?_) (.ptr hn)
        rw [fin _ rfl, Addr.add_lit]
      · rename_i sz g0
        cases hx
        rename_i A g hA hown hc h1 hd'
        intro hp
        refine ⟨_, w, E, fin _ rfl, ?_, hr, Ext.refl E w⟩
        refine .rptr (A.add f.offset) (fun j => g (f.offset + j)) (by rw [add_block]; exact hA) (by rw [add_block]; exact hown) (fun j hj => ?_) (fun j hj => h1 _ (by omega)) (fun j hj => hd' _ (by omega))
        rw [Addr.add_add]; exact hc _ (by omega)
      · cases hx
        rename_i id ver sz i0 off b n cap hid hval
        refine ResOk.pure hr (fun _ => ?_) (.vptr hid hval)
        rw [fin _ rfl, Addr.add_lit, Nat.add_assoc]
      · trivial
    · trivial
  · trivial

/-- How an element of a slice, or of an array behind a pointer, is reached. se: the size of an element. -/
def rIndex (ti : TI) (se : Nat) (h : HS) (x idx : SV) : Res :=
  match ti.kind, x, idx with
  | .slice _, .row n sz f, .int _ i => .val (se = sz ∧ 0 ≤ i ∧ i < (n : Int)) (.rptr sz (f i.toNat)) h
  | .slice _, .vec id ver, .int _ i => match getV h.vecs id with
    | .live ver' _ sz n _ => .val (ver = ver' ∧ se = sz ∧ 0 ≤ i ∧ i < (n : Int)) (.vptr id ver sz i.toNat 0) h
    | .dead => .bad
  | .array n _, .ptr nm off, .int _ i => .val (0 ≤ i ∧ i < (n : Int)) (.ptr nm (off + i.toNat * se)) h
  | _, _, _ => .bad

theorem rIndex_ok {P : Program} {E : Env} {h : HS} {w : World} (hr : RelH E h w) {t : TypeId} {ti te : TI} (hT : TIOk P t ti) (e : Nat) (hk : ti.kind = .slice e ∨ ∃ n, ti.kind = .array n e) (hE : TIOk P e te)
    {x y : SV} {v u : Value} (hx : Den E w x v) (hy : Den E w y u) :
    ResOk P E h w ((Instr.indexAt t v u >>= fun v => pure (Next.value v)).run P w) (rIndex ti te.size h x y) := by
  obtain ⟨d, hd, _, _, hkd⟩ := hT.desc
  obtain ⟨i0, z0, hi0, hs0, _⟩ := hE.info
  have hS : (sizeOf e).run P w = .ok te.size w := by simp [sizeOf, typeInfo, hi0, hs0]
  unfold rIndex
  split
  · rename_i e' n sz f k i hkk
    rw [hkk] at hkd hk
    have : e' = e := by rcases hk with hk | ⟨n, hk⟩ <;> simp at hk; exact hk
    subst this
    cases hy
    rintro ⟨hse, h0, h1⟩
    cases hx
    · rename_i A cap g hA ho hn hc hone hden
      have hi : i.toNat < n := by omega
      refine ⟨.pointer (some (A.add (i.toNat * te.size))), w, E, ?_, ?_, hr, Ext.refl E w⟩
      · simp [Instr.indexAt, asIntOf, run_underlying hd, hkd, h0, h1, hS]
      · rw [hse]
        refine .rptr _ (g i.toNat) (by rw [add_block]; exact hA) (by rw [add_block]; exact ho) (fun j hj => ?_) (fun j hj => hone _ _ hi hj) (fun j hj => hden _ _ hi hj)
        rw [Addr.add_add]; exact hc _ _ hi hj
    · omega
  · rename_i e' id ver k i hkk
    rw [hkk] at hkd hk
    have : e' = e := by rcases hk with hk | ⟨n, hk⟩ <;> simp at hk; exact hk
    subst this
    cases hy
    split
    · rename_i ver' ty sz n f hv
      rintro ⟨rfl, hse, h0, h1⟩
      obtain ⟨hz, ⟨a, cap, k1, k2⟩, k3⟩ := hr.vec _ _ _ _ _ _ hv
      cases hx
      rename_i a' n' cap' hid hval
      have hval' := hval
      rw [k1] at hval
      simp only [Option.some.injEq, Prod.mk.injEq] at hval
      obtain ⟨rfl, rfl, rfl⟩ := hval
      rcases k2 with ⟨_, h0', _⟩ | ⟨g1, cur, hk2, _⟩
      · omega
      · cases hk2
        refine ⟨.pointer (some ⟨g1, i.toNat * sz + 0, none⟩), w, E, ?_, .vptr hid hval', hr, Ext.refl E w⟩
        simp [Instr.indexAt, asIntOf, run_underlying hd, hkd, h0, h1, hS, hse, Addr.add_lit]
    · trivial
  · rename_i m e' nm off k i hkk
    rw [hkk] at hkd hk
    have : e' = e := by rcases hk with hk | ⟨n, hk⟩ <;> simp at hk; exact hk.2
    subst this
    cases hy
    rintro ⟨h0, h1⟩
    cases hx
    rename_i hn
    refine ⟨.pointer (some ⟨E.rho nm, off + i.toNat * te.size, none⟩), w, E, ?_, .ptr hn, hr, Ext.refl E w⟩
    simp [Instr.indexAt, asIntOf, run_underlying hd, hkd, h0, h1, hS, Instr.sureAddr, Addr.add_lit]
  · trivial

def rLen (ti : TI) (h : HS) (x : SV) : Res :=
  match ti.kind, x with
  | .slice _, .row n _ _ => .val True (.int .i64 (n : Int)) h
  | .slice _, .vec id ver => match getV h.vecs id with
    | .live ver' _ _ n _ => .val (ver = ver') (.int .i64 (n : Int)) h
    | .dead => .bad
  | _, _ => .bad

theorem rLen_ok {P : Program} {E : Env} {h : HS} {w : World} (hr : RelH E h w) {t : TypeId} {ti : TI} (hT : TIOk P t ti) {x : SV} {v : Value} (hx : Den E w x v) (tr : TypeId) :
    ResOk P E h w ((Builtin.len_ #[t] tr #[v] >>= fun v => pure (Next.value v)).run P w) (rLen ti h x) := by
  obtain ⟨d, hd, _, _, hkd⟩ := hT.desc
  unfold rLen
  split
  · rename_i e n sz f hk
    rw [hk] at hkd
    cases hx <;> exact ResOk.pure hr (fun _ => by simp [Builtin.len_, run_underlying hd, hkd, goInt]) (.int _ _)
  · rename_i e id ver hk
    rw [hk] at hkd
    split
    · rename_i ver' ty sz n f hv
      rintro rfl
      obtain ⟨hz, ⟨a, cap, k1, k2⟩, k3⟩ := hr.vec _ _ _ _ _ _ hv
      cases hx
      rename_i a' n' cap' hid hval
      rw [k1] at hval
      simp only [Option.some.injEq, Prod.mk.injEq] at hval
      obtain ⟨rfl, rfl, rfl⟩ := hval
      exact ⟨_, w, E, by simp [Builtin.len_, run_underlying hd, hkd, goInt], .int _ _, hr, Ext.refl E w⟩
    · trivial
  · trivial

def rUn (op : UnOp) (x : SV) (h : HS) : Res :=
  match op, x with
  | .not, .bool b => .val True (.bool (!b)) h
  | .neg, .int k n => .val True (.int k (k.wrap (0 - n))) h
  | _, _ => .bad
theorem rUn_ok {P : Program} {E : Env} {h : HS} {w : World} (hr : RelH E h w) (op : UnOp) {x : SV} {v : Value} (hx : Den E w x v) :
    ResOk P E h w ((Op.unary op v >>= fun v => pure (Next.value v)).run P w) (rUn op x h) := by
  unfold rUn
  split
  · cases hx; exact ResOk.pure hr (fun _ => by simp [Op.unary]) (.bool _)
  · cases hx; exact ResOk.pure hr (fun _ => by simp [Op.unary, Op.intArith]) (.int _ _)
  · trivial

def rConv (ti : TI) (x : SV) (h : HS) : Res :=
  match ti.kind, x with
  | .int k, .int _ n => .val True (.int k (k.wrap n)) h
  | _, _ => .bad
theorem rConv_ok {P : Program} {E : Env} {h : HS} {w : World} (hr : RelH E h w) (s t : TypeId) {ti ts : TI} (hT : TIOk P t ti) (hS : TIOk P s ts) {x : SV} {v : Value} (hx : Den E w x v) :
    ResOk P E h w ((convert s t v >>= fun v => pure (Next.value v)).run P w) (rConv ti x h) := by
  obtain ⟨d, hd, _, _, hkd⟩ := hT.desc
  obtain ⟨d', hd', _, _, _⟩ := hS.desc
  unfold rConv
  split
  · rename_i k k' n hk
    rw [hk] at hkd
    cases hx
    exact ResOk.pure hr (fun _ => by subst hkd; cases d' <;> simp [convert, run_underlying hd, run_underlying hd', Conv.intToInt]) (.int _ _)
  · trivial

def rMax (a b : SV) (h : HS) : Res :=
  match a, b with
  | .int k x, .int k' y => if k = k' then .val True (.int k (max x y)) h else .bad
  | _, _ => .bad
def rMin (a b : SV) (h : HS) : Res :=
  match a, b with
  | .int k x, .int k' y => if k = k' then .val True (.int k (min x y)) h else .bad
  | _, _ => .bad
theorem rMax_ok {P : Program} {E : Env} {h : HS} {w : World} (hr : RelH E h w) (ts : Array TypeId) (tr : TypeId) {a b : SV} {va vb : Value} (ha : Den E w a va) (hb : Den E w b vb) :
    ResOk P E h w ((Builtin.max_ ts tr #[va, vb] >>= fun v => pure (Next.value v)).run P w) (rMax a b h) := by
  unfold rMax
  split
  · cases ha; cases hb
    rename_i k x k' y
    split
    · rename_i e; subst e
      refine ResOk.pure hr (fun _ => ?_) (.int _ _)
      simp [Builtin.max_, Builtin.max2]
      split <;> omega
    · trivial
  · trivial
theorem rMin_ok {P : Program} {E : Env} {h : HS} {w : World} (hr : RelH E h w) (ts : Array TypeId) (tr : TypeId) {a b : SV} {va vb : Value} (ha : Den E w a va) (hb : Den E w b vb) :
    ResOk P E h w ((Builtin.min_ ts tr #[va, vb] >>= fun v => pure (Next.value v)).run P w) (rMin a b h) := by
  unfold rMin
  split
  · cases ha; cases hb
    rename_i k x k' y
    split
    · rename_i e; subst e
      refine ResOk.pure hr (fun _ => ?_) (.int _ _)
      simp [Builtin.min_, Builtin.min2]
      split <;> omega
    · trivial
  · trivial
end Go.Eng
end

/- Operations that make memory. -/
section
namespace Go.Eng
open Go.RowKit
set_option linter.unusedVariables false

/-- Zero cells: each nil slice becomes an own slice of length 0. -/
def zeroS : List ZC → HS → List SV × HS
  | [], h => ([], h)
  | .c x :: l, h => ((x :: (zeroS l h).1), (zeroS l h).2)
  | .sl e sz :: l, h => let r := zeroS l { h with vecs := snocV h.vecs (.live 0 e sz 0 (fun _ _ => .any)) }
    (.vec (lenV h.vecs) 0 :: r.1, r.2)

theorem zeroS_ok {w : World} : ∀ (l : List ZC) (us : List Value) (E : Env) (h : HS), RelH E h w → l.length = us.length →
    (∀ (k : Nat) (u : Value), us[k]? = some u → match l[k]? with | some (.c x) => x = svS u | some (.sl _ sz) => u = .slice none 0 0 ∧ 0 < sz | none => False) →
    ∃ E', RelH E' (zeroS l h).2 w ∧ Ext E w E' w ∧ (zeroS l h).1.length = us.length ∧ (∀ (k : Nat) (x : SV) (u : Value), (zeroS l h).1[k]? = some x → us[k]? = some u → Den E' w x u) ∧ (zeroS l h).2.blks = h.blks
  | [], us, E, h, hr, hl, hz => ⟨E, hr, Ext.refl E w, by simpa [zeroS] using hl, fun k x u hx => by simp [zeroS] at hx, rfl⟩
  | .c x :: l, us, E, h, hr, hl, hz => by
    cases us with
    | nil => simp at hl
    | cons u us =>
      obtain ⟨E', h1, h2, h3, h4, h5⟩ := zeroS_ok l us E h hr (by simpa using hl) (fun k v hk => hz (k + 1) v (by simpa using hk))
      refine ⟨E', h1, h2, by simp [zeroS, h3], fun k y v hy hv => ?_, h5⟩
      cases k with
      | zero =>
        simp [zeroS] at hy hv
        subst hy hv
        have := hz 0 u rfl
        simp at this
        subst this
        exact svS_den _ _ _
      | succ k => simp [zeroS] at hy hv; exact h4 k y v hy hv
  | .sl e sz :: l, us, E, h, hr, hl, hz => by
    cases us with
    | nil => simp at hl
    | cons u us =>
      have h0 := hz 0 u rfl
      simp at h0
      obtain ⟨rfl, hsz⟩ := h0
      obtain ⟨E', h1, h2, h3, h4, h5⟩ := zeroS_ok l us E.newV _ (hr.newVec e sz hsz (fun _ _ => .any)) (by simpa using hl) (fun k v hk => hz (k + 1) v (by simpa using hk))
      have hv0 : Den E' w (.vec (lenV h.vecs) 0) (.slice none 0 0) := by
        refine Den.ext h2 (.vec ?_ ?_)
        · simp only [Env.newV, hr.nv]; omega
        · simp [Env.newV, hr.nv]
      refine ⟨E', h1, (ext_newV E w).trans h2, by simp [zeroS, h3], fun k y v hy hv => ?_, h5⟩
      cases k with
      | zero => simp [zeroS] at hy hv; subst hy hv; exact hv0
      | succ k => simp [zeroS] at hy hv; exact h4 k y v hy hv

def rAlloc (ti : TI) (t : TypeId) (h : HS) : Res :=
  let r := zeroS ti.zero h
  .val True (.ptr (lenB r.2.blks) 0) { r.2 with blks := snocB r.2.blks (.live t r.1) }

theorem rAlloc_ok {P : Program} {E : Env} {h : HS} {w : World} (hr : RelH E h w) {t : TypeId} {ti : TI} (hT : TIOk P t ti) :
    ResOk P E h w ((Instr.alloc t true (.tuple #[]) >>= fun v => pure (Next.value v)).run P w) (rAlloc ti t h) := by
  obtain ⟨i, z, hi, hs, hb, hz, hzs, hzl, hzc⟩ := hT.info
  obtain ⟨E', h1, h2, h3, h4, h5⟩ := zeroS_ok (w := w) ti.zero z.cells.toList E h hr (by simp [hzl, hzs]) (fun k u hk => (hzc k u (by simpa using hk)).2)
  intro _
  have hd : DenA E' w (zeroS ti.zero h).1 z.cells := ⟨by simpa using h3.symm, fun k x u hx hu => h4 k x u hx (by simpa using hu)⟩
  have ha := h1.alloc t _ z.cells hd (fun k u hu => (hzc k u hu).1)
  have hx : Ext E' w (E'.newB w.heap.size) (w.alloc (.cells z.cells t)) := ext_alloc h1.own _ _ rfl
  refine ⟨.pointer (some ⟨w.heap.size, 0, none⟩), w.alloc (.cells z.cells t), E'.newB w.heap.size, ?_, ?_, ha, h2.trans hx⟩
  · simp [Instr.alloc, zeroValue, typeInfo, hi, hz, newVar, newRow]
  · have := h1.nb
    have hp : Den (E'.newB w.heap.size) (w.alloc (.cells z.cells t)) (.ptr (lenB (zeroS ti.zero h).2.blks) 0) (.pointer (some ⟨(E'.newB w.heap.size).rho (lenB (zeroS ti.zero h).2.blks), 0, none⟩)) := .ptr (by simp [Env.newB, ← this])
    have e : (E'.newB w.heap.size).rho (lenB (zeroS ti.zero h).2.blks) = w.heap.size := by simp [Env.newB, ← this]
    rwa [e] at hp

def rBox (t : TypeId) (x : SV) (h : HS) : Res :=
  match cellsOf x with
  | some l => .val True (.ptr (lenB h.blks) 0) { h with blks := snocB h.blks (.live t l) }
  | none => .bad
theorem rBox_ok {P : Program} {E : Env} {h : HS} {w : World} (hr : RelH E h w) (t : TypeId) {x : SV} {v : Value} (hx : Den E w x v) :
    ResOk P E h w ((Instr.box t v >>= fun v => pure (Next.value v)).run P w) (rBox t x h) := by
  unfold rBox
  split
  · rename_i l hl
    obtain ⟨d1, d2⟩ := cellsOf_den hx hl
    intro _
    have ha := hr.alloc t l v.cells d1 d2
    refine ⟨.pointer (some ⟨w.heap.size, 0, none⟩), w.alloc (.cells v.cells t), E.newB w.heap.size, ?_, ?_, ha, ext_alloc hr.own _ _ rfl⟩
    · simp [Instr.box, newVar, newRow]
    · have := hr.nb
      have hp : Den (E.newB w.heap.size) (w.alloc (.cells v.cells t)) (.ptr (lenB h.blks) 0) (.pointer (some ⟨(E.newB w.heap.size).rho (lenB h.blks), 0, none⟩)) := .ptr (by simp [Env.newB, ← this])
      have e : (E.newB w.heap.size).rho (lenB h.blks) = w.heap.size := by simp [Env.newB, ← this]
      rwa [e] at hp
  · trivial

/-- The zero cells where no slice is to grow. -/
def zc1 : ZC → SV
  | .c x => x
  | .sl _ _ => .row 0 1 (fun _ _ => .any)
def zcs : List ZC → List SV
  | [] => []
  | x :: l => zc1 x :: zcs l
theorem zcs_ok {E : Env} {w : World} : ∀ (l : List ZC) (us : List Value), l.length = us.length →
    (∀ (k : Nat) (u : Value), us[k]? = some u → match l[k]? with | some (.c x) => x = svS u | some (.sl _ sz) => u = .slice none 0 0 ∧ 0 < sz | none => False) →
    (zcs l).length = us.length ∧ ∀ (k : Nat) (x : SV) (u : Value), (zcs l)[k]? = some x → us[k]? = some u → Den E w x u
  | [], us, hl, hz => ⟨by simpa [zcs] using hl, fun k x u hx => by simp [zcs] at hx⟩
  | x :: l, us, hl, hz => by
    cases us with
    | nil => simp at hl
    | cons u us =>
      obtain ⟨h1, h2⟩ := zcs_ok (E := E) (w := w) l us (by simpa using hl) (fun k v hk => hz (k + 1) v (by simpa using hk))
      refine ⟨by simp [zcs, h1], fun k y v hy hv => ?_⟩
      cases k with
      | zero =>
        simp [zcs] at hy hv
        subst hy hv
        have h0 := hz 0 u rfl
        cases x with
        | c x => simp at h0; subst h0; exact svS_den _ _ _
        | sl e sz => simp at h0; obtain ⟨rfl, _⟩ := h0; exact .rowZ _ _
      | succ k => simp [zcs] at hy hv; exact h2 k y v hy hv

/-- Parts laid over cells: at off + (their place), each of the size that its place has. -/
def fillS (place : Nat → Option (Nat × Nat)) : List (Nat × SV) → List SV → Option (Prop × List SV)
  | [], cells => some (True, cells)
  | (i, x) :: r, cells => match place i, cellsOf x with
    | some (off, size), some l => match fillS place r (over cells off l) with
      | some (p, c) => some ((lenS l = size ∧ off + size ≤ lenS cells) ∧ p, c)
      | none => none
    | _, _ => none

theorem zipIdx_fold (off : Nat) : ∀ (us : List Value) (k : Nat) (cs : Array Value), off + k + us.length ≤ cs.size →
    (us.zipIdx k).foldl (fun cs (c, j) => cs.setIfInBounds (off + j) c) cs = (cs.toList.take (off + k) ++ us ++ cs.toList.drop (off + k + us.length)).toArray
  | [], k, cs, h => by simp
  | u :: us, k, cs, h => by
    simp only [List.zipIdx_cons, List.foldl_cons]
    simp only [List.length_cons] at h
    rw [zipIdx_fold off us (k + 1) (cs.setIfInBounds (off + k) u) (by simp; omega)]
    apply Array.ext'
    simp only [Array.toList_setIfInBounds, List.length_cons]
    apply List.ext_getElem?
    intro j
    simp only [List.append_assoc]
    have hk : off + k < cs.toList.length := by simp; omega
    by_cases h1 : j < off + k
    · rw [List.getElem?_append_left (by simp; omega), List.getElem?_append_left (by simp; omega), List.getElem?_take, List.getElem?_take, if_pos (by omega), if_pos h1, List.getElem?_set_ne (by omega)]
    · by_cases h2 : j = off + k
      · subst h2
        rw [List.getElem?_append_left (by simp; omega), List.getElem?_take, if_pos (by omega), List.getElem?_set_self hk, List.getElem?_append_right (by simp; omega)]
        simp only [List.length_take]
        rw [Nat.min_eq_left (by omega)]
        simp
      · by_cases h3 : j < off + k + 1 + us.length
        · rw [List.getElem?_append_right (by simp; omega), List.getElem?_append_left (by simp; omega), List.getElem?_append_right (by simp; omega)]
          simp only [List.length_take, List.length_set]
          rw [Nat.min_eq_left (by omega), Nat.min_eq_left (by omega)]
          rw [show j - (off + k) = (j - (off + (k + 1))) + 1 by omega, List.cons_append, List.getElem?_cons_succ, List.getElem?_append_left (by omega)]
        · rw [List.getElem?_append_right (by simp; omega), List.getElem?_append_right (by simp; omega), List.getElem?_append_right (by simp; omega)]
          simp only [List.length_take, List.length_set]
          rw [Nat.min_eq_left (by omega), Nat.min_eq_left (by omega)]
          rw [show j - (off + k) = (j - (off + (k + 1))) + 1 by omega, List.cons_append, List.getElem?_cons_succ, List.getElem?_append_right (by omega), List.getElem?_drop, List.getElem?_drop, List.getElem?_set_ne (by omega)]
          congr 1
          omega

theorem fillS_ok {E : Env} {w : World} {place : Nat → Option (Nat × Nat)} {place' : Nat → Option (Nat × Nat)} (hp : ∀ i x, place i = some x → place' i = some x) : ∀ (ps : List (Nat × SV)) (vs : List (Nat × Value)) (cells : List SV) (cs : Array Value),
    ps.length = vs.length → (∀ (k : Nat) (x : Nat × SV) (y : Nat × Value), ps[k]? = some x → vs[k]? = some y → x.1 = y.1 ∧ Den E w x.2 y.2) → DenA E w cells cs → (∀ (k : Nat) (u : Value), cs[k]? = some u → u.oneCell' = true) →
    ∀ p c, fillS place ps cells = some (p, c) → p → ∃ cs', Instr.fill place' cs vs = some cs' ∧ DenA E w c cs' ∧ (∀ (k : Nat) (u : Value), cs'[k]? = some u → u.oneCell' = true)
  | [], vs, cells, cs, hl, hd, hc, h1, p, c, hf, hp' => by
    cases vs with
    | nil => simp [fillS] at hf; obtain ⟨_, rfl⟩ := hf; exact ⟨cs, rfl, hc, h1⟩
    | cons v vs => simp at hl
  | (i, x) :: ps, vs, cells, cs, hl, hd, hc, h1, p, c, hf, hp' => by
    cases vs with
    | nil => simp at hl
    | cons y vs =>
      obtain ⟨i', v⟩ := y
      obtain ⟨e, hx⟩ := hd 0 (i, x) (i', v) rfl rfl
      simp only at e hx
      subst e
      simp only [fillS] at hf
      cases hpl : place i with
      | none => simp [hpl] at hf
      | some os =>
        obtain ⟨off, size⟩ := os
        cases hcl : cellsOf x with
        | none => simp [hpl, hcl] at hf
        | some l =>
          simp only [hpl, hcl] at hf
          cases hff : fillS place ps (over cells off l) with
          | none => simp [hff] at hf
          | some pc =>
            obtain ⟨p', c'⟩ := pc
            simp only [hff, Option.some.injEq, Prod.mk.injEq] at hf
            obtain ⟨rfl, rfl⟩ := hf
            obtain ⟨⟨q1, q2⟩, q3⟩ := hp'
            rw [lenS_eq] at q1 q2
            obtain ⟨d1, d2⟩ := cellsOf_den hx hcl
            have hsz := d1.1
            have hcs := hc.1
            have hcond : ¬ (v.cells.size ≠ size ∨ cs.size < off + v.cells.size) := by omega
            obtain ⟨cs', r1, r2, r3⟩ := fillS_ok hp ps vs (over cells off l) _ (by simpa using hl) (fun k x y hx hy => hd (k + 1) x y (by simpa using hx) (by simpa using hy)) (hc.over d1 (by omega)) (one_over h1 d2 off) p' c' hff q3
            refine ⟨cs', ?_, r2, r3⟩
            simp only [Instr.fill, hp i _ hpl]
            have hzf := zipIdx_fold off v.cells.toList 0 cs (by simp; omega)
            simp only [Nat.add_zero] at hzf
            have : ((v.cells.size ≠ size || decide (off + v.cells.size > cs.size)) : Bool) = false := by simp; omega
            simp only [this, Bool.false_eq_true, if_false]
            rw [← Array.foldl_toList, Array.toList_zipIdx, hzf]
            exact r1
end Go.Eng
end

/- Building values and slices, interfaces, appends; then one operation of any kind. -/
section
namespace Go.Eng
open Go.RowKit
set_option linter.unusedVariables false

def placeS (offs : List (Nat × Nat)) : Nat → Option (Nat × Nat) := fun k => nthO offs k
def placeA (se : Nat) : Nat → Option (Nat × Nat) := fun k => some (k * se, se)

def evP (t : List SV) : List (Nat × Operand) → List (Nat × SV)
  | [] => []
  | (i, x) :: r => (i, ev t x) :: evP t r
theorem evP_den {E : Env} {w : World} {t : List SV} {a : Act} (h : DenA E w t a.tmps) : ∀ (ps : List (Nat × Operand)), (evP t ps).length = (ps.map fun (i, x) => (i, a.eval x)).length ∧
    ∀ (k : Nat) (x : Nat × SV) (y : Nat × Value), (evP t ps)[k]? = some x → (ps.map fun (i, x) => (i, a.eval x))[k]? = some y → x.1 = y.1 ∧ Den E w x.2 y.2
  | [] => ⟨rfl, fun k x y hx => by simp [evP] at hx⟩
  | (i, x) :: r => by
    obtain ⟨h1, h2⟩ := evP_den h r
    refine ⟨by simp [evP, h1], fun k y z hy hz => ?_⟩
    cases k with
    | zero => simp [evP] at hy hz; subst hy hz; exact ⟨rfl, ev_den h x⟩
    | succ k => simp only [evP, List.getElem?_cons_succ, List.map_cons] at hy hz; exact h2 k y z hy hz

def fin2 (r : Option (Prop × List SV)) (h : HS) : Res :=
  match r with
  | some (p, c) => .val p (.agg c) h
  | none => .bad
/-- te: the element's table, for an array. -/
def rBuild (ti : TI) (se : Nat) (ps : List (Nat × SV)) (h : HS) : Res :=
  match ti.kind with
  | .struct offs => fin2 (fillS (placeS offs) ps (zcs ti.zero)) h
  | .array _ _ => fin2 (fillS (placeA se) ps (zcs ti.zero)) h
  | _ => .bad

theorem rBuild_ok {P : Program} {E : Env} {h : HS} {w : World} (hr : RelH E h w) {t : TypeId} {ti : TI} (hT : TIOk P t ti) (se : Nat) (hse : ∀ n e, ti.kind = .array n e → ∃ i, P.info? e = some i ∧ i.size = se)
    {ps : List (Nat × SV)} {vs : Array (Nat × Value)} (hl : ps.length = vs.toList.length) (hd : ∀ (k : Nat) (x : Nat × SV) (y : Nat × Value), ps[k]? = some x → vs.toList[k]? = some y → x.1 = y.1 ∧ Den E w x.2 y.2) :
    ResOk P E h w ((Instr.build t vs >>= fun v => pure (Next.value v)).run P w) (rBuild ti se ps h) := by
  obtain ⟨i, z, hi, hs, hb, hz, hzs, hzl, hzc⟩ := hT.info
  obtain ⟨d, hdd, _, _, hkd⟩ := hT.desc
  obtain ⟨z1, z2⟩ := zcs_ok (E := E) (w := w) ti.zero z.cells.toList (by simp [hzl, hzs]) (fun k u hk => (hzc k u (by simpa using hk)).2)
  have hz0 : DenA E w (zcs ti.zero) z.cells := ⟨by simpa using z1.symm, fun k x u hx hu => z2 k x u hx (by simpa using hu)⟩
  unfold rBuild
  split
  · rename_i offs hk
    rw [hk] at hkd
    obtain ⟨fs, rfl, hpl, _⟩ := hkd
    unfold fin2
    split
    · rename_i p c hf
      intro hp
      obtain ⟨cs', r1, r2, r3⟩ := fillS_ok (place' := fun k => offs.toArray[k]?) (fun k x hx => by simpa [placeS, nthO_eq] using hx) ps vs.toList _ _ hl hd hz0 (fun k u hu => (hzc k u hu).1) p c hf hp
      have hbuilt : P.built t vs.toList = some cs' := by
        simp only [Program.built, hi, hdd, hz, hpl]; exact r1
      exact ⟨.agg cs', w, E, by simp [run_build w t vs cs' hbuilt], .agg cs' r2.1 r3 r2.2, hr, Ext.refl E w⟩
    · trivial
  · rename_i n e hk
    rw [hk] at hkd
    subst hkd
    obtain ⟨ie, hie, hies⟩ := hse n e hk
    unfold fin2
    split
    · rename_i p c hf
      intro hp
      obtain ⟨cs', r1, r2, r3⟩ := fillS_ok (place' := fun k => some (k * ie.size, ie.size)) (fun k x hx => by rw [hies]; simpa [placeA] using hx) ps vs.toList _ _ hl hd hz0 (fun k u hu => (hzc k u hu).1) p c hf hp
      have hbuilt : P.built t vs.toList = some cs' := by
        simp only [Program.built, hi, hdd, hz, hie]; exact r1
      exact ⟨.agg cs', w, E, by simp [run_build w t vs cs' hbuilt], .agg cs' r2.1 r3 r2.2, hr, Ext.refl E w⟩
    · trivial
  · trivial

def repZ (z : List SV) : Nat → List SV
  | 0 => []
  | n + 1 => z ++ repZ z n
def cellAt (cells : List SV) (sz : Nat) : Nat → Nat → SV := fun i j => nth cells (i * sz + j)
def oneF (cells : List SV) : Nat → Nat → SV := fun _ j => nth cells j
def fin3 (r : Option (Prop × List SV)) (len sz : Nat) (h : HS) : Res :=
  match r with
  | some (p, c) => .val (p ∧ 0 < sz ∧ 0 < len ∧ len * sz ≤ 16777216) (.row len sz (if len = 1 then oneF c else cellAt c sz)) h
  | none => .bad
def rBuildSlice (e : TypeId) (te : TI) (len : Nat) (ps : List (Nat × SV)) (h : HS) : Res :=
  match len, ps with
  | 0, [] => .val (0 < te.size) (.vec (lenV h.vecs) 0) { h with vecs := snocV h.vecs (.live 0 e te.size 0 (fun _ _ => .any)) }
  | _, _ => fin3 (fillS (placeA te.size) ps (repZ (zcs te.zero) len)) len te.size h

theorem fillS_len {place : Nat → Option (Nat × Nat)} : ∀ (ps : List (Nat × SV)) (cells : List SV) (p : Prop) (c : List SV), fillS place ps cells = some (p, c) → c.length = cells.length
  | [], cells, p, c, h => by simp [fillS] at h; rw [h.2]
  | (i, x) :: ps, cells, p, c, h => by
    simp only [fillS] at h
    cases hpl : place i with
    | none => simp [hpl] at h
    | some os =>
      obtain ⟨off, size⟩ := os
      cases hcl : cellsOf x with
      | none => simp [hpl, hcl] at h
      | some l =>
        simp only [hpl, hcl] at h
        cases hff : fillS place ps (over cells off l) with
        | none => simp [hff] at h
        | some pc =>
          obtain ⟨p', c'⟩ := pc
          simp only [hff, Option.some.injEq, Prod.mk.injEq] at h
          obtain ⟨_, rfl⟩ := h
          rw [fillS_len ps _ _ _ hff, over_len]

def Env.newVO (E : Env) (g : Nat) : Env :=
  { E with nv := E.nv + 1, val := fun id ver => if id = E.nv then (if ver = 0 then some (some ⟨g, 0, none⟩, 0, 0) else none) else E.val id ver, own := fun k => if k = g then some (.vec E.nv) else E.own k }
theorem RelH.newVecO {E : Env} {h : HS} {w : World} (hr : RelH E h w) (ty : TypeId) (sz : Nat) (hsz : 0 < sz) (f : Nat → Nat → SV) :
    RelH (E.newVO w.heap.size) { h with vecs := snocV h.vecs (.live 0 ty sz 0 f) } (w.alloc (.cells #[] ty)) ∧ Ext E w (E.newVO w.heap.size) (w.alloc (.cells #[] ty)) := by
  have hx : Ext E w (E.newVO w.heap.size) (w.alloc (.cells #[] ty)) :=
    ⟨rfl, rfl, rfl, by simp, Nat.le_refl _, by simp [Env.newVO], fun _ _ => rfl, fun id ver x hi hv => by simp only [Env.newVO]; rw [if_neg (by omega)]; exact hv,
      fun b hb h => ⟨by simp only [Env.newVO]; rw [if_neg (by omega)]; exact h, Below.heap_alloc w _ b hb⟩,
      fun b h => ⟨by have := hr.own b _ h; simp only [Env.newVO]; rw [if_neg (by omega)]; exact h, Below.heap_alloc w _ b (hr.own b _ h)⟩⟩
  have hold : ∀ b, b < w.heap.size → (w.alloc (.cells #[] ty)).heap[b]? = w.heap[b]? := fun b hb => Below.heap_alloc w _ b hb
  refine ⟨⟨hr.nb, by simp [Env.newVO, lenV_snoc, hr.nv], ?_, ?_, ?_, fun nm st pend fid t params assign body hb => (hr.lp _ _ _ _ _ _ _ _ hb).ext hx (fun ho => ⟨rfl, hold _ (hr.own _ _ ho), by have := hr.own _ _ ho; simp only [Env.newVO]; rw [if_neg (by omega)]⟩)⟩, hx⟩
  · intro nm ty' cells hb
    obtain ⟨cs, a1, a2, a3, a4⟩ := hr.blk nm ty' cells hb
    have hlt := hr.own _ _ a4
    exact ⟨cs, (hold _ hlt).trans a1, a2.ext hx, a3, by simp only [Env.newVO]; rw [if_neg (by omega)]; exact a4⟩
  · intro id ver ty' sz' n f' hv
    simp only [getV_snoc] at hv
    split at hv
    · rename_i e
      cases hv
      have e' : id = E.nv := e.trans hr.nv.symm
      refine ⟨hsz, ⟨some ⟨w.heap.size, 0, none⟩, 0, by simp [Env.newVO, e'], .inr ⟨w.heap.size, #[], rfl, Nat.le_refl _, by simp [maxLen], heap_alloc_new w _, by simp, by simp [Env.newVO, e'], fun k u hk => by simp at hk, fun i j u hi => by omega⟩⟩, fun v' hv' => ?_⟩
      simp only [Env.newVO, e', if_true]
      rw [if_neg (by omega)]
    · rename_i e
      have e' : id ≠ E.nv := fun e' => e (e'.trans hr.nv)
      obtain ⟨h0, ⟨a, cap, k1, k2⟩, k3⟩ := hr.vec id ver ty' sz' n f' hv
      refine ⟨h0, ⟨a, cap, by simp only [Env.newVO, e', if_false]; exact k1, k2.ext hx (fun g hg => ⟨hold g (hr.own _ _ hg), by have := hr.own _ _ hg; simp only [Env.newVO]; rw [if_neg (by omega)]⟩)⟩, fun v' hv' => by simp only [Env.newVO, e', if_false]; exact k3 v' hv'⟩
  · intro b t hb
    simp only [Env.newVO] at hb
    split at hb
    · rename_i e; subst e; simp
    · have := hr.own b t hb; simp; omega

theorem repZ_get (z : List SV) (hz : 0 < z.length) : ∀ (n k : Nat), k < n * z.length → (repZ z n)[k]? = z[k % z.length]?
  | 0, k, h => by simp at h
  | n + 1, k, h => by
    simp only [repZ]
    by_cases hk : k < z.length
    · rw [List.getElem?_append_left hk, Nat.mod_eq_of_lt hk]
    · have h2 : (n + 1) * z.length = n * z.length + z.length := by rw [Nat.add_mul, Nat.one_mul]
      rw [List.getElem?_append_right (by omega), repZ_get z hz n _ (by omega), ← Nat.mod_eq_sub_mod (by omega)]
theorem repZ_len (z : List SV) : ∀ n, (repZ z n).length = n * z.length
  | 0 => by simp [repZ]
  | n + 1 => by simp [repZ, repZ_len z n, Nat.add_mul, Nat.add_comm]

theorem rBuildSlice_ok {P : Program} {E : Env} {h : HS} {w : World} (hr : RelH E h w) {t e : TypeId} {te : TI} (ht : P.underlying t = some (.slice e)) (hE : TIOk P e te) (len : Nat)
    {ps : List (Nat × SV)} {vs : Array (Nat × Value)} (hl : ps.length = vs.toList.length) (hd : ∀ (k : Nat) (x : Nat × SV) (y : Nat × Value), ps[k]? = some x → vs.toList[k]? = some y → x.1 = y.1 ∧ Den E w x.2 y.2) :
    ResOk P E h w ((Instr.buildSlice t len vs >>= fun v => pure (Next.value v)).run P w) (rBuildSlice e te len ps h) := by
  obtain ⟨i, z, hi, hs, hb, hz, hzs, hzl, hzc⟩ := hE.info
  have hS : (sizeOf e).run P w = .ok te.size w := by simp [sizeOf, typeInfo, hi, hs]
  unfold rBuildSlice
  split
  · -- an empty literal
    intro hsz
    obtain ⟨vl⟩ := vs
    have hv : vl = [] := by simpa using hl.symm
    subst hv
    obtain ⟨h1, h2⟩ := hr.newVecO e te.size hsz (fun _ _ => .any)
    refine ⟨.slice (some ⟨w.heap.size, 0, none⟩) 0 0, _, _, ?_, .vec (by simp only [Env.newVO, hr.nv]; omega) (by simp [Env.newVO, hr.nv]), h1, h2⟩
    have hr0 : Array.range 0 = #[] := by apply Array.ext'; simp
    simp [Instr.buildSlice, run_underlying ht, hS, Instr.fill, newRow, hr0]
  unfold fin3
  split
  · rename_i p c hf
    rintro ⟨hp, hsz, hlen, hbig⟩
    have h0 : len * te.size ≠ 0 := by have := Nat.mul_pos hlen hsz; omega
    obtain ⟨z1, z2⟩ := zcs_ok (E := E) (w := w) te.zero z.cells.toList (by simp [hzl, hzs]) (fun k u hk => (hzc k u (by simpa using hk)).2)
    have hzlen : (zcs te.zero).length = te.size := by rw [z1]; simp [hzs]
    have key : ∀ (k : Nat) (u : Value), ((Array.range (len * te.size)).map (fun k => z.cells[k % z.cells.size]!))[k]? = some u → k < len * te.size ∧ z.cells[k % te.size]? = some u := by
      intro k u hu
      rw [Array.getElem?_map, Array.getElem?_range] at hu
      by_cases hk : k < len * te.size
      · rw [if_pos hk] at hu
        simp only [Option.map_some, Option.some.injEq] at hu
        refine ⟨hk, ?_⟩
        rw [← hu, hzs]
        have : k % te.size < z.cells.size := by rw [hzs]; exact Nat.mod_lt _ hsz
        rw [Array.getElem?_eq_getElem this, getElem!_pos z.cells _ this]
      · rw [if_neg hk] at hu; simp at hu
    have b1 : DenA E w (repZ (zcs te.zero) len) ((Array.range (len * te.size)).map (fun k => z.cells[k % z.cells.size]!)) := by
      refine ⟨by simp [repZ_len, hzlen], fun k x u hx hu => ?_⟩
      obtain ⟨hk, hu'⟩ := key k u hu
      rw [repZ_get _ (by omega) _ _ (by rw [hzlen]; exact hk), hzlen] at hx
      exact z2 _ x u hx (by simpa using hu')
    obtain ⟨cs', r1, r2, r3⟩ := fillS_ok (place' := fun k => some (k * te.size, te.size)) (fun k x hx => by simpa [placeA] using hx) ps vs.toList _ _ hl hd b1 (fun k u hu => (hzc _ u (key k u hu).2).1) p c hf hp
    have hrun : (Instr.buildSlice t len vs).run P w = .ok (.slice (some ⟨w.heap.size, 0, none⟩) len len) (w.alloc (.cells cs' e)) := by
      have hbig' : ¬ (16777216 < len * te.size) := by omega
      have hz0 : (zeroValue e).run P w = .ok z w := by simp [zeroValue, typeInfo, hi, hz]
      simp only [Instr.buildSlice, Sem.run_bind, run_underlying ht, Result.andThen_ok, hS]
      rw [if_neg (by simpa using hbig'), if_neg h0]
      simp only [Sem.run_bind, Sem.run_pure, hz0, Result.andThen_ok, r1]
      simp [newRow]
    have hx : Ext E w E (w.alloc (.cells cs' e)) := ext_of_grow hr.own rfl rfl rfl (by simp) (fun b hb => Below.heap_alloc w _ b hb)
    have hq : RelH E h (w.alloc (.cells cs' e)) := hr.quiet hx (fun b hb => Below.heap_alloc w _ b hb)
    refine ⟨.slice (some ⟨w.heap.size, 0, none⟩) len len, _, E, by simp [hrun], ?_, hq, hx⟩
    have hown : E.own w.heap.size = none := by
      cases ho : E.own w.heap.size with
      | none => rfl
      | some t => exact absurd (hr.own _ _ ho) (by omega)
    have hcl : c.length = len * te.size := by rw [fillS_len _ _ _ _ hf, repZ_len, hzlen]
    have hcsz : cs'.size = len * te.size := r2.1.trans hcl
    have hget : ∀ i j, i < len → j < te.size → cs'[i * te.size + j]? = some (cs'.getD (i * te.size + j) undef) := fun i j hi' hj => by
      have := idx_lt hi' hj
      have h3 : i * te.size + j < cs'.size := by omega
      simp [Array.getD, h3]
    refine .row ⟨w.heap.size, 0, none⟩ len (fun i j => cs'.getD (i * te.size + j) undef) (by simp) hown (Nat.le_refl _) (fun i j hi' hj => ?_) (fun i j hi' hj => r3 _ _ (hget i j hi' hj)) (fun i j hi' hj => ?_)
    · rw [Addr.add_lit, Nat.zero_add, ← hget i j hi' hj]
      simp only [World.cell?, heap_alloc_new]
      simp
    · have hk := idx_lt hi' hj
      have hden : Den E (w.alloc (.cells cs' e)) (nth c (i * te.size + j)) (cs'.getD (i * te.size + j) undef) := (r2.nth _).ext hx
      split
      · rename_i e1
        subst e1
        have : i = 0 := by omega
        subst this
        simpa [oneF] using hden
      · exact hden
  · trivial
end Go.Eng
end

/- One operation of any kind. -/
section
namespace Go.Eng
open Go.RowKit
set_option linter.unusedVariables false

def rIface (ti : TI) (t : TypeId) (x : SV) (h : HS) : Res := if ti.ifc then .bad else .val True (.iface t x) h
theorem rIface_ok {P : Program} {E : Env} {h : HS} {w : World} (hr : RelH E h w) {t : TypeId} {ti : TI} (hT : TIOk P t ti) {x : SV} {v : Value} (hx : Den E w x v) :
    ResOk P E h w ((Instr.makeInterface t v >>= fun v => pure (Next.value v)).run P w) (rIface ti t x h) := by
  obtain ⟨d, hd, hifc, _⟩ := hT.desc
  unfold rIface
  split
  · trivial
  · rename_i hn
    refine ResOk.pure hr (fun _ => ?_) (.iface hx)
    cases d <;> simp at hifc <;> first | (simp [Instr.makeInterface, run_underlying hd]; done) | (exact absurd hifc hn)

def rExtract (x : SV) (i : Nat) (h : HS) : Res :=
  match x with
  | .tup l => .val (i < lenS l) (nth l i) h
  | _ => .bad
theorem rExtract_ok {P : Program} {E : Env} {h : HS} {w : World} (hr : RelH E h w) {x : SV} {v : Value} (hx : Den E w x v) (i : Nat) :
    ResOk P E h w ((Instr.extract v i >>= fun v => pure (Next.value v)).run P w) (rExtract x i h) := by
  unfold rExtract
  split
  · cases hx
    rename_i l vs hs hd
    intro hi
    rw [lenS_eq] at hi
    have hi' : i < vs.size := by omega
    refine ⟨vs[i], w, E, by simp [Instr.extract, hi'], ?_, hr, Ext.refl E w⟩
    rw [nth_eq]
    simpa [List.getD, List.getElem?_eq_getElem hi] using hd i l[i] vs[i] (List.getElem?_eq_getElem hi) (Array.getElem?_eq_getElem hi')
  · trivial

def zeroV (ti : TI) : SV := if ti.agg then .agg (zcs ti.zero) else nth (zcs ti.zero) 0
def rAssert (ti : TI) (t : TypeId) (x : SV) (ok : Bool) (h : HS) : Res :=
  if ti.ifc then .bad else
  match x with
  | .iface t' v => if t' = t then .val True (if ok then .tup [v, .bool true] else v) h else .bad
  | _ => .bad
theorem rAssert_ok {P : Program} {E : Env} {h : HS} {w : World} (hr : RelH E h w) {t : TypeId} {ti : TI} (hT : TIOk P t ti) {x : SV} {v : Value} (hx : Den E w x v) (xt : TypeId) (ok : Bool) :
    ResOk P E h w ((Instr.typeAssert v xt t ok >>= fun v => pure (Next.value v)).run P w) (rAssert ti t x ok h) := by
  obtain ⟨d, hd, hifc, _⟩ := hT.desc
  unfold rAssert
  split
  · trivial
  · rename_i hn
    split
    · cases hx
      rename_i t' y u hy
      split
      · rename_i e
        subst e
        cases ok with
        | true =>
          refine ResOk.pure (val := .tuple #[u, .bool true]) hr (fun _ => ?_) (.tup _ rfl (fun i a b ha hb => ?_))
          · cases d <;> simp at hifc <;> first | (simp [Instr.typeAssert, run_underlying hd]; done) | (exact absurd hifc hn)
          · match i, ha, hb with
            | 0, ha, hb => simp at ha hb; subst ha hb; exact hy
            | 1, ha, hb => simp at ha hb; subst ha hb; exact .bool _
            | i + 2, ha, hb => simp at ha
        | false =>
          refine ResOk.pure hr (fun _ => ?_) hy
          cases d <;> simp at hifc <;> first | (simp [Instr.typeAssert, run_underlying hd]; done) | (exact absurd hifc hn)
      · trivial
    · trivial

/-- x[lo:hi] of a row. -/
def rSlice (ti : TI) (x : SV) (lo hi : Option SV) (h : HS) : Res :=
  match ti.kind, x, lo, hi with
  | .slice _, .row n sz f, some (.int _ l), some (.int _ u) => .val (0 ≤ l ∧ l ≤ u ∧ u ≤ (n : Int)) (.row (u.toNat - l.toNat) sz (fun i j => f (l.toNat + i) j)) h
  | .slice _, .row n sz f, some (.int _ l), none => .val (0 ≤ l ∧ l ≤ (n : Int)) (.row (n - l.toNat) sz (fun i j => f (l.toNat + i) j)) h
  | .slice _, .row n sz f, none, some (.int _ u) => .val (0 ≤ u ∧ u ≤ (n : Int)) (.row u.toNat sz f) h
  | _, _, _, _ => .bad
theorem row_cut {E : Env} {w : World} {n sz : Nat} {f : Nat → Nat → SV} {v : Value} (hx : Den E w (.row n sz f) v) (l u : Nat) (hlu : l ≤ u) (hun : u ≤ n) :
    ∃ a cap, v = .slice a n cap ∧ n ≤ cap ∧ Den E w (.row (u - l) sz (fun i j => f (l + i) j)) (.slice (if cap = l then a else a.map (·.add (l * sz))) (u - l) (cap - l)) := by
  cases hx
  · rename_i A cap g hA ho hn hc h1 hd
    refine ⟨some A, cap, rfl, hn, ?_⟩
    by_cases e : cap = l
    · have : u - l = 0 := by omega
      rw [this]
      exact .rowZ _ _
    · rw [if_neg e]
      refine .row (A.add (l * sz)) (cap - l) (fun i j => g (l + i) j) (by rw [add_block]; exact hA) (by rw [add_block]; exact ho) (by omega) (fun i j hi hj => ?_) (fun i j hi hj => h1 _ _ (by omega) hj) (fun i j hi hj => hd _ _ (by omega) hj)
      rw [Addr.add_add]
      have := hc (l + i) j (by omega) hj
      rwa [Nat.add_mul, Nat.add_assoc] at this
  · rename_i a cap
    refine ⟨a, cap, rfl, Nat.zero_le _, ?_⟩
    have : u - l = 0 := by omega
    rw [this]
    exact .rowZ _ _

theorem rSlice_ok {P : Program} {E : Env} {h : HS} {w : World} (hr : RelH E h w) {t e : TypeId} {ti te : TI} (hT : TIOk P t ti) (hk : ti.kind = .slice e) (hE : TIOk P e te) {x : SV} {v : Value} (hx : Den E w x v)
    {lo hi : Option SV} {vlo vhi : Option Value} (hlo : match lo, vlo with | some a, some b => Den E w a b | none, none => True | _, _ => False) (hhi : match hi, vhi with | some a, some b => Den E w a b | none, none => True | _, _ => False)
    (hsz : ∀ n sz f, x = .row n sz f → te.size = sz) :
    ResOk P E h w ((Instr.sliceAt t v vlo vhi none >>= fun v => pure (Next.value v)).run P w) (rSlice ti x lo hi h) := by
  obtain ⟨d, hd, _, _, hkd⟩ := hT.desc
  rw [hk] at hkd
  simp only at hkd
  subst hkd
  obtain ⟨i0, z0, hi0, hs0, _⟩ := hE.info
  have hS : (sizeOf e).run P w = .ok te.size w := by simp [sizeOf, typeInfo, hi0, hs0]
  unfold rSlice
  split
  · rename_i e' n sz f k l k' u _ 
    rintro ⟨p1, p2, p3⟩
    cases vlo with
    | none => exact hlo.elim
    | some vl =>
      cases vhi with
      | none => exact hhi.elim
      | some vu =>
        simp only at hlo hhi
        cases hlo
        cases hhi
        obtain ⟨a, cap, rfl, hcap, hden⟩ := row_cut hx l.toNat u.toNat (by omega) (by omega)
        refine ⟨_, w, E, ?_, hden, hr, Ext.refl E w⟩
        have q1 : 0 ≤ u := by omega
        have q2 : u ≤ (cap : Int) := by omega
        simp [Instr.sliceAt, Instr.slice, run_underlying hd, Instr.sliceBounds, Instr.sliceBound, asIntOf, p1, q1, q2, p2, hS, hsz n sz f rfl]
        intro hc; omega
  · rename_i e' n sz f k l _
    rintro ⟨p1, p2⟩
    cases vlo with
    | none => exact hlo.elim
    | some vl =>
      cases vhi with
      | some vu => exact hhi.elim
      | none =>
        simp only at hlo
        cases hlo
        obtain ⟨a, cap, rfl, hcap, hden⟩ := row_cut hx l.toNat n (by omega) (by omega)
        refine ⟨_, w, E, ?_, hden, hr, Ext.refl E w⟩
        simp [Instr.sliceAt, Instr.slice, run_underlying hd, Instr.sliceBounds, Instr.sliceBound, asIntOf, p1, p2, hS, hsz n sz f rfl]
  · rename_i e' n sz f k u _
    rintro ⟨p1, p2⟩
    cases vlo with
    | some vl => exact hlo.elim
    | none =>
      cases vhi with
      | none => exact hhi.elim
      | some vu =>
        simp only at hhi
        cases hhi
        obtain ⟨a, cap, rfl, hcap, hden⟩ := row_cut hx 0 u.toNat (by omega) (by omega)
        have q2 : u ≤ (cap : Int) := by omega
        refine ⟨_, w, E, ?_, by simpa using hden, hr, Ext.refl E w⟩
        cases a <;> simp [Instr.sliceAt, Instr.slice, run_underlying hd, Instr.sliceBounds, Instr.sliceBound, asIntOf, p1, q2, hS, hsz n sz f rfl]
  · trivial

def rAppend (e : TypeId) (te : TI) (s x : SV) (h : HS) : Res :=
  match s with
  | .vec id ver => match getV h.vecs id with
    | .live ver' e' sz n f => match x with
      | .row m sz' g => .val (ver = ver' ∧ e = e' ∧ sz = te.size ∧ sz' = sz ∧ ((n + m : Nat) : Int) * (te.bytes : Int) ≤ 140737488355328 ∧ ((n + m : Nat) : Int) ≤ 9223372036854775807) (.vec id (ver + 1)) { h with vecs := setV h.vecs id (.live (ver' + 1) e' sz (n + m) (catF n f g)) }
      | .vec id2 ver2 => match getV h.vecs id2 with
        | .live ver2' e2 sz' m g => .val (ver = ver' ∧ ver2 = ver2' ∧ e = e' ∧ sz = te.size ∧ sz' = sz ∧ ((n + m : Nat) : Int) * (te.bytes : Int) ≤ 140737488355328 ∧ ((n + m : Nat) : Int) ≤ 9223372036854775807) (.vec id (ver + 1)) { h with vecs := setV h.vecs id (.live (ver' + 1) e' sz (n + m) (catF n f g)) }
        | .dead => .bad
      | _ => .bad
    | .dead => .bad
  | _ => .bad

theorem rAppend_ok {P : Program} {E : Env} {h : HS} {w : World} (hr : RelH E h w) {t e : TypeId} {te : TI} (ht : P.underlying t = some (.slice e)) (hE : TIOk P e te) (tr : TypeId) {s x : SV} {vs vx : Value} (hs : Den E w s vs) (hx : Den E w x vx) :
    ResOk P E h w ((Builtin.append_ #[t, t] tr #[vs, vx] >>= fun v => pure (Next.value v)).run P w) (rAppend e te s x h) := by
  obtain ⟨i, z, hi, hsz, hby, hz, hzs, _⟩ := hE.info
  unfold rAppend
  have go : ∀ {id ver e' sz n f a cap m g}, getV h.vecs id = .live ver e' sz n f → E.val id ver = some (a, n, cap) → e = e' → sz = te.size →
      ((∃ A c, vx = .slice (some A) m c ∧ SrcAt E w A m sz g) ∨ (m = 0 ∧ ∃ a' c, vx = .slice a' 0 c)) → ((n + m : Nat) : Int) * (te.bytes : Int) ≤ 140737488355328 → ((n + m : Nat) : Int) ≤ 9223372036854775807 →
      ∃ val w' E', (Builtin.append_ #[t, t] tr #[.slice a n cap, vx] >>= fun v => pure (Next.value v)).run P w = .ok (.value val) w' ∧ Den E' w' (.vec id (ver + 1)) val ∧
        RelH E' { h with vecs := setV h.vecs id (.live (ver + 1) e' sz (n + m) (catF n f g)) } w' ∧ Ext E w E' w' := by
    intro id ver e' sz n f a cap m g hv hval he hs' hsrc hb hl
    subst he
    subst hs'
    obtain ⟨a', cap', w', E', r1, r2, r3, r4, r5⟩ := append_ok hr hv t tr i z ht hi hz hsz hzs hval vx m g hsrc (by simp only [maxLen]; omega) (by rw [hby]; rw [← Int.natCast_mul] at hb; omega)
    exact ⟨_, w', E', by simp [r1], .vec r5 r4, r3, r2⟩
  split
  · rename_i id ver
    split
    · rename_i ver' e' sz n f hv
      obtain ⟨hz', ⟨a0, cap0, k1, k2⟩, k3⟩ := hr.vec _ _ _ _ _ _ hv
      split
      · rename_i m sz' g
        rintro ⟨rfl, he, hs', rfl, hb, hl⟩
        cases hs
        rename_i a n' cap hid hval
        have hval' := hval
        rw [k1] at hval
        simp only [Option.some.injEq, Prod.mk.injEq] at hval
        obtain ⟨rfl, rfl, rfl⟩ := hval
        refine go hv hval' he hs' ?_ hb hl
        cases hx
        · rename_i A c g' hA ho hn hc h1 hd
          exact .inl ⟨A, c, rfl, srcAt_row hz' g' hc h1 hd⟩
        · exact .inr ⟨rfl, _, _, rfl⟩
      · rename_i id2 ver2
        split
        · rename_i ver2' e2 sz' m g hv2
          rintro ⟨rfl, rfl, he, hs', rfl, hb, hl⟩
          cases hs
          rename_i a n' cap hid hval
          have hval' := hval
          rw [k1] at hval
          simp only [Option.some.injEq, Prod.mk.injEq] at hval
          obtain ⟨rfl, rfl, rfl⟩ := hval
          refine go hv hval' he hs' ?_ hb hl
          obtain ⟨_, ⟨a2, cap2, l1, l2⟩, _⟩ := hr.vec _ _ _ _ _ _ hv2
          cases hx
          rename_i a3 n3 cap3 hid3 hval3
          rw [l1] at hval3
          simp only [Option.some.injEq, Prod.mk.injEq] at hval3
          obtain ⟨rfl, rfl, rfl⟩ := hval3
          cases a2 with
          | none =>
            rcases l2 with ⟨_, h0, _⟩ | ⟨_, _, h0, _⟩
            · exact .inr ⟨h0, none, cap2, by rw [h0]⟩
            · cases h0
          | some A => exact .inl ⟨A, cap2, rfl, l2.src⟩
        · trivial
      · trivial
    · trivial
  · trivial
end Go.Eng
end

/- The result of one operation. -/
section
namespace Go.Eng
open Go.RowKit
set_option linter.unusedVariables false

def evL (t : List SV) : List Operand → List SV
  | [] => []
  | x :: l => ev t x :: evL t l
def catS : List SV → List SV → List SV
  | [], l => l
  | x :: k, l => x :: catS k l
theorem catS_eq (k l : List SV) : catS k l = k ++ l := by induction k <;> simp [catS, *]
theorem evL_eq (t : List SV) (l : List Operand) : evL t l = l.map (ev t) := by induction l <;> simp [evL, *]
theorem evL_den {E : Env} {w : World} {t : List SV} {a : Act} (h : DenA E w t a.tmps) (xs : Array Operand) : DenA E w (evL t xs.toList) (xs.map a.eval) := by
  refine ⟨by simp [evL_eq], fun i x u hx hu => ?_⟩
  rw [evL_eq, List.getElem?_map, Array.getElem?_toList] at hx
  rw [Array.getElem?_map] at hu
  cases ho : xs[i]? with
  | none => simp [ho] at hx
  | some o => simp [ho] at hx hu; subst hx hu; exact ev_den h o
theorem DenA.cat {E : Env} {w : World} {l k : List SV} {vs us : Array Value} (h1 : DenA E w l vs) (h2 : DenA E w k us) : DenA E w (catS l k) (vs ++ us) := by
  refine ⟨by simp [catS_eq, h1.1, h2.1], fun i x u hx hu => ?_⟩
  have hs := h1.1
  rw [catS_eq] at hx
  by_cases hi : i < l.length
  · rw [List.getElem?_append_left hi] at hx
    rw [Array.getElem?_append_left (by omega)] at hu
    exact h1.2 i x u hx hu
  · rw [List.getElem?_append_right (by omega)] at hx
    rw [Array.getElem?_append_right (by omega)] at hu
    exact h2.2 _ x u hx (by rw [← hs]; exact hu)

def pk : Bool → SV → SV → SV
  | true, a, _ => a
  | false, _, b => b

section
variable (T : Nat → Option TI) (F : Nat → Bool) (t : List SV) (h : HS)
def rMove (ty : TypeId) (x : Operand) : Res :=
  match x with
  | .const (.slice none 0 0) => match T ty with
    | some { kind := .slice e, .. } => match T e with
      | some te => .val (0 < te.size) (.vec (lenV h.vecs) 0) { h with vecs := snocV h.vecs (.live 0 e te.size 0 (fun _ _ => .any)) }
      | none => .bad
    | _ => .val True (ev t x) h
  | _ => .val True (ev t x) h
def rPick (c a b : SV) : Res :=
  match c with
  | .bool q => .val True (pk q a b) h
  | _ => .bad
def rNil (x : SV) : Res :=
  match x with
  | .ptr a b => .val True (.ptr a b) h
  | .rptr a b => .val True (.rptr a b) h
  | .vptr a b c d e => .val True (.vptr a b c d e) h
  | .func g caps => .val True (.func g caps) h
  | _ => .bad
def zipPut : List SV → List Nat → List SV → List SV
  | t, p :: ps, a :: l => zipPut (upd t p a) ps l
  | t, _, _ => t
def rCall (f : SV) (args : List SV) : Res :=
  match f with
  | .func g caps => if F g then .call g (catS args caps) else .bad
  | .yield nm => match getB h.blks nm with
    | .loop _ _ fid t params assign body => if lenS args = params.toList.length then .round nm fid (zipPut t params.toList args) assign body else .bad
    | _ => .bad
  | .meth g first => if F g then .call g (catS first args) else .bad
  | _ => .bad
def rFunc (fn : Fn) (first : List SV) (caps : List SV) : Res :=
  match fn, first with
  | .func g, [] => .val True (.func g caps) h
  | .func g, x :: l => match caps with
    | [] => .val True (.meth g first) h
    | _ => .bad
  | _, _ => .bad
def rBuiltin (b : Builtin) (tys : List TypeId) (args : List SV) : Res :=
  match b, tys, args with
  | .len, [ty], [x] => match T ty with
    | some ti => rLen ti h x
    | none => .bad
  | .append, [ty, ty'], [s, x] => if ty = ty' then match T ty with
      | some { kind := .slice e, .. } => match T e with
        | some te => rAppend e te s x h
        | none => .bad
      | _ => .bad
    else .bad
  | .max, _, [x, y] => rMax x y h
  | .min, _, [x, y] => rMin x y h
  | _, _, _ => .bad
def rPanic (x : SV) : Res :=
  match x with
  | .iface ty v => .pan (.iface ty v)
  | _ => .bad
def evO : Option Operand → Option SV
  | some x => some (ev t x)
  | none => none
def rowSz (x : SV) : Nat := match x with
  | .row _ sz _ => sz
  | _ => 0

def skipAnd (p : Prop) (r : Res) : Res := match r with
  | .skip q h => .skip (p ∧ q) h
  | _ => .bad
/-- A store; a nil slice that is stored is an own one. -/
def rStoreN (ti : TI) (x : SV) (b : Bool) (y : SV) : Res :=
  match b with
  | false => rStore ti h x y
  | true => match ti.kind with
    | .slice e => match T e with
      | some te => skipAnd (0 < te.size) (rStore ti { h with vecs := snocV h.vecs (.live 0 e te.size 0 (fun _ _ => .any)) } x (.vec (lenV h.vecs) 0))
      | none => .bad
    | _ => rStore ti h x y

def opRes (o : Oper) : Res :=
  match o.op with
  | .move x => rMove T t h o.type x
  | .assign x => rMove T t h o.type x
  | .pick c a b => rPick h (ev t c) (ev t a) (ev t b)
  | .alloc e => match T e with
    | some ti => rAlloc ti e h
    | none => .bad
  | .box e x => rBox e (ev t x) h
  | .build ty ps => match T ty with
    | some ti => match ti.kind with
      | .array _ e => match T e with
        | some te => rBuild ti te.size (evP t ps.toList) h
        | none => .bad
      | _ => rBuild ti 0 (evP t ps.toList) h
    | none => .bad
  | .buildSlice ty len ps => match T ty with
    | some { kind := .slice e, .. } => match T e with
      | some te => rBuildSlice e te len (evP t ps.toList) h
      | none => .bad
    | _ => .bad
  | .load ty x => match T ty with
    | some ti => rLoad ti h (ev t x)
    | none => .bad
  | .store ty x y => match T ty with
    | some ti => rStoreN T h ti (ev t x) (isNilSl y) (ev t y)
    | none => .bad
  | .nilCheck x => rNil h (ev t x)
  | .binOp op ty x y _ => rBin3 (T ty) (isConst x || isConst y) op (isNilSl y) (ev t x) (ev t y) h
  | .unOp op _ x => rUn op (ev t x) h
  | .convert s d x => match T s, T d with
    | some _, some td => rConv td (ev t x) h
    | _, _ => .bad
  | .makeInterface ty x => match T ty with
    | some ti => rIface ti ty (ev t x) h
    | none => .bad
  | .makeFunc fn first caps => rFunc h fn (evL t first.toList) (evL t caps.toList)
  | .slice ty x lo hi none => match T ty with
    | some ti => match ti.kind with
      | .slice e => match T e with
        | some te => if te.size = rowSz (ev t x) then rSlice ti (ev t x) (evO t lo) (evO t hi) h else .bad
        | none => .bad
      | _ => .bad
    | none => .bad
  | .fieldAddr ty x k => match T ty with
    | some ti => rField ti h (ev t x) k
    | none => .bad
  | .indexAddr ty x y => match T ty with
    | some ti => match ti.kind with
      | .slice e => match T e with
        | some te => rIndex ti te.size h (ev t x) (ev t y)
        | none => .bad
      | .array _ e => match T e with
        | some te => rIndex ti te.size h (ev t x) (ev t y)
        | none => .bad
      | _ => .bad
    | none => .bad
  | .typeAssert x _ ty ok => match T ty with
    | some ti => rAssert ti ty (ev t x) ok h
    | none => .bad
  | .extract x k => rExtract (ev t x) k h
  | .call c => match c.callee with
    | .value f => rCall F h (ev t f) (evL t c.args.toList)
    | .builtin b => rBuiltin T h b c.argTypes.toList (evL t c.args.toList)
    | _ => .bad
  | .panic x => rPanic (ev t x)
  | _ => .bad
end

def TOk (P : Program) (T : Nat → Option TI) : Prop := ∀ t ti, T t = some ti → TIOk P t ti
def FOk (P : Program) (F : Nat → Bool) : Prop := ∀ g, F g = true → ∀ args w, (callFunc g args).run P w = .ok (.enter g args) w

section
variable {P : Program} {T : Nat → Option TI} {F : Nat → Bool} {E : Env} {t : List SV} {h : HS} {w : World} {a : Act}

theorem rMove_ok (hT : TOk P T) (ht : DenA E w t a.tmps) (hr : RelH E h w) (ty : TypeId) (x : Operand) : ResOk P E h w (.ok (.value (a.eval x)) w) (rMove T t h ty x) := by
  have dflt : ResOk P E h w (.ok (.value (a.eval x)) w) (.val True (ev t x) h) := ResOk.pure hr (fun _ => rfl) (ev_den ht x)
  unfold rMove
  split
  · split
    · rename_i e _ _ _ _ _ _ _
      split
      · rename_i te hte
        intro hsz
        exact ⟨_, w, E.newV, rfl, .vec (by simp only [Env.newV, hr.nv]; omega) (by simp [Env.newV, hr.nv]), hr.newVec e te.size hsz _, ext_newV E w⟩
      · trivial
    · exact dflt
  · exact dflt

theorem rStoreN_ok (hT : TOk P T) (hr : RelH E h w) {ty : TypeId} {ti : TI} (hti : TIOk P ty ti) {x : SV} {vx : Value} (hx : Den E w x vx) {y : Operand} (ht : DenA E w t a.tmps) :
    ResOk P E h w ((Instr.storeAt ty vx (a.eval y) >>= fun _ => (pure Next.skip : Sem Next)).run P w) (rStoreN T h ti x (isNilSl y) (ev t y)) := by
  have dflt := rStore_ok hr hti hx (ev_den ht y)
  unfold rStoreN
  split
  · exact dflt
  · rename_i hb
    split
    · rename_i e hk
      split
      · rename_i te hte
        unfold isNilSl at hb
        split at hb
        · have h1 : Den E.newV w (.vec (lenV h.vecs) 0) (.slice none 0 0) := .vec (by simp only [Env.newV, hr.nv]; omega) (by simp [Env.newV, hr.nv])
          generalize hst : rStore ti { h with vecs := snocV h.vecs (.live 0 e te.size 0 (fun _ _ => .any)) } x (.vec (lenV h.vecs) 0) = r
          unfold skipAnd
          split
          · rename_i q h'
            rintro ⟨hsz, hq⟩
            have h2 := rStore_ok (hr.newVec e te.size hsz (fun _ _ => .any)) hti (hx.ext (ext_newV E w)) h1
            rw [hst] at h2
            obtain ⟨w', E', k1, k2, k3⟩ := h2 hq
            exact ⟨w', E', k1, k2, (ext_newV E w).trans k3⟩
          · trivial
        · cases hb
      · trivial
    · exact dflt

theorem zipPut_den {E : Env} {w : World} : ∀ (ps : List Nat) (l : List SV) (us : List Value) (t : List SV) (tmps : Array Value), DenA E w t tmps → l.length = us.length → (∀ (i : Nat) (x : SV) (u : Value), l[i]? = some x → us[i]? = some u → Den E w x u) →
    DenA E w (zipPut t ps l) ((ps.zip us).foldl (fun tmps (x : Nat × Value) => tmps.setIfInBounds x.1 x.2) tmps)
  | [], l, us, t, tmps, h, _, _ => by cases l <;> simpa [zipPut] using h
  | p :: ps, [], [], t, tmps, h, _, _ => by simpa [zipPut] using h
  | p :: ps, a :: l, u :: us, t, tmps, h, hl, hd => by
    simp only [zipPut, List.zip_cons_cons, List.foldl_cons]
    exact zipPut_den ps l us _ _ (h.set p (hd 0 a u rfl rfl)) (by simpa using hl) (fun i x y hx hy => hd (i + 1) x y (by simpa using hx) (by simpa using hy))
  | p :: ps, [], _ :: _, t, tmps, h, hl, _ => by simp at hl
  | p :: ps, _ :: _, [], t, tmps, h, hl, _ => by simp at hl

theorem opRes_ok (hT : TOk P T) (hF : FOk P F) (ht : DenA E w t a.tmps) (hr : RelH E h w) (o : Oper) : ResOk P E h w ((execOp a.eval o).run P w) (opRes T F t h o) := by
  have k := fun x => ev_den ht (x : Operand)
  unfold opRes
  split <;> rename_i ho <;> simp only [execOp, ho]
  · exact rMove_ok hT ht hr _ _
  · exact rMove_ok hT ht hr _ _
  · -- pick
    rename_i c x y
    have kc := k c
    unfold rPick
    split
    · rename_i q hq
      rw [hq] at kc
      generalize a.eval c = vc at kc
      cases kc
      refine ResOk.pure hr (fun _ => ?_) (v := pk q (ev t x) (ev t y)) (val := if q then a.eval x else a.eval y) ?_
      · simp [asBool]
      · cases q <;> simp [pk, k]
    · trivial
  · -- alloc
    split
    · rename_i ti hti; exact rAlloc_ok hr (hT _ _ hti)
    · trivial
  · exact rBox_ok hr _ (k _)
  · -- build
    rename_i ty ps
    obtain ⟨p1, p2⟩ := evP_den ht ps.toList
    have q1 : (evP t ps.toList).length = (ps.map fun (i, x) => (i, a.eval x)).toList.length := by simpa using p1
    have q2 : ∀ (k : Nat) (x : Nat × SV) (y : Nat × Value), (evP t ps.toList)[k]? = some x → (ps.map fun (i, x) => (i, a.eval x)).toList[k]? = some y → x.1 = y.1 ∧ Den E w x.2 y.2 := fun k x y hx hy => p2 k x y hx (by simpa using hy)
    split
    · rename_i ti hti
      split
      · rename_i n e hk
        split
        · rename_i te hte
          refine rBuild_ok hr (hT _ _ hti) te.size (fun n' e' hk' => ?_) q1 q2
          rw [hk] at hk'; cases hk'
          obtain ⟨i, z, hi, hs, _⟩ := (hT _ _ hte).info
          exact ⟨i, hi, hs⟩
        · trivial
      · rename_i hk
        exact rBuild_ok hr (hT _ _ hti) 0 (fun n' e' hk' => absurd hk' (hk n' e')) q1 q2
    · trivial
  · -- buildSlice
    rename_i ty len ps
    obtain ⟨p1, p2⟩ := evP_den ht ps.toList
    split
    · rename_i e _ _ _ _ _ _ hti
      obtain ⟨d, hd, _, _, hkd⟩ := (hT _ _ hti).desc
      simp only at hkd
      subst hkd
      split
      · rename_i te hte
        exact rBuildSlice_ok hr hd (hT _ _ hte) len (by simpa using p1) (fun k x y hx hy => p2 k x y hx (by simpa using hy))
      · trivial
    · trivial
  · split
    · rename_i ti hti; exact rLoad_ok hr (hT _ _ hti) (k _)
    · trivial
  · split
    · rename_i ti hti; exact rStoreN_ok hT hr (hT _ _ hti) (k _) ht
    · trivial
  · -- nilCheck
    rename_i x
    have kx := k x
    generalize ev t x = sx at kx ⊢
    generalize a.eval x = vx at kx ⊢
    cases kx <;> first
      | trivial
      | (exact ResOk.pure hr (fun _ => rfl) (.ptr ‹_›))
      | (exact ResOk.pure hr (fun _ => rfl) (.rptr _ _ ‹_› ‹_› ‹_› ‹_› ‹_›))
      | (exact ResOk.pure hr (fun _ => rfl) (.vptr ‹_› ‹_›))
      | (exact ResOk.pure hr (fun _ => rfl) (.func _ ‹_› ‹_›))
  · exact rBin3_ok hT hr (k _) _ _ _ (k _)
  · exact rUn_ok hr _ (k _)
  · split
    · rename_i ts td hts htd; exact rConv_ok hr _ _ (hT _ _ htd) (hT _ _ hts) (k _)
    · trivial
  · split
    · rename_i ti hti; exact rIface_ok hr (hT _ _ hti) (k _)
    · trivial
  · -- makeFunc
    rename_i fn first caps
    unfold rFunc
    split
    · rename_i g hfst
      have hf0 : first = #[] := by apply Array.ext'; simpa [evL_eq] using hfst
      subst hf0
      have hd := evL_den ht caps
      exact ResOk.pure hr (fun _ => by simp [Instr.makeFunc]) (.func _ hd.1 hd.2)
    · rename_i g x l hfst
      split
      · rename_i hcap
        have hc0 : caps = #[] := by apply Array.ext'; simpa [evL_eq] using hcap
        subst hc0
        have hd := evL_den ht first
        exact ResOk.pure hr (fun _ => by simp [Instr.makeFunc]) (.meth _ hd.1 hd.2)
      · trivial
    · trivial
  · -- slice
    rename_i ty x lo hi
    have kl : ∀ (lo : Option Operand), match evO t lo, lo.map a.eval with | some a, some b => Den E w a b | none, none => True | _, _ => False := fun lo => by
      cases lo with
      | none => trivial
      | some l => exact k l
    split
    · rename_i ti hti
      split
      · rename_i e hk
        split
        · rename_i te hte
          split
          · rename_i hsz
            exact rSlice_ok hr (hT _ _ hti) hk (hT _ _ hte) (k x) (kl lo) (kl hi) (fun n sz f hx => by rw [hsz, hx]; rfl)
          · trivial
        · trivial
      · trivial
    · trivial
  · split
    · rename_i ti hti; exact rField_ok hr (hT _ _ hti) (k _) _
    · trivial
  · -- indexAddr
    split
    · rename_i ti hti
      split
      · rename_i e hk
        split
        · rename_i te hte; exact rIndex_ok hr (hT _ _ hti) e (.inl hk) (hT _ _ hte) (k _) (k _)
        · trivial
      · rename_i n e hk
        split
        · rename_i te hte; exact rIndex_ok hr (hT _ _ hti) e (.inr ⟨n, hk⟩) (hT _ _ hte) (k _) (k _)
        · trivial
      · trivial
    · trivial
  · split
    · rename_i ti hti; exact rAssert_ok hr (hT _ _ hti) (k _) _ _
    · trivial
  · exact rExtract_ok hr (k _) _
  · -- call
    rename_i c
    have hargs := evL_den ht c.args
    split
    · rename_i f hc
      unfold rCall
      have kf := k f
      split
      · rename_i g caps hf
        rw [hf] at kf
        split
        · rename_i hg
          generalize hv : a.eval f = vf at kf
          cases kf
          rename_i vs hs hd
          exact ⟨c.args.map a.eval ++ vs, by simp [resolve, hc, hv, Deferred.ofValue, invoke, hF g hg], hargs.cat ⟨hs, hd⟩⟩
        · trivial
      · rename_i nm hf
        rw [hf] at kf
        split
        · rename_i st pend fid tl params assign body hb
          split
          · rename_i hlen
            obtain ⟨tmps, db, h1, h2, h3⟩ := hr.lp _ _ _ _ _ _ _ _ hb
            generalize hv : a.eval f = vf at kf
            cases kf
            rename_i hnm
            rw [lenS_eq] at hlen
            have hsz : (c.args.map a.eval).size = params.size := by rw [hargs.1, hlen, Array.length_toList]
            refine ⟨((params.zip (c.args.map a.eval)).foldl (fun tmps (x : Nat × Value) => tmps.setIfInBounds x.1 x.2) tmps), ?_, ?_, hnm⟩
            · have hsz' : c.args.size = params.size := by simpa using hsz
              simp [resolve, hc, hv, Deferred.ofValue, invoke, Instr.yield, Instr.getLoop, getObj, Sem.run, h1, hsz']
            · have := zipPut_den (E := E) (w := w) params.toList (evL t c.args.toList) (c.args.map a.eval).toList tl tmps h2 (by simpa using hargs.1.symm) (fun i x u hx hu => hargs.2 i x u hx (by simpa using hu))
              rw [← Array.foldl_toList, Array.toList_zip]
              exact this
          · trivial
        · trivial
      · rename_i g first hf
        rw [hf] at kf
        split
        · rename_i hg
          generalize hv : a.eval f = vf at kf
          cases kf
          rename_i vs hs hd
          exact ⟨vs ++ c.args.map a.eval, by simp [resolve, hc, hv, Deferred.ofValue, invoke, hF g hg], DenA.cat ⟨hs, hd⟩ hargs⟩
        · trivial
      · trivial
    · rename_i b hc
      obtain ⟨callee, args, tys⟩ := c
      simp only at hc hargs
      subst hc
      obtain ⟨args⟩ := args
      obtain ⟨tys⟩ := tys
      simp only [resolve, Sem.run_bind, Sem.run_pure, Result.andThen_ok, invoke]
      cases b <;> try trivial
      · -- append
        rcases tys with _ | ⟨ty, _ | ⟨ty', _ | ⟨_, _⟩⟩⟩ <;> rcases args with _ | ⟨y, _ | ⟨z, _ | ⟨_, _⟩⟩⟩ <;> try trivial
        simp only [rBuiltin, evL]
        split
        · rename_i e; subst e
          split
          · rename_i e _ _ _ _ _ _ hti
            obtain ⟨d, hd, _, _, hkd⟩ := (hT _ _ hti).desc
            simp only at hkd
            subst hkd
            split
            · rename_i te hte
              have := rAppend_ok hr hd (hT _ _ hte) o.type (k y) (k z)
              simpa [builtin] using this
            · trivial
          · trivial
        · trivial
      · -- len
        rcases tys with _ | ⟨ty, _ | ⟨ty', _ | ⟨_, _⟩⟩⟩ <;> rcases args with _ | ⟨y, _ | ⟨z, _ | ⟨_, _⟩⟩⟩ <;> try trivial
        simp only [rBuiltin, evL]
        split
        · rename_i ti hti
          have := rLen_ok hr (hT _ _ hti) (k y) o.type
          simpa [builtin] using this
        · trivial
      · -- max
        rcases args with _ | ⟨y, _ | ⟨z, _ | ⟨_, _⟩⟩⟩ <;> try trivial
        have := rMax_ok (P := P) hr tys.toArray o.type (k y) (k z)
        simpa [rBuiltin, evL, builtin] using this
      · rcases args with _ | ⟨y, _ | ⟨z, _ | ⟨_, _⟩⟩⟩ <;> try trivial
        have := rMin_ok (P := P) hr tys.toArray o.type (k y) (k z)
        simpa [rBuiltin, evL, builtin] using this
    · trivial
  · -- panic
    rename_i x
    have kx := k x
    unfold rPanic
    split
    · rename_i ty v hx
      rw [hx] at kx
      generalize a.eval x = vx at kx
      cases kx
      rename_i u hu
      exact ⟨.iface ty u, by simp [Instr.panic], .iface hu⟩
    · trivial
  · trivial
end
end Go.Eng
end

/- Values that mention few names. -/
section
namespace Go.Eng
open Go.RowKit
set_option linter.unusedVariables false

mutual
/-- Every name in it is below L, every own slice below M. -/
def Bd (L M : Nat) : SV → Prop
  | .any => True
  | .int _ _ => True
  | .bool _ => True
  | .str _ => True
  | .ptr nm _ => nm < L
  | .nilp => True
  | .rptr sz f => ∀ j, j < sz → Bd L M (f j)
  | .row n sz f => ∀ i j, i < n → j < sz → Bd L M (f i j)
  | .vec id _ => id < M
  | .vptr id _ _ _ _ => id < M
  | .func _ caps => BdL L M caps
  | .nilf => True
  | .iface _ v => Bd L M v
  | .nili => True
  | .agg l => BdL L M l
  | .tup l => BdL L M l
  | .yield nm => nm < L
  | .meth _ first => BdL L M first
def BdL (L M : Nat) : List SV → Prop
  | [] => True
  | x :: l => Bd L M x ∧ BdL L M l
end

theorem BdL_get {L M : Nat} : ∀ {l : List SV}, BdL L M l → ∀ (i : Nat) (x : SV), l[i]? = some x → Bd L M x
  | [], _, i, x, h => by simp at h
  | y :: l, hb, 0, x, h => by simp [BdL] at hb h; subst h; exact hb.1
  | y :: l, hb, i + 1, x, h => by simp [BdL] at hb h; exact BdL_get hb.2 i x h

/-- Seen from another ghost: what the value mentions bears the same there. -/
theorem Den.turn {E E' : Env} {w : World} {x : SV} {v : Value} (hd : Den E w x v) (hb : Bd E'.nb E'.nv x) (hrho : ∀ nm, nm < E'.nb → nm < E.nb → E'.rho nm = E.rho nm) (hval : ∀ id ver y, id < E'.nv → id < E.nv → E.val id ver = some y → E'.val id ver = some y)
    (hown : ∀ b, b < w.heap.size → E.own b = none → E'.own b = none) : Den E' w x v := by
  induction hd with
  | any v => exact .any v
  | int k n => exact .int k n
  | bool b => exact .bool b
  | str s => exact .str s
  | @ptr nm off hn => simp only [Bd] at hb; rw [← hrho nm hb hn]; exact .ptr hb
  | nilp => exact .nilp
  | @rptr sz f A g hA ho hc h1 hd ih => simp only [Bd] at hb; exact .rptr A g hA (hown _ hA ho) hc h1 (fun j hj => ih j hj (hb j hj))
  | @row n sz f A cap g hA ho hn hc h1 hd ih => simp only [Bd] at hb; exact .row A cap g hA (hown _ hA ho) hn hc h1 (fun i j hi hj => ih i j hi hj (hb i j hi hj))
  | rowZ a cap => exact .rowZ a cap
  | vec hi hv => simp only [Bd] at hb; exact .vec hb (hval _ _ _ hb hi hv)
  | vptr hi hv => simp only [Bd] at hb; exact .vptr hb (hval _ _ _ hb hi hv)
  | func vs hs hd ih => simp only [Bd] at hb; exact .func vs hs (fun i x u hx hu => ih i x u hx hu (BdL_get hb i x hx))
  | meth vs hs hd ih => simp only [Bd] at hb; exact .meth vs hs (fun i x u hx hu => ih i x u hx hu (BdL_get hb i x hx))
  | nilf => exact .nilf
  | iface _ ih => simp only [Bd] at hb; exact .iface (ih hb)
  | nili => exact .nili
  | agg vs hs h1 hd ih => simp only [Bd] at hb; exact .agg vs hs h1 (fun i x u hx hu => ih i x u hx hu (BdL_get hb i x hx))
  | tup vs hs hd ih => simp only [Bd] at hb; exact .tup vs hs (fun i x u hx hu => ih i x u hx hu (BdL_get hb i x hx))
  | @yield nm hn => simp only [Bd] at hb; rw [← hrho nm hb hn]; exact .yield hb
end Go.Eng
end

/- The symbolic machine. -/
section
namespace Go.Eng
open Go.RowKit
set_option linter.unusedVariables false

inductive It : Type 1
  | code (c : Code)
  | blk (id : Nat)
  | inv (ι : Type) (st : ι → List SV × HS) (μ : ι → Nat) (i : ι) (body : Code)
  | reg (ops : Array Oper) (idx : List Nat)
  | inRng (nm : Nat)
  | endRng (nm : Nat)
  | beginR
  | endR (nm : Nat)
/-- What lies to be done, in the machine's words. -/
def items (ρ : Nat → Nat) : List It → List Item
  | [] => []
  | .code c :: k => .code c :: items ρ k
  | .blk id :: k => .inBlock id :: items ρ k
  | .inv _ _ _ _ body :: k => .inLoop body :: items ρ k
  | .reg ops idx :: k => .inRegion ops idx :: items ρ k
  | .inRng nm :: k => .inRangeFunc (ρ nm) :: items ρ k
  | .endRng nm :: k => .endRangeFunc (ρ nm) :: items ρ k
  | .beginR :: k => .beginRound :: items ρ k
  | .endR _ :: k => items ρ k
/-- The round's record, if this is a round's frame. -/
def rnd : List It → Option Nat
  | [] => none
  | .endR nm :: _ => some nm
  | .code _ :: k => rnd k
  | .blk _ :: k => rnd k
  | .inv _ _ _ _ _ :: k => rnd k
  | .reg _ _ :: k => rnd k
  | .inRng _ :: k => rnd k
  | .endRng _ :: k => rnd k
  | .beginR :: k => rnd k
/-- The names in it are below L; a round's end is the last. -/
def kb (L : Nat) : List It → Prop
  | [] => True
  | .code _ :: k => kb L k
  | .blk _ :: k => kb L k
  | .inv _ _ _ _ _ :: k => kb L k
  | .reg _ _ :: k => kb L k
  | .inRng nm :: k => nm < L ∧ kb L k
  | .endRng nm :: k => nm < L ∧ kb L k
  | .beginR :: k => kb L k
  | .endR nm :: k => nm < L ∧ k = []

/-- How a run ends: with a result, in a panic, or (a bottom frame that has calls deferred) with the slots that its results lie in. -/
inductive Out : Type 1 where
  | ret (v : SV)
  | pan (v : SV)
  | fin (p : Option SV) (ts : List SV)
  | stop (k : List It) (t : List SV)
def keepN (t : List SV) : List Nat → List SV
  | [] => []
  | k :: l => nth t k :: keepN t l
structure Fr where
  fid : Nat
  k : List It
  t : List SV

/-- A way through a region whose order is drawn: quiet operations as soon as they are ready, the others in every order. -/
inductive Plan where
  | done
  | quiet (i : Nat) (p : Plan)
  | loud (i : Nat) (re : List Nat) (p : Plan)
  | both (p q : Plan)

abbrev Spec : Type := List SV → HS → Option (Prop × SV × HS)
structure Ctx where
  P : Program
  T : Nat → Option TI
  F : Nat → Bool
  FN : Nat → Option Func
  inl : Nat → Bool
  G : Nat → Option Spec
  plan : Nat → Nat → Option Plan
  /-- None: the plain machine. Some l: the bottom frame alone, its calls run apart; l: the slots that its results lie in. -/
  D : Option (List Nat)
def Ctx.off (C : Ctx) : Ctx := { C with D := none }

abbrev Rn : Type 1 := Nat → List It → List SV → List Fr → HS → (Out → HS → Prop) → Prop

def getO : List Oper → Nat → Option Oper
  | [], _ => none
  | o :: _, 0 => some o
  | _ :: l, n + 1 => getO l n
theorem getO_eq : ∀ (l : List Oper) (n : Nat), getO l n = l[n]?
  | [], n => by simp [getO]
  | x :: l, 0 => by simp [getO]
  | x :: l, n + 1 => by simp [getO, getO_eq l n]
def upto : List Oper → Nat → List Nat
  | [], _ => []
  | _ :: l, n => n :: upto l (n + 1)
theorem upto_eq : ∀ (l : List Oper) (n : Nat), upto l n = List.range' n l.length
  | [], n => rfl
  | _ :: l, n => by simp [upto, upto_eq l (n + 1), List.range'_succ]
def put (t : List SV) (d : Option Nat) (v : SV) : List SV :=
  match d with
  | some i => upd t i v
  | none => t
def anys : Nat → List SV
  | 0 => []
  | n + 1 => .any :: anys n
theorem anys_eq : ∀ n, anys n = List.replicate n .any
  | 0 => rfl
  | n + 1 => by simp [anys, anys_eq n, List.replicate_succ]
def exitI (id : Nat) : List It → Option (List It)
  | [] => none
  | .blk id' :: k => if id' = id then some k else exitI id k
  | .code _ :: k => exitI id k
  | .inv _ _ _ _ _ :: k => exitI id k
  | .reg _ _ :: k => exitI id k
  | .inRng _ :: k => exitI id k
  | .endRng _ :: k => exitI id k
  | .beginR :: k => exitI id k
  | .endR _ :: k => exitI id k
def spl (q : Bool) (A B : Prop) : Prop := (q = true → A) ∧ (q = false → B)
theorem spl_true (A B : Prop) : spl true A B = A := by simp [spl]
theorem spl_false (A B : Prop) : spl false A B = B := by simp [spl]

/-- The results of a function, out of its temporaries. -/
def resL (T : Nat → Option TI) (t : List SV) (h : HS) : List ResultVar → Option (Prop × List SV)
  | [] => some (True, [])
  | .tmp i :: l => match resL T t h l with
    | some (p, vs) => some (p, nth t i :: vs)
    | none => none
  | .cell a ty :: l => match T ty with
    | some ti => match rLoad ti h (nth t a), resL T t h l with
      | .val q v _, some (p, vs) => some (q ∧ p, v :: vs)
      | _, _ => none
    | none => none
def oneR : List SV → SV
  | [v] => v
  | l => .tup l

def CallsS (P : Program) (g : Nat) (args : List SV) (h : HS) (K : Out → HS → Prop) : Prop :=
  ∀ (E : Env) (w : World) (vals : Array Value), RelH E h w → DenA E w args vals → Calls P g vals w fun e w' => ∃ o h' E', K o h' ∧ RelH E' h' w' ∧ Ext E w E' w' ∧
    match o, e with
    | .ret v, .returned val => Den E' w' v val
    | .pan v, .panicked chain => ∃ val, chain = [{ v := val, recovered := false }] ∧ Den E' w' v val
    | _, _ => False

/-- A panic at the frame in hand. -/
def panQ (D : Option (List Nat)) (Q : Out → HS → Prop) (t : List SV) (v : SV) (h : HS) : Prop :=
  match D with
  | none => Q (.pan v) h
  | some l => Q (.fin (some v) (keepN t l)) h
def outK (S : List SV → HS → Prop) (X : List SV → SV → HS → Prop) (t : List SV) (dst : Option Nat) (o : Out) (h : HS) : Prop :=
  match o with
  | .ret v => S (put t dst v) h
  | .pan v => X t v h
  | _ => False
/-- An operation that the machine does not know: the bottom frame may stop before it. -/
def stopQ (D : Option (List Nat)) (Q : Out → HS → Prop) (k : List It) (t : List SV) (h : HS) : Prop :=
  match D with
  | none => False
  | some _ => Q (.stop k t) h
section
variable (C : Ctx) (R R0 : Rn)
def popS (v : SV) (fs : List Fr) (h : HS) (Q : Out → HS → Prop) : Prop :=
  match fs with
  | [] => Q (.ret v) h
  | ⟨fid, .reg ops (i :: idx) :: k, t⟩ :: fs => match getO ops.toList i with
    | some o => R fid (.reg ops idx :: k) (put t o.dst v) fs h Q
    | none => False
  | ⟨fid, .inRng nm :: k, t⟩ :: fs => R fid (.endRng nm :: k) t fs h Q
  | _ => False
/-- A round ends: the frame that called yield goes on. -/
def popR (v : SV) (fs : List Fr) (h : HS) (Q : Out → HS → Prop) : Prop :=
  match fs with
  | ⟨fid, .reg ops (i :: idx) :: k, t⟩ :: fs => match getO ops.toList i with
    | some o => R fid (.reg ops idx :: k) (put t o.dst v) fs h Q
    | none => False
  | _ => False
def endRS (b : Blk) (nm : Nat) (jump : Option Code) (fs : List Fr) (h : HS) (Q : Out → HS → Prop) : Prop :=
  match b with
  | .loop _ _ fid t params assign body => popR R (.bool jump.isNone) fs { h with blks := setB h.blks nm (.loop (if jump.isNone then .ready else .done) jump fid t params assign body) } Q
  | _ => False
def beginRS (x : Option Nat) (fid : Nat) (k : List It) (t : List SV) (fs : List Fr) (h : HS) (Q : Out → HS → Prop) : Prop :=
  match x with
  | some nm => match getB h.blks nm with
    | .loop .ready pend fid' t' params assign body => R fid k t fs { h with blks := setB h.blks nm (.loop .busy pend fid' t' params assign body) } Q
    | _ => False
  | none => False
def endRngS (b : Blk) (nm fid : Nat) (k : List It) (t : List SV) (fs : List Fr) (h : HS) (Q : Out → HS → Prop) : Prop :=
  match b with
  | .loop .ready none _ _ _ _ _ => R fid k t fs { h with blks := setB h.blks nm .dead } Q
  | .loop .done none _ _ _ _ _ => R fid k t fs { h with blks := setB h.blks nm .dead } Q
  | .loop .done (some c) _ _ _ _ _ => R fid (.code c :: k) t fs { h with blks := setB h.blks nm .dead } Q
  | _ => False
def retS (x : Option Nat) (jump : Code) (fs : List Fr) (h : HS) (Q : Out → HS → Prop) (els : Prop) : Prop :=
  match x with
  | none => els
  | some nm => endRS R (getB h.blks nm) nm (some jump) fs h Q
def leaveS (D : Option (List Nat)) (fid : Nat) (t : List SV) (fs : List Fr) (h : HS) (Q : Out → HS → Prop) (fn : Option Func) : Prop :=
  match D with
  | none => match fn with
    | some fn => match resL C.T t h fn.results.toList with
      | some (p, vs) => p ∧ popS R (oneR vs) fs h Q
      | none => False
    | none => False
  | some l => Q (.fin none (keepN t l)) h
def condS (x : SV) (fid : Nat) (a b : Code) (k : List It) (t : List SV) (fs : List Fr) (h : HS) (Q : Out → HS → Prop) : Prop :=
  match x with
  | .bool q => spl q (R fid (.code a :: k) t fs h Q) (R fid (.code b :: k) t fs h Q)
  | _ => False
def exitS (id : Nat) (k0 : List It) (k : Option (List It)) (fid : Nat) (t : List SV) (fs : List Fr) (h : HS) (Q : Out → HS → Prop) : Prop :=
  match k with
  | some k => R fid k t fs h Q
  | none => retS R (rnd k0) (.exit id) fs h Q False
def rngGo (D : Option (List Nat)) (fn : Option Func) (g : Nat) (args : List SV) (nm fid : Nat) (k : List It) (t : List SV) (fs : List Fr) (h : HS) (Q : Out → HS → Prop) : Prop :=
  match fn with
  | some fn => match fn.body with
    | some c => match D with
      | none => R g [.code c] (catS args (anys (fn.ntmps - lenS args))) (⟨fid, .inRng nm :: k, t⟩ :: fs) h Q
      | some _ => R0 g [.code c] (catS args (anys (fn.ntmps - lenS args))) [] h (outK (fun t' h' => R fid (.endRng nm :: k) t' fs h' Q) (panQ C.D Q) t none)
    | none => False
  | none => False
/-- A range over a function: its record is laid, the function called. -/
def rngS (f : SV) (params : Array Nat) (assign body : Code) (fid : Nat) (k : List It) (t : List SV) (fs : List Fr) (h : HS) (Q : Out → HS → Prop) : Prop :=
  match f with
  | .func g caps => C.F g = true ∧ rnd k = none ∧ rngGo C R R0 C.D (C.FN g) g (.yield (lenB h.blks) :: caps) (lenB h.blks) fid k t fs { h with blks := snocB h.blks (.loop .ready none fid t params assign body) } Q
  | _ => False
def roundS (D : Option (List Nat)) (ok : Bool) (nm rf : Nat) (rt : List SV) (assign body : Code) (fid : Nat) (ops : Array Oper) (i : Nat) (idx : List Nat) (k : List It) (t : List SV) (fs : List Fr) (h : HS) (Q : Out → HS → Prop) : Prop :=
  match D with
  | none => ok = true ∧ R rf [.code assign, .beginR, .code body, .endR nm] rt (⟨fid, .reg ops (i :: idx) :: k, t⟩ :: fs) h Q
  | some _ => False
/-- Inlined call, or one by contract; else an obligation of its own. -/
def callS (g : Nat) (args : List SV) (fid : Nat) (ops : Array Oper) (i : Nat) (idx : List Nat) (dst : Option Nat) (k : List It) (t : List SV) (fs : List Fr) (h : HS) (Q : Out → HS → Prop) : Prop :=
  CallsS C.P g args h (outK (fun t' h' => R fid (.reg ops idx :: k) t' fs h' Q) (panQ C.D Q) t dst)
def specS (r : Option (Prop × SV × HS)) (fid : Nat) (ops : Array Oper) (idx : List Nat) (dst : Option Nat) (k : List It) (t : List SV) (fs : List Fr) (Q : Out → HS → Prop) : Prop :=
  match r with
  | some (p, v, h') => p ∧ R fid (.reg ops idx :: k) (put t dst v) fs h' Q
  | none => False
def inlS (D : Option (List Nat)) (fn : Option Func) (g : Nat) (args : List SV) (fid : Nat) (ops : Array Oper) (i : Nat) (idx : List Nat) (dst : Option Nat) (k : List It) (t : List SV) (fs : List Fr) (h : HS) (Q : Out → HS → Prop) : Prop :=
  match fn with
  | some fn => match fn.body with
    | some c => match D with
      | none => R g [.code c] (catS args (anys (fn.ntmps - lenS args))) (⟨fid, .reg ops (i :: idx) :: k, t⟩ :: fs) h Q
      | some _ => R0 g [.code c] (catS args (anys (fn.ntmps - lenS args))) [] h (outK (fun t' h' => R fid (.reg ops idx :: k) t' fs h' Q) (panQ C.D Q) t dst)
    | none => False
  | none => False
def goS (sp : Option Spec) (il : Bool) (g : Nat) (args : List SV) (fid : Nat) (ops : Array Oper) (i : Nat) (idx : List Nat) (dst : Option Nat) (k : List It) (t : List SV) (fs : List Fr) (h : HS) (Q : Out → HS → Prop) : Prop :=
  match sp, il with
  | some f, _ => specS R (f args h) fid ops idx dst k t fs Q
  | none, true => inlS C R R0 C.D (C.FN g) g args fid ops i idx dst k t fs h Q
  | none, false => callS C R g args fid ops i idx dst k t fs h Q
def execS (r : Res) (fid : Nat) (ops : Array Oper) (i : Nat) (idx : List Nat) (dst : Option Nat) (k : List It) (t : List SV) (fs : List Fr) (h : HS) (Q : Out → HS → Prop) : Prop :=
  match r with
  | .val p v h' => p ∧ R fid (.reg ops idx :: k) (put t dst v) fs h' Q
  | .skip p h' => p ∧ R fid (.reg ops idx :: k) (put t dst .any) fs h' Q
  | .fork p v u h' => (p → R fid (.reg ops idx :: k) (put t dst v) fs h' Q) ∧ R fid (.reg ops idx :: k) (put t dst u) fs h' Q
  | .pan v => panQ C.D Q t v h
  | .call g args => goS C R R0 (C.G g) (C.inl g) g args fid ops i idx dst k t fs h Q
  | .round nm rf rt assign body => roundS R C.D (C.FN rf).isSome nm rf rt assign body fid ops i idx k t fs h Q
  | .bad => stopQ C.D Q (.reg ops (i :: idx) :: k) t h
def wantS (b want : Bool) (o : Oper) (fid : Nat) (ops : Array Oper) (i : Nat) (idx : List Nat) (k : List It) (t : List SV) (fs : List Fr) (h : HS) (Q : Out → HS → Prop) : Prop :=
  match b, want with
  | true, true => execS C R R0 (opRes C.T C.F t h o) fid ops i idx o.dst k t fs h Q
  | false, false => execS C R R0 (opRes C.T C.F t h o) fid ops i idx o.dst k t fs h Q
  | _, _ => R fid (.reg ops idx :: k) (put t o.dst (.tup [])) fs h Q
def guardS (x : SV) (d : Nat) (want : Bool) (o : Oper) (fid : Nat) (ops : Array Oper) (i : Nat) (idx : List Nat) (k : List It) (t : List SV) (fs : List Fr) (h : HS) (Q : Out → HS → Prop) : Prop :=
  match x with
  | .bool q => spl q (wantS C R R0 true want o fid ops i idx k (upd t d (.bool true)) fs h Q) (wantS C R R0 false want o fid ops i idx k (upd t d (.bool false)) fs h Q)
  | .tup [] => R fid (.reg ops idx :: k) (put t o.dst (.tup [])) fs h Q
  | _ => False
def guard1 (oj : Option Oper) (want : Bool) (o : Oper) (fid : Nat) (ops : Array Oper) (i : Nat) (idx : List Nat) (k : List It) (t : List SV) (fs : List Fr) (h : HS) (Q : Out → HS → Prop) : Prop :=
  match oj with
  | some { dst := some d, .. } => guardS C R R0 (nth t d) d want o fid ops i idx k t fs h Q
  | _ => False
def opS (o : Option Oper) (fid : Nat) (ops : Array Oper) (i : Nat) (idx : List Nat) (k : List It) (t : List SV) (fs : List Fr) (h : HS) (Q : Out → HS → Prop) : Prop :=
  match o with
  | some ⟨dst, op, ty, pos, aft, none⟩ => execS C R R0 (opRes C.T C.F t h ⟨dst, op, ty, pos, aft, none⟩) fid ops i idx dst k t fs h Q
  | some ⟨dst, op, ty, pos, aft, some (j, want)⟩ => guard1 C R R0 (getO ops.toList j) want ⟨dst, op, ty, pos, aft, some (j, want)⟩ fid ops i idx k t fs h Q
  | none => False
end

/- ### regions whose order is drawn -/
def quietR (r : Option (Prop × SV × HS)) (h : HS) : Option (Prop × SV) :=
  match r with
  | some (p, v, h') => some (p ∧ h' = h, v)
  | none => none
/-- A result that leaves memory as it was. -/
def resQ (G : Nat → Option Spec) (r : Res) (h : HS) : Option (Prop × SV) :=
  match r with
  | .val p v h' => some (p ∧ h' = h, v)
  | .call g args => match G g with
    | some f => quietR (f args h) h
    | none => none
  | _ => none
/-- Read again, an operation gives what it gave. -/
def reS1 (r : Option (Prop × SV)) (dst : Option Nat) (t : List SV) : Prop :=
  match r, dst with
  | some (p, v), some d => p ∧ v = nth t d
  | some (p, _), none => p
  | none, _ => False
def reW (b want : Bool) (r : Option (Prop × SV)) (dst : Option Nat) (t : List SV) : Prop :=
  match b, want with
  | true, true => reS1 r dst t
  | false, false => reS1 r dst t
  | _, _ => True
def reG (x : SV) (want : Bool) (r : Option (Prop × SV)) (dst : Option Nat) (t : List SV) : Prop :=
  match x with
  | .bool b => reW b want r dst t
  | .tup [] => True
  | _ => False
def reO (C : Ctx) (ops : Array Oper) (t : List SV) (h : HS) (o : Option Oper) : Prop :=
  match o with
  | some ⟨dst, op, ty, pos, aft, none⟩ => reS1 (resQ C.G (opRes C.T C.F t h ⟨dst, op, ty, pos, aft, none⟩) h) dst t
  | some ⟨dst, op, ty, pos, aft, some (j, want)⟩ => match getO ops.toList j with
    | some { dst := some d, .. } => reG (nth t d) want (resQ C.G (opRes C.T C.F t h ⟨dst, op, ty, pos, aft, some (j, want)⟩) h) dst t
    | _ => False
  | none => False
def reA (C : Ctx) (ops : Array Oper) (t : List SV) (h : HS) : List Nat → Prop
  | [] => True
  | k :: l => reO C ops t h (getO ops.toList k) ∧ reA C ops t h l
/-- Must j follow k? -/
def befGo (k : Nat) : List Oper → Nat → Nat → Nat
  | [], _, m => m
  | o :: os, j, m => befGo k os (j + 1) (if o.after.any fun e => Region.binds .any e && (e.on == k || m.testBit e.on) then m ||| 1 <<< j else m)
def bef (ops : Array Oper) (j k : Nat) : Bool := (befGo k ((ops.toList.take (j + 1)).drop (k + 1)) (k + 1) 0).testBit j
/-- An operation that asks nothing of memory. -/
def flat (o : Oper) : Bool :=
  match o.op with
  | .pick _ _ _ | .nilCheck _ | .binOp _ _ _ _ _ | .unOp _ _ _ | .convert _ _ _ | .makeInterface _ _ | .makeFunc _ _ _ | .extract _ _ => true
  | .move x | .assign x => match x with
    | .const (.slice none 0 0) => false
    | _ => true
  | _ => false
def flatAt (ops : Array Oper) (i : Nat) : Bool := match ops[i]? with
  | some o => flat o
  | none => false
/-- Each slot is written once, and who reads it comes behind (or, where memory is not asked, before). -/
def ssaOk (ops : Array Oper) : Bool :=
  (List.range ops.size).all fun a => match ops[a]? with
    | some oa => match oa.dst with
      | some d => (List.range ops.size).all fun b => match ops[b]? with
        | some ob => (a == b || ob.dst != some d) && (!(ob.looksAt ops).contains d || (a != b && (bef ops b a || (bef ops a b && flat ob))))
        | none => true
      | none => true
    | none => true
def firsts : Plan → List Nat
  | .loud i _ _ => [i]
  | .both p q => firsts p ++ firsts q
  | _ => []
def okP (ops : Array Oper) : Bool → Plan → Nat → Array Bool → List Nat → Bool
  | top, .done, _, l, _ => top && (Region.ready .any ops l).isEmpty
  | top, .quiet i p, n + 1, l, pd => top && (Region.ready .any ops l).contains i && okP ops true p n (l.setIfInBounds i true) (if flatAt ops i then pd else i :: pd)
  | top, .loud i re p, n + 1, l, pd => (!top || ((Region.ready .any ops l).all (· == i) && (Region.ready .any ops l).contains i)) && (pd.filter fun k => !bef ops i k).all re.contains && okP ops true p n (l.setIfInBounds i true) (pd.filter fun k => !bef ops i k)
  | top, .both p q, n, l, pd => (!top || ((Region.ready .any ops l).all (firsts p ++ firsts q).contains && !(Region.ready .any ops l).isEmpty)) && okP ops false p n l pd && okP ops false q n l pd
  | _, _, 0, _, _ => false
def planOk (ops : Array Oper) (p : Plan) : Bool := ssaOk ops && Region.noSelect ops && okP ops true p ops.size (Array.replicate ops.size false) []
/-- No operation writes a slot that is kept. -/
def keepOk (ops : Array Oper) (D : Option (List Nat)) : Bool :=
  match D with
  | none => true
  | some l => ops.all fun o => match o.dst with
    | some d => !l.contains d
    | none => true
section
variable (C : Ctx) (R R0 : Rn) (X : List SV → SV → HS → Prop) (Q : Out → HS → Prop)
def qGo (r : Option (Prop × SV)) (dst : Option Nat) (S : List SV → HS → Prop) (t : List SV) (h : HS) : Prop :=
  match r with
  | some (p, v) => p ∧ S (put t dst v) h
  | none => False
def aGo (r : Option (Prop × SV × HS)) (dst : Option Nat) (S : List SV → HS → Prop) (t : List SV) : Prop :=
  match r with
  | some (p, v, h') => p ∧ S (put t dst v) h'
  | none => False
def nestS (fn : Option Func) (g : Nat) (args : List SV) (dst : Option Nat) (S : List SV → HS → Prop) (t : List SV) (h : HS) : Prop :=
  match fn with
  | some fn => match fn.body with
    | some c => R0 g [.code c] (catS args (anys (fn.ntmps - lenS args))) [] h (outK S X t dst)
    | none => False
  | none => False
def lCall (sp : Option Spec) (il : Bool) (g : Nat) (args : List SV) (dst : Option Nat) (S : List SV → HS → Prop) (t : List SV) (h : HS) : Prop :=
  match sp, il with
  | some f, _ => aGo (f args h) dst S t
  | none, true => nestS R0 X (C.FN g) g args dst S t h
  | none, false => CallsS C.P g args h (outK S X t dst)
def lGo (r : Res) (dst : Option Nat) (S : List SV → HS → Prop) (t : List SV) (h : HS) : Prop :=
  match r with
  | .val p v h' => p ∧ S (put t dst v) h'
  | .skip p h' => p ∧ S (put t dst .any) h'
  | .call g args => lCall C R0 X (C.G g) (C.inl g) g args dst S t h
  | _ => False
/-- One operation of such a region: quiet, or in its turn. -/
def goP (quiet : Bool) (o : Oper) (S : List SV → HS → Prop) (t : List SV) (h : HS) : Prop :=
  match quiet with
  | true => qGo (resQ C.G (opRes C.T C.F t h o) h) o.dst S t h
  | false => lGo C R0 X (opRes C.T C.F t h o) o.dst S t h
def gateW (b want : Bool) (quiet : Bool) (o : Oper) (S : List SV → HS → Prop) (t : List SV) (h : HS) : Prop :=
  match b, want with
  | true, true => goP C R0 X quiet o S t h
  | false, false => goP C R0 X quiet o S t h
  | _, _ => S (put t o.dst (.tup [])) h
def gateG (x : SV) (d : Nat) (want : Bool) (quiet : Bool) (o : Oper) (S : List SV → HS → Prop) (t : List SV) (h : HS) : Prop :=
  match x with
  | .bool q => spl q (gateW C R0 X true want quiet o S (upd t d (.bool true)) h) (gateW C R0 X false want quiet o S (upd t d (.bool false)) h)
  | .tup [] => S (put t o.dst (.tup [])) h
  | _ => False
def gate (ops : Array Oper) (quiet : Bool) (o : Option Oper) (S : List SV → HS → Prop) (t : List SV) (h : HS) : Prop :=
  match o with
  | some ⟨dst, op, ty, pos, aft, none⟩ => goP C R0 X quiet ⟨dst, op, ty, pos, aft, none⟩ S t h
  | some ⟨dst, op, ty, pos, aft, some (j, want)⟩ => match getO ops.toList j with
    | some { dst := some d, .. } => gateG C R0 X (nth t d) d want quiet ⟨dst, op, ty, pos, aft, some (j, want)⟩ S t h
    | _ => False
  | none => False
def thenS (ops : Array Oper) (re : List Nat) (S : List SV → HS → Prop) (t : List SV) (h : HS) : Prop := reA C ops t h re ∧ S t h
def planS (fid : Nat) (ops : Array Oper) (k : List It) (fs : List Fr) : Plan → List SV → HS → Prop
  | .done, t, h => R fid k t fs h Q
  | .quiet i p, t, h => gate C R0 X ops true (getO ops.toList i) (planS fid ops k fs p) t h
  | .loud i re p, t, h => gate C R0 X ops false (getO ops.toList i) (thenS C ops re (planS fid ops k fs p)) t h
  | .both p q, t, h => planS fid ops k fs p t h ∧ planS fid ops k fs q t h
def drawS (p : Option Plan) (fid : Nat) (ops : Array Oper) (k : List It) (t : List SV) (fs : List Fr) (h : HS) : Prop :=
  match p with
  | some p => (planOk ops p = true ∧ keepOk ops C.D = true) ∧ planS C R R0 (panQ C.D Q) Q fid ops k fs p t h
  | none => False
end

/-- What one state says is no more than what another one says. -/
def subX (x y : SV) : Prop :=
  match y with
  | .any => True
  | .row n sz f => match x with
    | .row n' sz' f' => n' = n ∧ sz' = sz ∧ ∀ i j, i < n → j < sz → f' i j = f i j
    | _ => False
  | y => x = y
def subL : List SV → List SV → Prop
  | [], [] => True
  | x :: l, y :: k => subX x y ∧ subL l k
  | _, _ => False
def subBk (x y : Blk) : Prop :=
  match y with
  | .dead => True
  | .live ty c => match x with
    | .live ty' c' => ty' = ty ∧ subL c' c
    | _ => False
  | y => x = y
def subB : List Blk → List Blk → Prop
  | _, [] => True
  | [], _ :: _ => False
  | x :: l, y :: k => subBk x y ∧ subB l k
def subVk (x y : Vc) : Prop :=
  match y with
  | .dead => True
  | .live ver ty sz n f => match x with
    | .live ver' ty' sz' n' f' => ver' = ver ∧ ty' = ty ∧ sz' = sz ∧ n' = n ∧ ∀ i j, i < n → j < sz → f' i j = f i j
    | .dead => False
def subV : List Vc → List Vc → Prop
  | _, [] => True
  | [], _ :: _ => False
  | x :: l, y :: k => subVk x y ∧ subV l k
def bdB (L M : Nat) : List Blk → Prop
  | [] => True
  | .live _ c :: l => BdL L M c ∧ bdB L M l
  | .dead :: l => bdB L M l
  | .loop _ _ _ t _ _ _ :: l => BdL L M t ∧ bdB L M l
def bdV (L M : Nat) : List Vc → Prop
  | [] => True
  | .live _ _ sz n f :: l => (∀ i j, i < n → j < sz → Bd L M (f i j)) ∧ bdV L M l
  | .dead :: l => bdV L M l
structure SubS (t : List SV) (h : HS) (s : List SV × HS) : Prop where
  t : subL t s.1
  b : subB h.blks s.2.blks
  v : subV h.vecs s.2.vecs
  bt : BdL (lenB s.2.blks) (lenV s.2.vecs) s.1
  bb : bdB (lenB s.2.blks) (lenV s.2.vecs) s.2.blks
  bv : bdV (lenB s.2.blks) (lenV s.2.vecs) s.2.vecs

def updA : List SV → List Nat → SV → List SV
  | t, [], _ => t
  | t, j :: js, x => updA (upd t j x) js x
/-- The same with slices that change their names: an own slice takes over what another one is. -/
inductive SubM : List SV → HS → List SV × HS → Prop
  | sub {t h s} : SubS t h s → SubM t h s
  | mv {t h s} (i0 i1 : Nat) (js : List Nat) {v0 ty0 sz0 n0 f0 v1 ty sz n f} : getV h.vecs i0 = .live v0 ty0 sz0 n0 f0 → getV h.vecs i1 = .live v1 ty sz n f → i0 ≠ i1 → (∀ j, j ∈ js → nth t j = .vec i1 v1) →
      SubM (updA t js (.vec i0 (v0 + 1))) { h with vecs := setV (setV h.vecs i0 (.live (v0 + 1) ty sz n f)) i1 .dead } s → SubM t h s
/-- Own slices that are nil, made for a loop. -/
def mkH : List (TypeId × Nat) → HS → HS
  | [], h => h
  | (ty, sz) :: l, h => mkH l { h with vecs := snocV h.vecs (.live 0 ty sz 0 fun _ _ => .any) }

def LoopOb (R : Rn) (fid : Nat) (body : Code) (k : List It) (t : List SV) (fs : List Fr) (h : HS) (Q : Out → HS → Prop) : Prop :=
  ∃ (ι : Type) (st : ι → List SV × HS) (μ : ι → Nat) (mk : List (TypeId × Nat)), (∀ p, p ∈ mk → 0 < p.2) ∧ (∀ i, lenB (st i).2.blks = lenB h.blks ∧ lenV (st i).2.vecs = lenV h.vecs + mk.length) ∧ (∃ i, SubM t (mkH mk h) (st i)) ∧
    ∀ i, R fid (.code body :: .inv ι st μ i body :: k) (st i).1 fs (st i).2 Q

def run : Ctx → Nat → Rn
  | _, 0, _, _, _, _, _, _ => False
  | C, n + 1, fid, [], t, fs, h, Q => leaveS C (run C n) C.D fid t fs h Q (C.FN fid)
  | C, n + 1, fid, .code .skip :: k, t, fs, h, Q => run C n fid k t fs h Q
  | C, n + 1, fid, .code (.label _) :: k, t, fs, h, Q => run C n fid k t fs h Q
  | C, n + 1, fid, .code (.seq a b) :: k, t, fs, h, Q => run C n fid (.code a :: .code b :: k) t fs h Q
  | C, n + 1, fid, .code (.cond c a b) :: k, t, fs, h, Q => condS (run C n) (ev t c) fid a b k t fs h Q
  | C, n + 1, fid, .code (.block id c) :: k, t, fs, h, Q => run C n fid (.code c :: .blk id :: k) t fs h Q
  | C, n + 1, fid, .code (.loop body) :: k, t, fs, h, Q => LoopOb (run C n) fid body k t fs h Q
  | C, n + 1, fid, .code (.exit id) :: k, t, fs, h, Q => exitS (run C n) id k (exitI id k) fid t fs h Q
  | C, n + 1, fid, .code (.rangeFunc f params assign body) :: k, t, fs, h, Q => rngS C (run C n) (run C.off n) (ev t f) params assign body fid k t fs h Q
  | C, n + 1, fid, .code .ret :: k, t, fs, h, Q => retS (run C n) (rnd k) .ret fs h Q (leaveS C (run C n) C.D fid t fs h Q (C.FN fid))
  | C, n + 1, fid, .code (.region _ ops false) :: k, t, fs, h, Q => run C n fid (.reg ops (upto ops.toList 0) :: k) t fs h Q
  | C, n + 1, fid, .code (.region id ops true) :: k, t, fs, h, Q => drawS C (run C n) (run C.off n) Q (C.plan fid id) fid ops k t fs h
  | C, n + 1, fid, .blk _ :: k, t, fs, h, Q => run C n fid k t fs h Q
  | C, n + 1, fid, .inv ι st μ i body :: k, t, fs, h, Q => ∃ i', μ i' < μ i ∧ SubM t h (st i')
  | C, n + 1, fid, .reg ops [] :: k, t, fs, h, Q => run C n fid k t fs h Q
  | C, n + 1, fid, .reg ops (i :: idx) :: k, t, fs, h, Q => opS C (run C n) (run C.off n) (getO ops.toList i) fid ops i idx k t fs h Q
  | C, n + 1, fid, .endRng nm :: k, t, fs, h, Q => endRngS (run C n) (getB h.blks nm) nm fid k t fs h Q
  | C, n + 1, fid, .beginR :: k, t, fs, h, Q => beginRS (run C n) (rnd k) fid k t fs h Q
  | C, n + 1, fid, .endR nm :: _, t, fs, h, Q => endRS (run C n) (getB h.blks nm) nm none fs h Q
  | _, _ + 1, _, .inRng _ :: _, _, _, _, _ => False
  | _, _ + 1, _, .code _ :: _, _, _, _, _ => False
end Go.Eng
end

/- The symbolic machine is right: what it shows, the machine does. -/
section
namespace Go.Eng
open Go.RowKit
set_option linter.unusedVariables false

/-- A running frame of function fid. -/
structure Bt where
  ds : List Deferred
  kd : CallKind
  Fin : Ending → Machine → Prop
def fra (B : Bt) (ds : List Deferred) (ro : Option Nat) (fid : Nat) (tmps : Array Value) (todo : List Item) : Frame := { fn := fid, tmps, todo, defers := ds, mode := .run, kind := B.kd, roundOf := ro }
def base (B : Bt) (ro : Option Nat) (fid : Nat) : Frame := { (default : Frame) with fn := fid, kind := B.kd, roundOf := ro }
theorem fra_at (B : Bt) (ds : List Deferred) (ro : Option Nat) (fid : Nat) (tmps : Array Value) (todo : List Item) : fra B ds ro fid tmps todo = (base B ro fid).atR ⟨tmps, ds⟩ todo := rfl

structure CtxOk (C : Ctx) : Prop where
  T : TOk C.P C.T
  F : FOk C.P C.F
  FN : ∀ g fn, C.FN g = some fn → C.P.funcs[g]? = some fn
  G : ∀ g f, C.G g = some f → ∀ args h p v h1, f args h = some (p, v, h1) → p → CallsS C.P g args h fun o h' => o = .ret v ∧ h' = h1
  mix : C.P.follows .mixedOrders = true

/- ### names in what lies to be done -/
theorem kb_le {L M : Nat} (h : L ≤ M) : ∀ {k : List It}, kb L k → kb M k
  | [], _ => trivial
  | .code _ :: k, hk => by simp only [kb] at hk ⊢; exact kb_le h hk
  | .blk _ :: k, hk => by simp only [kb] at hk ⊢; exact kb_le h hk
  | .inv _ _ _ _ _ :: k, hk => by simp only [kb] at hk ⊢; exact kb_le h hk
  | .reg _ _ :: k, hk => by simp only [kb] at hk ⊢; exact kb_le h hk
  | .inRng nm :: k, hk => by simp only [kb] at hk ⊢; exact ⟨Nat.lt_of_lt_of_le hk.1 h, kb_le h hk.2⟩
  | .endRng nm :: k, hk => by simp only [kb] at hk ⊢; exact ⟨Nat.lt_of_lt_of_le hk.1 h, kb_le h hk.2⟩
  | .beginR :: k, hk => by simp only [kb] at hk ⊢; exact kb_le h hk
  | .endR nm :: k, hk => by simp only [kb] at hk ⊢; exact ⟨Nat.lt_of_lt_of_le hk.1 h, hk.2⟩
theorem items_eq {ρ ρ' : Nat → Nat} {L : Nat} (h : ∀ nm, nm < L → ρ' nm = ρ nm) : ∀ {k : List It}, kb L k → items ρ' k = items ρ k
  | [], _ => rfl
  | .code _ :: k, hk => by simp only [kb] at hk; simp only [items, items_eq h hk]
  | .blk _ :: k, hk => by simp only [kb] at hk; simp only [items, items_eq h hk]
  | .inv _ _ _ _ _ :: k, hk => by simp only [kb] at hk; simp only [items, items_eq h hk]
  | .reg _ _ :: k, hk => by simp only [kb] at hk; simp only [items, items_eq h hk]
  | .inRng nm :: k, hk => by simp only [kb] at hk; simp only [items, items_eq h hk.2, h nm hk.1]
  | .endRng nm :: k, hk => by simp only [kb] at hk; simp only [items, items_eq h hk.2, h nm hk.1]
  | .beginR :: k, hk => by simp only [kb] at hk; simp only [items, items_eq h hk]
  | .endR nm :: k, hk => by simp only [kb] at hk; simp only [items, hk.2]
def rnf (ρ : Nat → Nat) (k : List It) : Option Nat := (rnd k).map ρ
theorem rnd_lt {L : Nat} : ∀ {k : List It}, kb L k → ∀ nm, rnd k = some nm → nm < L
  | [], _, nm, h => by simp [rnd] at h
  | .code _ :: k, hk, nm, h => by simp only [kb] at hk; simp only [rnd] at h; exact rnd_lt hk nm h
  | .blk _ :: k, hk, nm, h => by simp only [kb] at hk; simp only [rnd] at h; exact rnd_lt hk nm h
  | .inv _ _ _ _ _ :: k, hk, nm, h => by simp only [kb] at hk; simp only [rnd] at h; exact rnd_lt hk nm h
  | .reg _ _ :: k, hk, nm, h => by simp only [kb] at hk; simp only [rnd] at h; exact rnd_lt hk nm h
  | .inRng _ :: k, hk, nm, h => by simp only [kb] at hk; simp only [rnd] at h; exact rnd_lt hk.2 nm h
  | .endRng _ :: k, hk, nm, h => by simp only [kb] at hk; simp only [rnd] at h; exact rnd_lt hk.2 nm h
  | .beginR :: k, hk, nm, h => by simp only [kb] at hk; simp only [rnd] at h; exact rnd_lt hk nm h
  | .endR m :: k, hk, nm, h => by simp only [kb] at hk; simp only [rnd, Option.some.injEq] at h; subst h; exact hk.1
theorem rnf_eq {ρ ρ' : Nat → Nat} {L : Nat} (h : ∀ nm, nm < L → ρ' nm = ρ nm) {k : List It} (hk : kb L k) : rnf ρ' k = rnf ρ k := by
  unfold rnf
  cases hr : rnd k with
  | none => rfl
  | some nm => simp only [Option.map_some, h nm (rnd_lt hk nm hr)]

/- ### marks -/
def mk1 (D : Nat) : Deferred := { target := .collected D, args := #[] }
def marks : List Nat → List Deferred
  | [] => []
  | D :: l => mk1 D :: marks l
/-- The marks among a frame's deferred calls: blocks of their own, from s on, below u. -/
def MarkOk (E : Env) (w : World) (s u : Nat) (l : List Nat) : Prop := l.Nodup ∧ ∀ D ∈ l, s ≤ D ∧ D < u ∧ D < w.heap.size ∧ E.own D = none ∧ w.heap[D]? = some (.deferred (some []))
def DsOk (E : Env) (w : World) (B : Bt) (s u : Nat) (ds : List Deferred) : Prop := ∃ l, ds = marks l ++ B.ds ∧ MarkOk E w s u l
theorem DsOk.ext {E E' : Env} {w w' : World} (hx : Ext E w E' w') {B : Bt} {s u u' : Nat} (hu : u ≤ u') {ds : List Deferred} (h : DsOk E w B s u ds) : DsOk E' w' B s u' ds := by
  obtain ⟨l, h1, h2, h3⟩ := h
  refine ⟨l, h1, h2, fun D hD => ?_⟩
  obtain ⟨a, b, c, d, e⟩ := h3 D hD
  obtain ⟨k1, k2⟩ := hx.keep D c d
  exact ⟨a, Nat.lt_of_lt_of_le b hu, Nat.lt_of_lt_of_le c hx.size, k1, k2.trans e⟩

section
variable (C : Ctx) (cs : List Frame) (B : Bt)
def Goal (m : Machine) : Prop := ∃ e m', B.Fin e m' ∧ Comes C.P m m' e

variable {C cs B}
theorem Goal.of_steps {m m' : Machine} (h : Steps C.P m m') (g : Goal C B m') : Goal C B m := by
  obtain ⟨e, m', f, c⟩ := g
  exact ⟨e, m', f, Comes.of_steps h c⟩
theorem Goal.step {m m' : Machine} (h : step C.P m = .next m') (g : Goal C B m') : Goal C B m := g.of_steps (.one h)

variable (C cs B)
/-- The loops that lie about: entered no later than u. -/
def InvK (E : Env) (w : World) (s u : Nat) (fid : Nat) (frs : List Frame) : List It → Prop
  | [] => True
  | .inv ι st μ i body :: k => (∃ Ee we, we.heap.size ≤ u ∧ Ext Ee we E w ∧ kb Ee.nb k ∧ (∀ j, lenB (st j).2.blks = Ee.nb ∧ lenV (st j).2.vecs = Ee.nv) ∧
      ∀ j, μ j < μ i → ∀ E' w' tmps' ds', Ext Ee we E' w' → DenA E' w' (st j).1 tmps' → RelH E' (st j).2 w' → DsOk E' w' B s w'.heap.size ds' →
        Goal C B (lone (fra B ds' (rnf E'.rho k) fid tmps' (.code body :: .inLoop body :: items E'.rho k)) (frs ++ cs) w')) ∧ InvK E w s u fid frs k
  | .code _ :: k => InvK E w s u fid frs k
  | .blk _ :: k => InvK E w s u fid frs k
  | .reg _ _ :: k => InvK E w s u fid frs k
  | .inRng _ :: k => InvK E w s u fid frs k
  | .endRng _ :: k => InvK E w s u fid frs k
  | .beginR :: k => InvK E w s u fid frs k
  | .endR _ :: k => True
/-- The frames beneath: each with the world's size at which it was entered (s1), below that at which the one above it was (s). -/
def StkOk (E : Env) (w : World) (s0 : Nat) : Nat → List Fr → List Frame → Prop
  | s, [], [] => s0 ≤ s
  | s, ⟨fid, k, t⟩ :: fs, fr :: frs => ∃ s1 ds tmps, s1 ≤ s ∧ s ≤ w.heap.size ∧ fr = fra B ds (rnf E.rho k) fid tmps (items E.rho k) ∧ DenA E w t tmps ∧ kb E.nb k ∧ DsOk E w B s1 s ds ∧ (∃ fn, C.P.funcs[fid]? = some fn) ∧ InvK C cs B E w s1 s fid frs k ∧ StkOk E w s0 s1 fs frs
  | _, _, _ => False
variable {C cs B}
theorem InvK.ext {E E' : Env} {w w' : World} (hx : Ext E w E' w') {s u u' : Nat} (hu : u ≤ u') {fid : Nat} {frs : List Frame} : ∀ {k : List It}, InvK C cs B E w s u fid frs k → InvK C cs B E' w' s u' fid frs k
  | [], _ => trivial
  | .inv ι st μ i body :: k, h => by
    simp only [InvK] at h ⊢
    obtain ⟨⟨Ee, we, h0, h1, h2⟩, h3⟩ := h
    exact ⟨⟨Ee, we, Nat.le_trans h0 hu, h1.trans hx, h2⟩, h3.ext hx hu⟩
  | .code _ :: k, h => by simp only [InvK] at h ⊢; exact InvK.ext hx hu h
  | .blk _ :: k, h => by simp only [InvK] at h ⊢; exact InvK.ext hx hu h
  | .reg _ _ :: k, h => by simp only [InvK] at h ⊢; exact InvK.ext hx hu h
  | .inRng _ :: k, h => by simp only [InvK] at h ⊢; exact InvK.ext hx hu h
  | .endRng _ :: k, h => by simp only [InvK] at h ⊢; exact InvK.ext hx hu h
  | .beginR :: k, h => by simp only [InvK] at h ⊢; exact InvK.ext hx hu h
  | .endR _ :: k, h => by simp only [InvK]
theorem StkOk.ext {E E' : Env} {w w' : World} (hx : Ext E w E' w') {s0 : Nat} : ∀ {s : Nat} {fs : List Fr} {frs : List Frame}, StkOk C cs B E w s0 s fs frs → StkOk C cs B E' w' s0 s fs frs
  | s, [], [], h => h
  | s, [], _ :: _, h => by simp only [StkOk] at h
  | s, ⟨fid, k, t⟩ :: fs, [], h => by simp only [StkOk] at h
  | s, ⟨fid, k, t⟩ :: fs, fr :: frs, h => by
    simp only [StkOk] at h ⊢
    obtain ⟨s1, ds, tmps, h1, h2, h3, h4, h5, h6, h7, h8, h9⟩ := h
    refine ⟨s1, ds, tmps, h1, Nat.le_trans h2 hx.size, ?_, h4.ext hx, kb_le hx.nb h5, h6.ext hx (Nat.le_refl _), h7, h8.ext hx (Nat.le_refl _), h9.ext hx⟩
    rw [h3, items_eq (fun nm hn => hx.rho nm hn) h5, rnf_eq (fun nm hn => hx.rho nm hn) h5]

theorem items_exit {ρ : Nat → Nat} (id : Nat) : ∀ (k k' : List It) {L : Nat}, kb L k → exitI id k = some k' → exitTo id (items ρ k) = some (items ρ k')
  | [], k', _, _, h => by simp [exitI] at h
  | .blk id' :: k, k', L, hk, h => by
    simp only [exitI] at h
    simp only [kb] at hk
    simp only [items, exitTo]
    split at h
    · rename_i e; subst e; cases h; simp
    · rename_i e
      have : (id' == id) = false := by simpa using e
      simp only [this, Bool.false_eq_true, if_false]
      exact items_exit id k k' hk h
  | .code _ :: k, k', L, hk, h => by simp only [exitI] at h; simp only [kb] at hk; simp only [items, exitTo]; exact items_exit id k k' hk h
  | .inv _ _ _ _ _ :: k, k', L, hk, h => by simp only [exitI] at h; simp only [kb] at hk; simp only [items, exitTo]; exact items_exit id k k' hk h
  | .reg _ _ :: k, k', L, hk, h => by simp only [exitI] at h; simp only [kb] at hk; simp only [items, exitTo]; exact items_exit id k k' hk h
  | .inRng _ :: k, k', L, hk, h => by simp only [exitI] at h; simp only [kb] at hk; simp only [items, exitTo]; exact items_exit id k k' hk.2 h
  | .endRng _ :: k, k', L, hk, h => by simp only [exitI] at h; simp only [kb] at hk; simp only [items, exitTo]; exact items_exit id k k' hk.2 h
  | .beginR :: k, k', L, hk, h => by simp only [exitI] at h; simp only [kb] at hk; simp only [items, exitTo]; exact items_exit id k k' hk h
  | .endR _ :: k, k', L, hk, h => by simp only [kb] at hk; obtain ⟨_, rfl⟩ := hk; simp [exitI] at h
theorem items_noexit {ρ : Nat → Nat} (id : Nat) : ∀ (k : List It) {L : Nat}, kb L k → exitI id k = none → exitTo id (items ρ k) = none
  | [], _, _, h => by simp [items, exitTo]
  | .blk id' :: k, L, hk, h => by
    simp only [exitI] at h
    simp only [kb] at hk
    simp only [items, exitTo]
    split at h
    · cases h
    · rename_i e
      have : (id' == id) = false := by simpa using e
      simp only [this, Bool.false_eq_true, if_false]
      exact items_noexit id k hk h
  | .code _ :: k, L, hk, h => by simp only [exitI] at h; simp only [kb] at hk; simp only [items, exitTo]; exact items_noexit id k hk h
  | .inv _ _ _ _ _ :: k, L, hk, h => by simp only [exitI] at h; simp only [kb] at hk; simp only [items, exitTo]; exact items_noexit id k hk h
  | .reg _ _ :: k, L, hk, h => by simp only [exitI] at h; simp only [kb] at hk; simp only [items, exitTo]; exact items_noexit id k hk h
  | .inRng _ :: k, L, hk, h => by simp only [exitI] at h; simp only [kb] at hk; simp only [items, exitTo]; exact items_noexit id k hk.2 h
  | .endRng _ :: k, L, hk, h => by simp only [exitI] at h; simp only [kb] at hk; simp only [items, exitTo]; exact items_noexit id k hk.2 h
  | .beginR :: k, L, hk, h => by simp only [exitI] at h; simp only [kb] at hk; simp only [items, exitTo]; exact items_noexit id k hk h
  | .endR _ :: k, L, hk, h => by simp only [kb] at hk; obtain ⟨_, rfl⟩ := hk; simp [items, exitTo]
theorem exit_keeps {E : Env} {w : World} {s u : Nat} {fid : Nat} {frs : List Frame} (id : Nat) : ∀ (k k' : List It), kb E.nb k → exitI id k = some k' → InvK C cs B E w s u fid frs k → InvK C cs B E w s u fid frs k' ∧ kb E.nb k' ∧ rnd k' = rnd k
  | [], k', _, h, _ => by simp [exitI] at h
  | .blk id' :: k, k', hk, h, hi => by
    simp only [exitI] at h
    simp only [InvK] at hi
    simp only [kb] at hk
    split at h
    · cases h; exact ⟨hi, hk, by simp only [rnd]⟩
    · obtain ⟨a, b, c⟩ := exit_keeps id k k' hk h hi; exact ⟨a, b, by simp only [rnd]; exact c⟩
  | .code _ :: k, k', hk, h, hi => by simp only [exitI] at h; simp only [InvK] at hi; simp only [kb] at hk; simp only [rnd]; exact exit_keeps id k k' hk h hi
  | .inv _ _ _ _ _ :: k, k', hk, h, hi => by simp only [exitI] at h; simp only [InvK] at hi; simp only [kb] at hk; simp only [rnd]; exact exit_keeps id k k' hk h hi.2
  | .reg _ _ :: k, k', hk, h, hi => by simp only [exitI] at h; simp only [InvK] at hi; simp only [kb] at hk; simp only [rnd]; exact exit_keeps id k k' hk h hi
  | .inRng _ :: k, k', hk, h, hi => by simp only [exitI] at h; simp only [InvK] at hi; simp only [kb] at hk; simp only [rnd]; exact exit_keeps id k k' hk.2 h hi
  | .endRng _ :: k, k', hk, h, hi => by simp only [exitI] at h; simp only [InvK] at hi; simp only [kb] at hk; simp only [rnd]; exact exit_keeps id k k' hk.2 h hi
  | .beginR :: k, k', hk, h, hi => by simp only [exitI] at h; simp only [InvK] at hi; simp only [kb] at hk; simp only [rnd]; exact exit_keeps id k k' hk h hi
  | .endR _ :: k, k', hk, h, hi => by simp only [kb] at hk; obtain ⟨_, rfl⟩ := hk; simp [exitI] at h

theorem put_den {ds : List Deferred} {E : Env} {w : World} {t : List SV} {tmps : Array Value} (h : DenA E w t tmps) (d : Option Nat) {x : SV} {v : Value} (hx : Den E w x v) : DenA E w (put t d x) ((⟨tmps, ds⟩ : Act).put d v).tmps := by
  cases d with
  | none => exact h
  | some i => exact h.set i hx

/- ### subsumption -/
theorem subX_den {E : Env} {w : World} {x y : SV} {v : Value} (h : subX x y) (hd : Den E w x v) : Den E w y v := by
  unfold subX at h
  split at h
  · exact .any v
  · split at h
    · obtain ⟨rfl, rfl, hf⟩ := h
      cases hd
      · rename_i A cap g hA ho hn hc h1 hd
        exact .row A cap g hA ho hn hc h1 (fun i j hi hj => by rw [← hf i j hi hj]; exact hd i j hi hj)
      · exact .rowZ _ _
    · exact h.elim
  · subst h; exact hd
theorem subL_den {E : Env} {w : World} : ∀ {l k : List SV}, subL l k → l.length = k.length ∧ ∀ (i : Nat) (y : SV), k[i]? = some y → ∃ x, l[i]? = some x ∧ subX x y
  | [], [], _ => ⟨rfl, fun i y h => by simp at h⟩
  | x :: l, y :: k, h => by
    simp only [subL] at h
    obtain ⟨h1, h2⟩ := subL_den (E := E) (w := w) h.2
    refine ⟨by simp [h1], fun i z hz => ?_⟩
    cases i with
    | zero => simp at hz; subst hz; exact ⟨x, rfl, h.1⟩
    | succ i => simp at hz; simpa using h2 i z hz
  | [], _ :: _, h => by simp [subL] at h
  | _ :: _, [], h => by simp [subL] at h
theorem subL_denA {E : Env} {w : World} {l k : List SV} {vs : Array Value} (h : subL l k) (hd : DenA E w l vs) : DenA E w k vs := by
  obtain ⟨h1, h2⟩ := subL_den (E := E) (w := w) h
  refine ⟨by rw [hd.1, h1], fun i y u hy hu => ?_⟩
  obtain ⟨x, hx, hs⟩ := h2 i y hy
  exact subX_den hs (hd.2 i x u hx hu)
theorem subB_get : ∀ {l k : List Blk} {nm ty c}, subB l k → getB k nm = .live ty c → ∃ c', getB l nm = .live ty c' ∧ subL c' c
  | _, [], nm, ty, c, _, h => by simp [getB] at h
  | [], _ :: _, nm, ty, c, h, _ => by simp [subB] at h
  | x :: l, y :: k, 0, ty, c, h, hg => by
    simp only [subB] at h
    simp only [getB] at hg ⊢
    subst hg
    have h1 := h.1
    cases x with
    | dead => simp [subBk] at h1
    | live ty' c' => simp only [subBk] at h1; obtain ⟨rfl, h2⟩ := h1; exact ⟨c', rfl, h2⟩
    | loop _ _ _ _ _ _ _ => simp [subBk] at h1
  | x :: l, y :: k, nm + 1, ty, c, h, hg => by simp only [subB] at h; simp only [getB] at hg ⊢; exact subB_get h.2 hg
theorem subB_getL : ∀ {l k : List Blk} {nm a b c d e f g}, subB l k → getB k nm = .loop a b c d e f g → getB l nm = .loop a b c d e f g
  | _, [], nm, _, _, _, _, _, _, _, _, h => by simp [getB] at h
  | [], _ :: _, nm, _, _, _, _, _, _, _, h, _ => by simp [subB] at h
  | x :: l, y :: k, 0, _, _, _, _, _, _, _, h, hg => by
    simp only [subB] at h
    simp only [getB] at hg ⊢
    subst hg
    have h1 := h.1
    simp only [subBk] at h1
    exact h1
  | x :: l, y :: k, nm + 1, _, _, _, _, _, _, _, h, hg => by simp only [subB] at h; simp only [getB] at hg ⊢; exact subB_getL h.2 hg
theorem subV_get : ∀ {l k : List Vc} {id ver ty sz n f}, subV l k → getV k id = .live ver ty sz n f → ∃ f', getV l id = .live ver ty sz n f' ∧ ∀ i j, i < n → j < sz → f' i j = f i j
  | _, [], id, ver, ty, sz, n, f, _, h => by simp [getV] at h
  | [], _ :: _, id, ver, ty, sz, n, f, h, _ => by simp [subV] at h
  | x :: l, y :: k, 0, ver, ty, sz, n, f, h, hg => by
    simp only [subV] at h
    simp only [getV] at hg ⊢
    subst hg
    have h1 := h.1
    cases x with
    | dead => simp [subVk] at h1
    | live a b c d e => simp only [subVk] at h1; obtain ⟨rfl, rfl, rfl, rfl, h2⟩ := h1; exact ⟨e, rfl, h2⟩
  | x :: l, y :: k, id + 1, ver, ty, sz, n, f, h, hg => by simp only [subV] at h; simp only [getV] at hg ⊢; exact subV_get h.2 hg
theorem bdB_get {L M : Nat} : ∀ {l : List Blk} {nm ty c}, bdB L M l → getB l nm = .live ty c → BdL L M c
  | [], nm, ty, c, _, h => by simp [getB] at h
  | .live _ _ :: l, 0, ty, c, h, hg => by simp only [bdB] at h; simp only [getB] at hg; cases hg; exact h.1
  | .dead :: l, 0, ty, c, h, hg => by simp [getB] at hg
  | .loop _ _ _ _ _ _ _ :: l, 0, ty, c, h, hg => by simp [getB] at hg
  | .loop _ _ _ _ _ _ _ :: l, nm + 1, ty, c, h, hg => by simp only [bdB] at h; simp only [getB] at hg; exact bdB_get h.2 hg
  | .live _ _ :: l, nm + 1, ty, c, h, hg => by simp only [bdB] at h; simp only [getB] at hg; exact bdB_get h.2 hg
  | .dead :: l, nm + 1, ty, c, h, hg => by simp only [bdB] at h; simp only [getB] at hg; exact bdB_get h hg
theorem bdB_getL {L M : Nat} : ∀ {l : List Blk} {nm a b c d e f g}, bdB L M l → getB l nm = .loop a b c d e f g → BdL L M d
  | [], nm, _, _, _, _, _, _, _, _, h => by simp [getB] at h
  | .live _ _ :: l, 0, _, _, _, _, _, _, _, h, hg => by simp [getB] at hg
  | .dead :: l, 0, _, _, _, _, _, _, _, h, hg => by simp [getB] at hg
  | .loop _ _ _ _ _ _ _ :: l, 0, _, _, _, _, _, _, _, h, hg => by simp only [bdB] at h; simp only [getB] at hg; cases hg; exact h.1
  | .live _ _ :: l, nm + 1, _, _, _, _, _, _, _, h, hg => by simp only [bdB] at h; simp only [getB] at hg; exact bdB_getL h.2 hg
  | .dead :: l, nm + 1, _, _, _, _, _, _, _, h, hg => by simp only [bdB] at h; simp only [getB] at hg; exact bdB_getL h hg
  | .loop _ _ _ _ _ _ _ :: l, nm + 1, _, _, _, _, _, _, _, h, hg => by simp only [bdB] at h; simp only [getB] at hg; exact bdB_getL h.2 hg
theorem bdV_get {L M : Nat} : ∀ {l : List Vc} {id ver ty sz n f}, bdV L M l → getV l id = .live ver ty sz n f → ∀ i j, i < n → j < sz → Bd L M (f i j)
  | [], id, ver, ty, sz, n, f, _, h => by simp [getV] at h
  | .live _ _ _ _ _ :: l, 0, ver, ty, sz, n, f, h, hg => by simp only [bdV] at h; simp only [getV] at hg; cases hg; exact h.1
  | .dead :: l, 0, ver, ty, sz, n, f, h, hg => by simp [getV] at hg
  | .live _ _ _ _ _ :: l, id + 1, ver, ty, sz, n, f, h, hg => by simp only [bdV] at h; simp only [getV] at hg; exact bdV_get h.2 hg
  | .dead :: l, id + 1, ver, ty, sz, n, f, h, hg => by simp only [bdV] at h; simp only [getV] at hg; exact bdV_get h hg

/-- To a state that says less, with fewer names. -/
theorem SubS.go {E : Env} {w : World} {t : List SV} {h : HS} {s : List SV × HS} (hs : SubS t h s) {tmps : Array Value} (hd : DenA E w t tmps) (hr : RelH E h w) (L M : Nat) (hL : lenB s.2.blks = L) (hM : lenV s.2.vecs = M) (hLE : L ≤ E.nb) (hME : M ≤ E.nv) :
    DenA { E with nb := L, nv := M } w s.1 tmps ∧ RelH { E with nb := L, nv := M } s.2 w := by
  subst hL
  subst hM
  have turn : ∀ {x : SV} {v : Value}, Den E w x v → Bd (lenB s.2.blks) (lenV s.2.vecs) x → Den { E with nb := lenB s.2.blks, nv := lenV s.2.vecs } w x v := fun hx hb =>
    hx.turn hb (fun _ _ _ => rfl) (fun _ _ _ _ _ h => h) (fun _ _ h => h)
  have turnA : ∀ {l : List SV} {vs : Array Value}, DenA E w l vs → BdL (lenB s.2.blks) (lenV s.2.vecs) l → DenA { E with nb := lenB s.2.blks, nv := lenV s.2.vecs } w l vs := fun hx hb =>
    ⟨hx.1, fun i x u h1 h2 => turn (hx.2 i x u h1 h2) (BdL_get hb i x h1)⟩
  refine ⟨turnA (subL_denA hs.t hd) hs.bt, rfl, rfl, ?_, ?_, hr.own, fun nm st pend fid t params assign body hg => ?_⟩
  · intro nm ty c hg
    obtain ⟨c', h1, h2⟩ := subB_get hs.b hg
    obtain ⟨vs, a1, a2, a3, a4⟩ := hr.blk nm ty c' h1
    exact ⟨vs, a1, turnA (subL_denA h2 a2) (bdB_get hs.bb hg), a3, a4⟩
  · intro id ver ty sz n f hg
    obtain ⟨f', h1, h2⟩ := subV_get hs.v hg
    obtain ⟨h0, ⟨a, cap, k1, k2⟩, k3⟩ := hr.vec _ _ _ _ _ _ h1
    refine ⟨h0, ⟨a, cap, k1, ?_⟩, k3⟩
    rcases k2 with hk | ⟨g1, cur, q1, q2, q3, q4, q5, q6, q7, q8⟩
    · exact .inl hk
    · exact .inr ⟨g1, cur, q1, q2, q3, q4, q5, q6, q7, fun i j u hi hj hu => turn (by rw [← h2 i j hi hj]; exact q8 i j u hi hj hu) (bdV_get hs.bv hg i j hi hj)⟩
  · obtain ⟨tmps', db, a1, a2, a3⟩ := hr.lp _ _ _ _ _ _ _ _ (subB_getL hs.b hg)
    exact ⟨tmps', db, a1, turnA a2 (bdB_getL hs.bb hg), a3⟩

def retag (i0 i1 : Nat) : Option Tag → Option Tag
  | some (.vec i) => if i = i1 then some (.vec i0) else some (.vec i)
  | x => x
theorem retag_none {i0 i1 : Nat} {x : Option Tag} (h : retag i0 i1 x = none) : x = none := by
  unfold retag at h
  split at h
  · split at h <;> cases h
  · exact h
theorem retag_some {i0 i1 : Nat} {x : Option Tag} {t : Tag} (h : retag i0 i1 x = some t) : ∃ t', x = some t' := by
  cases x with
  | none => simp [retag] at h
  | some t' => exact ⟨t', rfl⟩
def Env.mv (E : Env) (i0 v i1 v1 : Nat) : Env := { E with val := fun i u => if i = i0 ∧ u = v then E.val i1 v1 else E.val i u, own := fun b => retag i0 i1 (E.own b) }
theorem ext_mv {E : Env} {w : World} {i0 i1 v v1 : Nat} (hn : E.val i0 v = none) : Ext E w (E.mv i0 v i1 v1) w := by
  refine ⟨rfl, rfl, rfl, Nat.le_refl _, Nat.le_refl _, Nat.le_refl _, fun _ _ => rfl, fun id ver x _ h => ?_, fun b _ h => ⟨?_, rfl⟩, fun b h => ⟨?_, rfl⟩⟩
  · simp only [Env.mv]
    rw [if_neg]
    · exact h
    · rintro ⟨rfl, rfl⟩
      rw [hn] at h
      cases h
  · simp only [Env.mv]; rw [h]; rfl
  · simp only [Env.mv]; rw [h]; rfl
theorem mv_ok {E : Env} {w : World} {h : HS} (hr : RelH E h w) {i0 i1 v0 ty0 sz0 n0 f0 v1 ty sz n f} (h0 : getV h.vecs i0 = .live v0 ty0 sz0 n0 f0) (h1 : getV h.vecs i1 = .live v1 ty sz n f) (hne : i0 ≠ i1) :
    Ext E w (E.mv i0 (v0 + 1) i1 v1) w ∧ RelH (E.mv i0 (v0 + 1) i1 v1) { h with vecs := setV (setV h.vecs i0 (.live (v0 + 1) ty sz n f)) i1 .dead } w := by
  obtain ⟨a0, a1, a2⟩ := hr.vec _ _ _ _ _ _ h0
  have hx : Ext E w (E.mv i0 (v0 + 1) i1 v1) w := ext_mv (a2 _ (by omega))
  refine ⟨hx, hr.nb, by rw [lenV_set, lenV_set]; exact hr.nv, ?_, ?_, ?_, ?_⟩
  · intro nm ty' cells hb
    obtain ⟨cs, b1, b2, b3, b4⟩ := hr.blk nm ty' cells hb
    exact ⟨cs, b1, b2.ext hx, b3, by simp only [Env.mv]; rw [b4]; rfl⟩
  · intro id ver ty' sz' n' f' hg
    simp only [getV_set, lenV_set] at hg
    split at hg
    · cases hg
    · rename_i hid
      split at hg
      · rename_i hid0
        cases hg
        obtain ⟨rfl, _⟩ := hid0
        obtain ⟨c0, ⟨a, cap, k1, k2⟩, _⟩ := hr.vec _ _ _ _ _ _ h1
        refine ⟨c0, ⟨a, cap, by simp [Env.mv, k1], ?_⟩, fun v' hv' => by simp only [Env.mv]; rw [if_neg (by omega)]; exact a2 v' (by omega)⟩
        rcases k2 with hk | ⟨g1, cur, q1, q2, q3, q4, q5, q6, q7, q8⟩
        · exact .inl hk
        · exact .inr ⟨g1, cur, q1, q2, q3, q4, q5, by simp [Env.mv, q6, retag], q7, fun i j u hi hj hu => (q8 i j u hi hj hu).ext hx⟩
      · rename_i hid0
        have hlt := getV_lt hg
        have hi1 : id ≠ i1 := fun e => hid ⟨e, by rw [← e]; exact hlt⟩
        have hi0 : id ≠ i0 := fun e => hid0 ⟨e, by rw [← e]; exact hlt⟩
        obtain ⟨c0, ⟨a, cap, k1, k2⟩, k3⟩ := hr.vec _ _ _ _ _ _ hg
        refine ⟨c0, ⟨a, cap, by simp only [Env.mv]; rw [if_neg (by omega)]; exact k1, k2.ext hx (fun g hg' => ⟨rfl, by simp only [Env.mv]; rw [hg']; simp [retag, hi1]⟩)⟩, fun v' hv' => by simp only [Env.mv]; rw [if_neg (by omega)]; exact k3 v' hv'⟩
  · intro b t hb
    obtain ⟨t', ht'⟩ := retag_some hb
    exact hr.own _ _ ht'
  · intro nm st pend fid t params assign body hg
    exact (hr.lp _ _ _ _ _ _ _ _ hg).ext hx (fun ho => ⟨rfl, rfl, by simp only [Env.mv]; rw [ho]; rfl⟩)
theorem updA_den {E : Env} {w : World} {x : SV} : ∀ {js : List Nat} {l : List SV} {vs : Array Value}, DenA E w l vs → (∀ j, j ∈ js → Den E w x (vs.getD j undef)) → DenA E w (updA l js x) vs
  | [], _, _, hd, _ => hd
  | j :: js, l, vs, hd, h => by
    refine updA_den (js := js) ?_ (fun j' hj' => h j' (List.mem_cons_of_mem _ hj'))
    have := hd.set j (h j List.mem_cons_self)
    have e : vs.setIfInBounds j (vs.getD j undef) = vs := by
      apply Array.ext
      · simp
      · intro i h1 h2
        rw [Array.getElem_setIfInBounds]
        split
        · rename_i e; subst e; simp [Array.getD, h2]
        · rfl
    rw [e] at this
    exact this
/-- To a state of a loop. -/
theorem SubM.go {t : List SV} {h : HS} {s : List SV × HS} (hs : SubM t h s) : ∀ {E : Env} {w : World} {tmps : Array Value}, DenA E w t tmps → RelH E h w → ∀ (L M : Nat), lenB s.2.blks = L → lenV s.2.vecs = M → L ≤ E.nb → M ≤ E.nv →
    ∃ E', E'.rho = E.rho ∧ Ext E w E' w ∧ DenA { E' with nb := L, nv := M } w s.1 tmps ∧ RelH { E' with nb := L, nv := M } s.2 w := by
  induction hs with
  | sub hsub =>
    intro E w tmps hd hr L M hL hM h1 h2
    exact ⟨E, rfl, Ext.refl E w, hsub.go hd hr L M hL hM h1 h2⟩
  | mv i0 i1 js h0 h1 hne hj _ ih =>
    intro E w tmps hd hr L M hL hM hLE hME
    obtain ⟨hx, hr'⟩ := mv_ok hr h0 h1 hne
    obtain ⟨c0, ⟨a, cap, k1, k2⟩, _⟩ := hr.vec _ _ _ _ _ _ h1
    obtain ⟨E', e1, e2, e3⟩ := ih (updA_den (hd.ext hx) (fun j hjm => by
      have hj' := hd.nth j
      rw [hj j hjm] at hj'
      generalize tmps.getD j undef = u at hj' ⊢
      cases hj' with
      | vec hi hv =>
        rw [k1] at hv
        cases hv
        have hlt0 := getV_lt h0
        exact .vec (by simp only [Env.mv]; rw [hr.nv]; exact hlt0) (by simp [Env.mv, k1]))) hr' L M hL hM hLE hME
    exact ⟨E', e1, hx.trans e2, e3⟩
theorem mkH_ok : ∀ (mk : List (TypeId × Nat)), (∀ p, p ∈ mk → 0 < p.2) → ∀ {E : Env} {h : HS} {w : World}, RelH E h w → ∃ E', E'.rho = E.rho ∧ Ext E w E' w ∧ RelH E' (mkH mk h) w
  | [], _, E, _, w, hr => ⟨E, rfl, Ext.refl E w, hr⟩
  | (ty, sz) :: l, hp, E, h, w, hr => by
    obtain ⟨E', e1, e2, e3⟩ := mkH_ok l (fun p hm => hp p (List.mem_cons_of_mem _ hm)) (hr.newVec ty sz (hp _ List.mem_cons_self) (fun _ _ => .any))
    exact ⟨E', e1, (ext_newV E w).trans e2, e3⟩
theorem mkH_len : ∀ (mk : List (TypeId × Nat)) (h : HS), lenB (mkH mk h).blks = lenB h.blks ∧ lenV (mkH mk h).vecs = lenV h.vecs + mk.length
  | [], h => ⟨rfl, rfl⟩
  | (ty, sz) :: l, h => by
    obtain ⟨a, b⟩ := mkH_len l { h with vecs := snocV h.vecs (.live 0 ty sz 0 fun _ _ => .any) }
    exact ⟨a, by simp only [mkH]; rw [b, lenV_snoc]; simp only [List.length_cons]; omega⟩

/- ### results -/
def rv1 (tmps : Array Value) (r : ResultVar) : Sem Value :=
  match r with
  | .tmp t => pure (tmps.getD t undef)
  | .cell a t => do loadVar t (← asAddr (tmps.getD a undef))
theorem resL_ok {P : Program} {T : Nat → Option TI} (hT : TOk P T) {E : Env} {w : World} {t : List SV} {h : HS} {tmps : Array Value} (hd : DenA E w t tmps) (hr : RelH E h w) :
    ∀ (l : List ResultVar) (p : Prop) (vs : List SV), resL T t h l = some (p, vs) → p →
      ∃ us : List Value, (l.mapM (rv1 tmps)).run P w = .ok us w ∧ us.length = vs.length ∧ ∀ (i : Nat) (x : SV) (u : Value), vs[i]? = some x → us[i]? = some u → Den E w x u
  | [], p, vs, hl, hp => by simp [resL] at hl; obtain ⟨_, rfl⟩ := hl; exact ⟨[], by simp, rfl, fun i x u hx => by simp at hx⟩
  | .tmp i :: l, p, vs, hl, hp => by
    simp only [resL] at hl
    cases hr2 : resL T t h l with
    | none => simp [hr2] at hl
    | some pv =>
      obtain ⟨p', vs'⟩ := pv
      simp only [hr2, Option.some.injEq, Prod.mk.injEq] at hl
      obtain ⟨rfl, rfl⟩ := hl
      obtain ⟨us, h1, h2, h3⟩ := resL_ok hT hd hr l p' vs' hr2 hp
      refine ⟨tmps.getD i undef :: us, by simp [List.mapM_cons, rv1, h1], by simp [h2], fun k x u hx hu => ?_⟩
      cases k with
      | zero => simp at hx hu; subst hx hu; simpa using hd.nth i
      | succ k => simp at hx hu; exact h3 k x u hx hu
  | .cell a ty :: l, p, vs, hl, hp => by
    simp only [resL] at hl
    cases hti : T ty with
    | none => simp [hti] at hl
    | some ti =>
      simp only [hti] at hl
      have hload := rLoad_at (P := P) hr (hT _ _ hti) (hd.nth a)
      cases hrl : rLoad ti h (nth t a) with
      | val q v h' =>
        cases hr2 : resL T t h l with
        | none => simp [hrl, hr2] at hl
        | some pv =>
          obtain ⟨p', vs'⟩ := pv
          simp only [hrl, hr2, Option.some.injEq, Prod.mk.injEq] at hl
          obtain ⟨rfl, rfl⟩ := hl
          obtain ⟨us, h1, h2, h3⟩ := resL_ok hT hd hr l p' vs' hr2 hp.2
          rw [hrl] at hload
          obtain ⟨A, val, e, k1, k2, _⟩ := hload hp.1
          refine ⟨val :: us, by simp only [List.mapM_cons, rv1, e]; simp [asAddr, k1, h1], by simp [h2], fun k x u hx hu => ?_⟩
          cases k with
          | zero => simp at hx hu; subst hx hu; exact k2
          | succ k => simp at hx hu; exact h3 k x u hx hu
      | _ => simp [hrl] at hl
theorem results_ok {P : Program} {T : Nat → Option TI} (hT : TOk P T) {E : Env} {w : World} {t : List SV} {h : HS} {tmps : Array Value} (hd : DenA E w t tmps) (hr : RelH E h w) (fn : Func)
    {p : Prop} {vs : List SV} (hl : resL T t h fn.results.toList = some (p, vs)) (hp : p) : ∃ v, (results fn tmps).run P w = .ok v w ∧ Den E w (oneR vs) v := by
  obtain ⟨us, h1, h2, h3⟩ := resL_ok (P := P) hT hd hr _ _ _ hl hp
  have hres : results fn tmps = (fn.results.mapM (rv1 tmps) >>= fun vs => pure (if h : vs.size = 1 then vs[0] else .tuple vs)) := by
    unfold results
    congr 1
  have e : (results fn tmps).run P w = .ok (if h : us.toArray.size = 1 then us.toArray[0] else .tuple us.toArray) w := by
    rw [hres, Array.mapM_eq_mapM_toList]
    simp only [Sem.run_bind, Sem.run_map, h1, Result.andThen_ok, Sem.run_pure]
  refine ⟨_, e, ?_⟩
  match vs, us, h2, h3 with
  | [x], [u], _, h3 => exact h3 0 x u rfl rfl
  | [], [], _, h3 => exact .tup _ rfl (fun i x u hx => by simp at hx)
  | x :: y :: l, u :: v :: k, h2, h3 =>
    simp only [oneR]
    rw [dif_neg (by simp)]
    exact .tup _ (by simpa using h2) (fun i a b ha hb => h3 i a b ha (by simpa using hb))
end
end Go.Eng
end

/- The symbolic machine is right: frames and their ends. -/
section
namespace Go.Eng
open Go.RowKit
set_option linter.unusedVariables false

section
variable {P : Program} {b : Frame} {a : Act} {k : List Item} {cs : List Frame} {w w' : World} {ops : Array Oper} {i : Nat} {rest : List Nat} {o : Oper}
theorem op_value (hn : ∀ c, o.op ≠ .defer c) (ho : ops[i]? = some o) (hw : Region.wanted o (yielded ops a.tmps) = true) {v : Value} (hr : (execOp a.eval o).run P w = .ok (.value v) w') :
    step P (lone (b.atR a (.inRegion ops (i :: rest) :: k)) cs w) = .next (lone (b.atR (a.put o.dst v) (.inRegion ops rest :: k)) cs w') := by
  have hg := stepGR_op (P := P) (b := b) (k := k) (cs := cs) (w := w) (rest := rest) ho hw
  rw [Oper.semAt_eq _ _ _ hn] at hg
  have hfin : (b.atR a (.inRegion ops (i :: rest) :: k)).finish v = b.atR (a.put o.dst v) (.inRegion ops rest :: k) := by rw [Frame.finish_atR, ho]; rfl
  exact step_lone_go (by rw [hg, ← hfin]; simp [stepG.apply, hr])
theorem op_skip (hn : ∀ c, o.op ≠ .defer c) (ho : ops[i]? = some o) (hw : Region.wanted o (yielded ops a.tmps) = true) (hr : (execOp a.eval o).run P w = .ok .skip w') :
    step P (lone (b.atR a (.inRegion ops (i :: rest) :: k)) cs w) = .next (lone (b.atR (a.put o.dst undef) (.inRegion ops rest :: k)) cs w') := by
  have hg := stepGR_op (P := P) (b := b) (k := k) (cs := cs) (w := w) (rest := rest) ho hw
  rw [Oper.semAt_eq _ _ _ hn] at hg
  have hfin : (b.atR a (.inRegion ops (i :: rest) :: k)).finish undef = b.atR (a.put o.dst undef) (.inRegion ops rest :: k) := by rw [Frame.finish_atR, ho]; rfl
  exact step_lone_go (by rw [hg, ← hfin]; simp [stepG.apply, hr])
theorem op_enter (hn : ∀ c, o.op ≠ .defer c) (ho : ops[i]? = some o) (hw : Region.wanted o (yielded ops a.tmps) = true) {f : Nat} {args : Array Value} (hr : (execOp a.eval o).run P w = .ok (.enter f args) w') :
    step P (lone (b.atR a (.inRegion ops (i :: rest) :: k)) cs w) = .next (lone (Frame.enter P f args .normal) (b.atR a (.inRegion ops (i :: rest) :: k) :: cs) w') := by
  have hg := stepGR_op (P := P) (b := b) (k := k) (cs := cs) (w := w) (rest := rest) ho hw
  rw [Oper.semAt_eq _ _ _ hn] at hg
  exact step_lone_go (by rw [hg]; simp [stepG.apply, hr, Frame.atR])
theorem op_round (hn : ∀ c, o.op ≠ .defer c) (ho : ops[i]? = some o) (hw : Region.wanted o (yielded ops a.tmps) = true) {l f : Nat} {tmps : Array Value} {x y : Code} (hr : (execOp a.eval o).run P w = .ok (.round l f tmps x y) w') :
    step P (lone (b.atR a (.inRegion ops (i :: rest) :: k)) cs w) = .next (lone (Frame.round l f tmps x y .normal) (b.atR a (.inRegion ops (i :: rest) :: k) :: cs) w') := by
  have hg := stepGR_op (P := P) (b := b) (k := k) (cs := cs) (w := w) (rest := rest) ho hw
  rw [Oper.semAt_eq _ _ _ hn] at hg
  exact step_lone_go (by rw [hg]; simp [stepG.apply, hr, Frame.atR])
theorem op_panic (hn : ∀ c, o.op ≠ .defer c) (ho : ops[i]? = some o) (hw : Region.wanted o (yielded ops a.tmps) = true) {v : Value} (hr : (execOp a.eval o).run P w = .halt (.panic v) w') :
    step P (lone (b.atR a (.inRegion ops (i :: rest) :: k)) cs w) = .next (lone { b.atR a (.inRegion ops (i :: rest) :: k) with mode := .panicking [{ v, recovered := false }] } cs w') := by
  have hg := stepGR_op (P := P) (b := b) (k := k) (cs := cs) (w := w) (rest := rest) ho hw
  rw [Oper.semAt_eq _ _ _ hn] at hg
  exact step_lone_go (by rw [hg, ← Frame.raise_atR]; simp [stepG.apply, hr])
end

/- ### marks are taken -/
structure Tk (E : Env) (w w1 : World) (s : Nat) : Prop where
  os : w1.os = w.os
  tape : w1.tape = w.tape
  output : w1.output = w.output
  size : w1.heap.size = w.heap.size
  low : ∀ b, b < s → w1.heap[b]? = w.heap[b]?
  own : ∀ b t, E.own b = some t → w1.heap[b]? = w.heap[b]?
  cell : ∀ a v, w.cell? a = some v → w1.cell? a = some v
theorem Tk.refl (E : Env) (w : World) (s : Nat) : Tk E w w s := ⟨rfl, rfl, rfl, rfl, fun _ _ => rfl, fun _ _ _ => rfl, fun _ _ h => h⟩
theorem Tk.trans {E : Env} {w w1 w2 : World} {s : Nat} (h : Tk E w w1 s) (k : Tk E w1 w2 s) : Tk E w w2 s :=
  ⟨k.os.trans h.os, k.tape.trans h.tape, k.output.trans h.output, k.size.trans h.size, fun b hb => (k.low b hb).trans (h.low b hb), fun b t ho => (k.own b t ho).trans (h.own b t ho), fun a v hv => k.cell a v (h.cell a v hv)⟩
theorem Tk.less {E : Env} {w w1 : World} {s s' : Nat} (h : Tk E w w1 s) (hs : s' ≤ s) : Tk E w w1 s' := { h with low := fun b hb => h.low b (Nat.lt_of_lt_of_le hb hs) }
theorem Tk.one {E : Env} {w : World} {s D : Nat} (h1 : s ≤ D) (h2 : E.own D = none) (h3 : w.heap[D]? = some (.deferred (some []))) : Tk E w (w.putObj D (.deferred none)) s := by
  refine ⟨rfl, rfl, rfl, World.putObj_size, fun b hb => World.putObj_heap_other (by omega), fun b t ho => World.putObj_heap_other (fun e => by subst e; rw [h2] at ho; cases ho), fun a v hv => ?_⟩
  have hne : a.block ≠ D := fun e => by
    unfold World.cell? at hv
    rw [e, h3] at hv
    simp at hv
  exact (World.cell?_of_block (World.putObj_heap_other hne)).trans hv
theorem Tk.den {E : Env} {w w1 : World} {s : Nat} (h : Tk E w w1 s) {x : SV} {v : Value} (hd : Den E w x v) : Den E w1 x v := by
  induction hd with
  | any v => exact .any v
  | int k n => exact .int k n
  | bool b => exact .bool b
  | str s => exact .str s
  | ptr hn => exact .ptr hn
  | nilp => exact .nilp
  | @rptr sz f A g hA ho hc h1 hd ih => exact .rptr A g (by rw [h.size]; exact hA) ho (fun j hj => h.cell _ _ (hc j hj)) h1 ih
  | @row n sz f A cap g hA ho hn hc h1 hd ih => exact .row A cap g (by rw [h.size]; exact hA) ho hn (fun i j hi hj => h.cell _ _ (hc i j hi hj)) h1 ih
  | rowZ a cap => exact .rowZ a cap
  | vec hi hv => exact .vec hi hv
  | vptr hi hv => exact .vptr hi hv
  | func vs hs hd ih => exact .func vs hs ih
  | meth vs hs hd ih => exact .meth vs hs ih
  | nilf => exact .nilf
  | iface _ ih => exact .iface ih
  | nili => exact .nili
  | agg vs hs h1 hd ih => exact .agg vs hs h1 ih
  | tup vs hs hd ih => exact .tup vs hs ih
  | yield hn => exact .yield hn
theorem Tk.denA {E : Env} {w w1 : World} {s : Nat} (h : Tk E w w1 s) {l : List SV} {vs : Array Value} (hd : DenA E w l vs) : DenA E w1 l vs := ⟨hd.1, fun i x u hx hu => h.den (hd.2 i x u hx hu)⟩
theorem Tk.rel {E : Env} {w w1 : World} {s : Nat} (h : Tk E w w1 s) {hh : HS} (hr : RelH E hh w) : RelH E hh w1 where
  nb := hr.nb
  nv := hr.nv
  blk := fun nm ty cells hb => by
    obtain ⟨cs, h1, h2, h3, h4⟩ := hr.blk nm ty cells hb
    exact ⟨cs, (h.own _ _ h4).trans h1, h.denA h2, h3, h4⟩
  vec := fun id ver ty sz n f hv => by
    obtain ⟨h0, ⟨a, cap, h1, h2⟩, h3⟩ := hr.vec id ver ty sz n f hv
    refine ⟨h0, ⟨a, cap, h1, ?_⟩, h3⟩
    rcases h2 with hk | ⟨g, cur, q1, q2, q3, q4, q5, q6, q7, q8⟩
    · exact .inl hk
    · exact .inr ⟨g, cur, q1, q2, q3, (h.own _ _ q6).trans q4, q5, q6, q7, fun i j u hi hj hu => h.den (q8 i j u hi hj hu)⟩
  own := fun b t hb => by rw [h.size]; exact hr.own b t hb
  lp := fun nm st pend fid t params assign body hb => by
    obtain ⟨tmps, db, h1, h2, h3⟩ := hr.lp _ _ _ _ _ _ _ _ hb
    exact ⟨tmps, db, (h.own _ _ h3).trans h1, h.denA h2, h3⟩
theorem Tk.ext {E Ea : Env} {w w1 wa : World} {s : Nat} (h : Tk E w w1 s) (hx : Ext Ea wa E w) (hs : wa.heap.size ≤ s) : Ext Ea wa E w1 :=
  ⟨h.os.trans hx.os, h.tape.trans hx.tape, h.output.trans hx.output, by rw [h.size]; exact hx.size, hx.nb, hx.nv, hx.rho, hx.val,
   fun b hb ho => let ⟨k1, k2⟩ := hx.keep b hb ho; ⟨k1, (h.low b (Nat.lt_of_lt_of_le hb hs)).trans k2⟩,
   fun b ho => let ⟨k1, k2⟩ := hx.oth b ho; ⟨k1, (h.own b _ k1).trans k2⟩⟩
theorem Tk.ds {E : Env} {w w1 : World} {s s' u : Nat} (h : Tk E w w1 s) (hu : u ≤ s) {B : Bt} {ds : List Deferred} (hd : DsOk E w B s' u ds) : DsOk E w1 B s' u ds := by
  obtain ⟨l, h1, h2, h3⟩ := hd
  refine ⟨l, h1, h2, fun D hD => ?_⟩
  obtain ⟨a, b, c, d, e⟩ := h3 D hD
  exact ⟨a, b, by rw [h.size]; exact c, d, (h.low D (Nat.lt_of_lt_of_le b hu)).trans e⟩
section
variable {C : Ctx} {cs : List Frame} {B : Bt}
theorem Tk.inv {E : Env} {w w1 : World} {s s' u : Nat} (h : Tk E w w1 s) (hu : u ≤ s) {fid : Nat} {frs : List Frame} : ∀ {k : List It}, InvK C cs B E w s' u fid frs k → InvK C cs B E w1 s' u fid frs k
  | [], _ => trivial
  | .inv ι st μ i body :: k, hi => by
    simp only [InvK] at hi ⊢
    obtain ⟨⟨Ee, we, h0, h1, h2⟩, h3⟩ := hi
    exact ⟨⟨Ee, we, h0, h.ext h1 (Nat.le_trans h0 hu), h2⟩, h.inv hu h3⟩
  | .code _ :: k, hi => by simp only [InvK] at hi ⊢; exact h.inv hu hi
  | .blk _ :: k, hi => by simp only [InvK] at hi ⊢; exact h.inv hu hi
  | .reg _ _ :: k, hi => by simp only [InvK] at hi ⊢; exact h.inv hu hi
  | .inRng _ :: k, hi => by simp only [InvK] at hi ⊢; exact h.inv hu hi
  | .endRng _ :: k, hi => by simp only [InvK] at hi ⊢; exact h.inv hu hi
  | .beginR :: k, hi => by simp only [InvK] at hi ⊢; exact h.inv hu hi
  | .endR _ :: k, hi => by simp only [InvK]
theorem Tk.stk {E : Env} {w w1 : World} {s0 : Nat} : ∀ {s : Nat} (h : Tk E w w1 s) {fs : List Fr} {frs : List Frame}, StkOk C cs B E w s0 s fs frs → StkOk C cs B E w1 s0 s fs frs
  | s, h, [], [], hs => hs
  | s, h, [], _ :: _, hs => by simp only [StkOk] at hs
  | s, h, ⟨fid, k, t⟩ :: fs, [], hs => by simp only [StkOk] at hs
  | s, h, ⟨fid, k, t⟩ :: fs, fr :: frs, hs => by
    simp only [StkOk] at hs ⊢
    obtain ⟨s1, ds, tmps, h1, h2, h3, h4, h5, h6, h7, h8, h9⟩ := hs
    exact ⟨s1, ds, tmps, h1, by rw [h.size]; exact h2, h3, h.denA h4, h5, h.ds (Nat.le_refl _) h6, h7, h.inv (Nat.le_refl _) h8, (h.less h1).stk h9⟩
theorem stk_le {E : Env} {w : World} {s0 : Nat} : ∀ {s : Nat} {fs : List Fr} {frs : List Frame}, StkOk C cs B E w s0 s fs frs → s0 ≤ s
  | s, [], [], h => h
  | s, [], _ :: _, h => by simp only [StkOk] at h
  | s, ⟨fid, k, t⟩ :: fs, [], h => by simp only [StkOk] at h
  | s, ⟨fid, k, t⟩ :: fs, fr :: frs, h => by
    simp only [StkOk] at h
    obtain ⟨s1, ds, tmps, h1, h2, h3, h4, h5, h6, h7, h8, h9⟩ := h
    exact Nat.le_trans (stk_le h9) h1

theorem take_steps {P : Program} {E : Env} {s u : Nat} {D0 : List Deferred} {cs : List Frame} : ∀ (l : List Nat) (fr : Frame) (w : World), fr.mode ≠ .run → fr.defers = marks l ++ D0 → MarkOk E w s u l →
    ∃ w1, Steps P (lone fr cs w) (lone { fr with defers := D0 } cs w1) ∧ Tk E w w1 s
  | [], fr, w, hm, hd, hk => ⟨w, by rw [show ({ fr with defers := D0 } : Frame) = fr from by cases fr; simp only [marks, List.nil_append] at hd; subst hd; rfl]; exact Steps.refl _ _, Tk.refl E w s⟩
  | D :: l, fr, w, hm, hd, hk => by
    obtain ⟨hnd, hall⟩ := hk
    obtain ⟨h1, h2, h3, h4, h5⟩ := hall D (by simp)
    have hstep := step_collected (P := P) (fr := fr) (cs := cs) (w := w) (d := mk1 D) (r := D) (ds := marks l ++ D0) hm hd rfl (run_takeDeferred h5)
    rw [List.nodup_cons] at hnd
    have hk' : MarkOk E (w.putObj D (.deferred none)) s u l := ⟨hnd.2, fun D' hD' => by
      obtain ⟨a, b, c, d, e⟩ := hall D' (by simp [hD'])
      exact ⟨a, b, by rw [World.putObj_size]; exact c, d, (World.putObj_heap_other (fun e => by subst e; exact hnd.1 hD')).trans e⟩⟩
    obtain ⟨w1, g1, g2⟩ := take_steps l { fr with defers := marks l ++ D0 } _ hm rfl hk'
    exact ⟨w1, .head hstep g1, (Tk.one h1 h4 h5).trans g2⟩
end
end Go.Eng
end
