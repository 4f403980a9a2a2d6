/-
  A part of the symbolic machine, of its soundness, and of what functions compute. No condition.
-/
import Derived.AtR
import Derived.Below
import Derived.DataElems
import Derived.Laws.Cells
import Derived.Laws.CopyRow
import Derived.Laws.Entries
import Derived.Laws.Rows
import Derived.OrdersIn
import Derived.Laws.AppendOwn
import Derived.Laws.Append
import Derived.Laws.Tables
import Derived.Laws.StructEq
import Derived.ChangeKeysEq
import Derived.Shelf.Abstract
import Derived.Laws.MakeOwn
import Derived.MapKept
import Derived.WideKeyRuns
import Derived.Maps.RangeRun
import Derived.Laws.BytesString
import Derived.Orders
import Derived.RangeFuncLeaves
import Derived.RangeFuncRecord
import Derived.Test.YthidhbamcmgloaaProg
import Derived.KernelRfl
import Derived.Attr
import Derived.Recover
import Derived.OpenShut
import Derived.Carry
import Derived.ChangeArms
import Derived.WideShapes
import Derived.WideWitness
import Derived.ProofKit
import Derived.SizedLaws
set_option linter.unusedSimpArgs false
set_option linter.unusedVariables false
/- Symbolic values, a symbolic heap, and what they say of the machine's values and memory. No program in sight. -/
section
namespace Go.Eng
open Go.RowKit

/-- A symbolic value: its leaves (numbers, bools, functions of an index) are any terms. -/
inductive SV where
  | any
  | int (k : IntKind) (n : Int)
  | bool (b : Bool)
  | str (s : ByteArray)
  | ptr (nm off : Nat)
  | nilp
  /-- A nil slice. -/
  | nils (e sz : Nat)
  | rptr (sz : Nat) (f : Nat → SV)
  | row (n sz : Nat) (f : Nat → Nat → SV)
  | vec (id ver : Nat)
  | vptr (id ver sz i off : Nat)
  /-- A part of an own slice, from lo on, n elements; x: its room ends with it. -/
  | vcut (id ver sz lo n : Nat) (x : Bool)
  /-- A slice of an own block's cells. -/
  | bsl (nm off n : Nat)
  /-- An own map. -/
  | mapp (nm : Nat)
  | func (g : Nat) (caps : List SV)
  | nilf
  | iface (t : TypeId) (v : SV)
  | nili
  | agg (l : List SV)
  | tup (l : List SV)
  | yield (nm : Nat)
  | meth (g : Nat) (first : List SV)

instance : Inhabited SV := ⟨.any⟩

def nth : List SV → Nat → SV
  | [], _ => .any
  | x :: _, 0 => x
  | _ :: l, n + 1 => nth l n
def upd : List SV → Nat → SV → List SV
  | [], _, _ => []
  | _ :: l, 0, v => v :: l
  | x :: l, n + 1, v => x :: upd l n v
def takeN : Nat → List SV → List SV
  | 0, _ => []
  | _ + 1, [] => []
  | n + 1, x :: l => x :: takeN n l
def dropN : Nat → List SV → List SV
  | 0, l => l
  | _ + 1, [] => []
  | n + 1, _ :: l => dropN n l
/-- Writing ys over l from place n on. -/
def over : List SV → Nat → List SV → List SV
  | l, _, [] => l
  | l, n, y :: ys => over (upd l n y) (n + 1) ys

theorem nth_eq (l : List SV) (i : Nat) : nth l i = l.getD i .any := by
  induction l generalizing i with
  | nil => simp [nth]
  | cons x l ih => cases i <;> simp [nth, ih]
theorem upd_eq (l : List SV) (i : Nat) (v : SV) : upd l i v = l.set i v := by
  induction l generalizing i with
  | nil => simp [upd]
  | cons x l ih => cases i <;> simp [upd, ih]
theorem takeN_eq (n : Nat) (l : List SV) : takeN n l = l.take n := by
  induction l generalizing n with
  | nil => cases n <;> simp [takeN]
  | cons x l ih => cases n <;> simp [takeN, ih]
theorem dropN_eq (n : Nat) (l : List SV) : dropN n l = l.drop n := by
  induction l generalizing n with
  | nil => cases n <;> simp [dropN]
  | cons x l ih => cases n <;> simp [dropN, ih]

inductive Tag where
  | blk (nm : Nat)
  | vec (id : Nat)
  | other

/-- The ghost: which block bears which name; what each version of an own slice is; which blocks are owned. -/
structure Env where
  nb : Nat
  rho : Nat → Nat
  nv : Nat
  val : Nat → Nat → Option (Option Addr × Nat × Nat)
  own : Nat → Option Tag

inductive Den (E : Env) (w : World) : SV → Value → Prop
  | any (v : Value) : Den E w .any v
  | int (k : IntKind) (n : Int) : Den E w (.int k n) (.int k n)
  | bool (b : Bool) : Den E w (.bool b) (.bool b)
  | str (s : ByteArray) : Den E w (.str s) (.string s)
  | ptr {nm off : Nat} (h : nm < E.nb) : Den E w (.ptr nm off) (.pointer (some ⟨E.rho nm, off, none⟩))
  | nilp : Den E w .nilp (.pointer none)
  | nils {e sz : Nat} (h : 0 < sz) : Den E w (.nils e sz) (.slice none 0 0)
  | rptr {sz : Nat} {f : Nat → SV} (A : Addr) (g : Nat → Value) (hA : A.block < w.heap.size) (ho : E.own A.block = none)
      (hc : ∀ j, j < sz → w.cell? (A.add j) = some (g j)) (h1 : ∀ j, j < sz → (g j).oneCell' = true) (hd : ∀ j, j < sz → Den E w (f j) (g j)) : Den E w (.rptr sz f) (.pointer (some A))
  | row {n sz : Nat} {f : Nat → Nat → SV} (A : Addr) (cap : Nat) (g : Nat → Nat → Value) (hA : A.block < w.heap.size) (ho : E.own A.block = none) (hn : n ≤ cap)
      (hc : ∀ i j, i < n → j < sz → w.cell? (A.add (i * sz + j)) = some (g i j)) (h1 : ∀ i j, i < n → j < sz → (g i j).oneCell' = true) (hd : ∀ i j, i < n → j < sz → Den E w (f i j) (g i j)) : Den E w (.row n sz f) (.slice (some A) n cap)
  | rowZ {sz : Nat} {f : Nat → Nat → SV} (a : Option Addr) (cap : Nat) : Den E w (.row 0 sz f) (.slice a 0 cap)
  | vec {id ver : Nat} {a : Option Addr} {n cap : Nat} (hi : id < E.nv) (h : E.val id ver = some (a, n, cap)) : Den E w (.vec id ver) (.slice a n cap)
  | vptr {id ver sz i off b o n cap : Nat} (hi : id < E.nv) (h : E.val id ver = some (some ⟨b, o, none⟩, n, cap)) : Den E w (.vptr id ver sz i off) (.pointer (some ⟨b, o + (i * sz + off), none⟩))
  | vcut {id ver sz lo n : Nat} {x : Bool} {a a' : Option Addr} {N cap : Nat} (hi : id < E.nv) (h : E.val id ver = some (a, N, cap)) (hn : lo + n ≤ N) (hc : N ≤ cap) (ha : (if x then lo + n else cap) ≠ lo → a' = a.map (·.add (lo * sz))) (h0 : lo = 0 → a' = a) (hA : ∀ A, a = some A → ∃ b o, A = ⟨b, o, none⟩) (hB : ∀ A, a' = some A → ∃ b o, A = ⟨b, o, none⟩) :
      Den E w (.vcut id ver sz lo n x) (.slice a' n ((if x then lo + n else cap) - lo))
  | bsl {nm off n cap : Nat} (h : nm < E.nb) (hn : n ≤ cap) : Den E w (.bsl nm off n) (.slice (some ⟨E.rho nm, off, none⟩) n cap)
  | mapp {nm : Nat} (h : nm < E.nb) : Den E w (.mapp nm) (.map (some (E.rho nm)))
  | func {g : Nat} {caps : List SV} (vs : Array Value) (hs : vs.size = caps.length) (hd : ∀ (i : Nat) (x : SV) (u : Value), caps[i]? = some x → vs[i]? = some u → Den E w x u) : Den E w (.func g caps) (.func (.func g) #[] vs)
  | meth {g : Nat} {first : List SV} (vs : Array Value) (hs : vs.size = first.length) (hd : ∀ (i : Nat) (x : SV) (u : Value), first[i]? = some x → vs[i]? = some u → Den E w x u) : Den E w (.meth g first) (.func (.func g) vs #[])
  | nilf : Den E w .nilf .nilFunc
  | iface {t : TypeId} {x : SV} {v : Value} (h : Den E w x v) : Den E w (.iface t x) (.iface t v)
  | nili : Den E w .nili .nilIface
  | agg {l : List SV} (vs : Array Value) (hs : vs.size = l.length) (h1 : ∀ (i : Nat) (u : Value), vs[i]? = some u → u.oneCell' = true) (hd : ∀ (i : Nat) (x : SV) (u : Value), l[i]? = some x → vs[i]? = some u → Den E w x u) : Den E w (.agg l) (.agg vs)
  | tup {l : List SV} (vs : Array Value) (hs : vs.size = l.length) (hd : ∀ (i : Nat) (x : SV) (u : Value), l[i]? = some x → vs[i]? = some u → Den E w x u) : Den E w (.tup l) (.tuple vs)
  | yield {nm : Nat} (h : nm < E.nb) : Den E w (.yield nm) (.func (.yield (E.rho nm)) #[] #[])

theorem Den.vcut_inv {E : Env} {w : World} {id ver sz lo n : Nat} {x : Bool} {v : Value} (h : Den E w (.vcut id ver sz lo n x) v) : ∃ a a' N cap, v = .slice a' n ((if x then lo + n else cap) - lo) ∧ id < E.nv ∧ E.val id ver = some (a, N, cap) ∧ lo + n ≤ N ∧ N ≤ cap ∧
    ((if x then lo + n else cap) ≠ lo → a' = a.map (·.add (lo * sz))) ∧ (lo = 0 → a' = a) ∧ (∀ A, a = some A → ∃ b o, A = ⟨b, o, none⟩) ∧ ∀ A, a' = some A → ∃ b o, A = ⟨b, o, none⟩ := by
  cases h with
  | vcut hi hv hn hc ha h0 hA hB => exact ⟨_, _, _, _, rfl, hi, hv, hn, hc, ha, h0, hA, hB⟩
/-- A list of symbolic values and an array of values. -/
def DenA (E : Env) (w : World) (l : List SV) (vs : Array Value) : Prop :=
  vs.size = l.length ∧ ∀ (i : Nat) (x : SV) (u : Value), l[i]? = some x → vs[i]? = some u → Den E w x u

/-- From one world to a later one: the streams stay; names and versions keep what they bear; what is not owned is not touched. -/
structure Ext (E : Env) (w : World) (E' : Env) (w' : World) : Prop where
  os : w'.os = w.os
  tape : w'.tape = w.tape
  output : w'.output = w.output
  size : w.heap.size ≤ w'.heap.size
  nb : E.nb ≤ E'.nb
  nv : E.nv ≤ E'.nv
  rho : ∀ nm, nm < E.nb → E'.rho nm = E.rho nm
  val : ∀ id ver x, id < E.nv → E.val id ver = some x → E'.val id ver = some x
  keep : ∀ b, b < w.heap.size → E.own b = none → E'.own b = none ∧ w'.heap[b]? = w.heap[b]?
  oth : ∀ b, E.own b = some .other → E'.own b = some .other ∧ w'.heap[b]? = w.heap[b]?

theorem Ext.refl (E : Env) (w : World) : Ext E w E w :=
  ⟨rfl, rfl, rfl, Nat.le_refl _, Nat.le_refl _, Nat.le_refl _, fun _ _ => rfl, fun _ _ _ _ h => h, fun _ _ h => ⟨h, rfl⟩, fun _ h => ⟨h, rfl⟩⟩
theorem Ext.trans {E E' E'' : Env} {w w' w'' : World} (h : Ext E w E' w') (k : Ext E' w' E'' w'') : Ext E w E'' w'' :=
  ⟨k.os.trans h.os, k.tape.trans h.tape, k.output.trans h.output, Nat.le_trans h.size k.size, Nat.le_trans h.nb k.nb, Nat.le_trans h.nv k.nv,
   fun nm hn => (k.rho nm (Nat.lt_of_lt_of_le hn h.nb)).trans (h.rho nm hn),
   fun id ver x hi hv => k.val id ver x (Nat.lt_of_lt_of_le hi h.nv) (h.val id ver x hi hv),
   fun b hb ho => let ⟨h1, h2⟩ := h.keep b hb ho; let ⟨k1, k2⟩ := k.keep b (Nat.lt_of_lt_of_le hb h.size) h1; ⟨k1, k2.trans h2⟩,
   fun b ho => let ⟨h1, h2⟩ := h.oth b ho; let ⟨k1, k2⟩ := k.oth b h1; ⟨k1, k2.trans h2⟩⟩

theorem block_of_cell {w : World} {a : Addr} {v : Value} (h : w.cell? a = some v) : a.block < w.heap.size := by
  unfold World.cell? at h
  cases ho : w.heap[a.block]? with
  | none => simp [ho] at h
  | some o => exact (Array.getElem?_eq_some_iff.1 ho).1
theorem add_block (A : Addr) (k : Nat) : (A.add k).block = A.block := by unfold Addr.add; split <;> rfl
theorem Ext.cell {E E' : Env} {w w' : World} (h : Ext E w E' w') {a : Addr} {v : Value} (ho : E.own a.block = none) (hc : w.cell? a = some v) : w'.cell? a = some v :=
  (World.cell?_of_block (h.keep _ (block_of_cell hc) ho).2).trans hc

theorem Den.ext {E E' : Env} {w w' : World} (h : Ext E w E' w') {x : SV} {v : Value} (hd : Den E w x v) : Den E' w' x v := by
  induction hd with
  | any v => exact .any v
  | int k n => exact .int k n
  | bool b => exact .bool b
  | str s => exact .str s
  | @ptr nm off hn => rw [← h.rho nm hn]; exact .ptr (Nat.lt_of_lt_of_le hn h.nb)
  | nilp => exact .nilp
  | nils h => exact .nils h
  | @rptr sz f A g hA ho hc h1 hd ih => exact .rptr A g (Nat.lt_of_lt_of_le hA h.size) (h.keep _ hA ho).1 (fun j hj => h.cell (by rw [add_block]; exact ho) (hc j hj)) h1 ih
  | @row n sz f A cap g hA ho hn hc h1 hd ih => exact .row A cap g (Nat.lt_of_lt_of_le hA h.size) (h.keep _ hA ho).1 hn (fun i j hi hj => h.cell (by rw [add_block]; exact ho) (hc i j hi hj)) h1 ih
  | rowZ a cap => exact .rowZ a cap
  | vec hi hv => exact .vec (Nat.lt_of_lt_of_le hi h.nv) (h.val _ _ _ hi hv)
  | vptr hi hv => exact .vptr (Nat.lt_of_lt_of_le hi h.nv) (h.val _ _ _ hi hv)
  | vcut hi hv hn hc ha h0 hA hB => exact .vcut (Nat.lt_of_lt_of_le hi h.nv) (h.val _ _ _ hi hv) hn hc ha h0 hA hB
  | @bsl nm off n cap hb hn => rw [← h.rho nm hb]; exact .bsl (Nat.lt_of_lt_of_le hb h.nb) hn
  | @mapp nm hb => rw [← h.rho nm hb]; exact .mapp (Nat.lt_of_lt_of_le hb h.nb)
  | func vs hs hd ih => exact .func vs hs ih
  | meth vs hs hd ih => exact .meth vs hs ih
  | nilf => exact .nilf
  | iface _ ih => exact .iface ih
  | nili => exact .nili
  | agg vs hs h1 hd ih => exact .agg vs hs h1 ih
  | tup vs hs hd ih => exact .tup vs hs ih
  | @yield nm hn => rw [← h.rho nm hn]; exact .yield (Nat.lt_of_lt_of_le hn h.nb)
end Go.Eng
end

/- The symbolic heap: own blocks by name, own slices by number and version. -/
section
namespace Go.Eng
open Go.RowKit

/-- A cell that is told by a number. -/
inductive LK where
  | i | b
deriving DecidableEq
def cellN : LK → Int → Value
  | .i, x => .int .i64 x
  | .b, x => .bool (decide (x ≠ 0))
def cellsN : List LK → List Int → List Value
  | [], _ => []
  | k :: ks, [] => cellN k 0 :: cellsN ks []
  | k :: ks, x :: l => cellN k x :: cellsN ks l
/-- A value of one cell, or of several. -/
def valN (agg : Bool) (ks : List LK) (l : List Int) : Value := if agg then .agg (cellsN ks l).toArray else (cellsN ks l).headD undef
/-- A map from numbers to numbers: its entries, in the order in which they lie. -/
structure MapS where
  kty : TypeId
  vty : TypeId
  ka : Bool
  ks : List LK
  va : Bool
  vs : List LK
  es : List (List Int × List Int)
  /-- An iterator over a map: which, how many entries it had, which of them were handed out. -/
  it : Option (Nat × Nat × List Nat) := none
inductive Blk where
  | mp (m : MapS)
  | live (ty : TypeId) (cells : List SV)
  | dead
  | loop (st : LoopState) (pend : Option Code) (fid : Nat) (t : List SV) (params : Array Nat) (assign body : Code)
inductive Vc where
  | live (ver : Nat) (ty : TypeId) (sz n : Nat) (f : Nat → Nat → SV)
  | dead
structure HS where
  blks : List Blk
  vecs : List Vc

def getB : List Blk → Nat → Blk
  | [], _ => .dead
  | x :: _, 0 => x
  | _ :: l, n + 1 => getB l n
def setB : List Blk → Nat → Blk → List Blk
  | [], _, _ => []
  | _ :: l, 0, v => v :: l
  | x :: l, n + 1, v => x :: setB l n v
def snocB : List Blk → Blk → List Blk
  | [], v => [v]
  | x :: l, v => x :: snocB l v
def lenB : List Blk → Nat
  | [] => 0
  | _ :: l => lenB l + 1
def getV : List Vc → Nat → Vc
  | [], _ => .dead
  | x :: _, 0 => x
  | _ :: l, n + 1 => getV l n
def setV : List Vc → Nat → Vc → List Vc
  | [], _, _ => []
  | _ :: l, 0, v => v :: l
  | x :: l, n + 1, v => x :: setV l n v
def snocV : List Vc → Vc → List Vc
  | [], v => [v]
  | x :: l, v => x :: snocV l v
def lenV : List Vc → Nat
  | [] => 0
  | _ :: l => lenV l + 1

theorem getB_lt : ∀ {l : List Blk} {n : Nat} {ty cells}, getB l n = .live ty cells → n < lenB l
  | [], _, _, _, h => by simp [getB] at h
  | _ :: _, 0, _, _, _ => by simp [lenB]
  | _ :: l, n + 1, _, _, h => by have := getB_lt (l := l) (n := n) h; simp [lenB]; omega
theorem getB_ltL : ∀ {l : List Blk} {n : Nat} {a b c d e f g}, getB l n = .loop a b c d e f g → n < lenB l
  | [], _, _, _, _, _, _, _, _, h => by simp [getB] at h
  | _ :: _, 0, _, _, _, _, _, _, _, _ => by simp [lenB]
  | _ :: l, n + 1, _, _, _, _, _, _, _, h => by have := getB_ltL (l := l) (n := n) h; simp [lenB]; omega
theorem getB_ltM : ∀ {l : List Blk} {n : Nat} {m}, getB l n = .mp m → n < lenB l
  | [], _, _, h => by simp [getB] at h
  | _ :: _, 0, _, _ => by simp [lenB]
  | _ :: l, n + 1, _, h => by have := getB_ltM (l := l) (n := n) h; simp [lenB]; omega
theorem getV_lt : ∀ {l : List Vc} {n : Nat} {a b c d e}, getV l n = .live a b c d e → n < lenV l
  | [], _, _, _, _, _, _, h => by simp [getV] at h
  | _ :: _, 0, _, _, _, _, _, _ => by simp [lenV]
  | _ :: l, n + 1, _, _, _, _, _, h => by have := getV_lt (l := l) (n := n) h; simp [lenV]; omega
theorem getB_snoc : ∀ (l : List Blk) (v : Blk) (n : Nat), getB (snocB l v) n = if n = lenB l then v else getB l n
  | [], v, 0 => by simp [snocB, getB, lenB]
  | [], v, n + 1 => by simp [snocB, getB, lenB]
  | x :: l, v, 0 => by simp [snocB, getB, lenB]
  | x :: l, v, n + 1 => by simp [snocB, getB, lenB, getB_snoc l v n]
theorem lenB_snoc : ∀ (l : List Blk) (v : Blk), lenB (snocB l v) = lenB l + 1
  | [], _ => rfl
  | _ :: l, v => by simp [snocB, lenB, lenB_snoc l v]
theorem getB_set : ∀ (l : List Blk) (m : Nat) (v : Blk) (n : Nat), getB (setB l m v) n = if n = m ∧ m < lenB l then v else getB l n
  | [], m, v, n => by simp [setB, getB, lenB]
  | x :: l, 0, v, 0 => by simp [setB, getB, lenB]
  | x :: l, 0, v, n + 1 => by simp [setB, getB]
  | x :: l, m + 1, v, 0 => by simp [setB, getB]
  | x :: l, m + 1, v, n + 1 => by simp [setB, getB, lenB, getB_set l m v n]
theorem lenB_set : ∀ (l : List Blk) (m : Nat) (v : Blk), lenB (setB l m v) = lenB l
  | [], _, _ => rfl
  | _ :: _, 0, _ => rfl
  | _ :: l, m + 1, v => by simp [setB, lenB, lenB_set l m v]
theorem getV_snoc : ∀ (l : List Vc) (v : Vc) (n : Nat), getV (snocV l v) n = if n = lenV l then v else getV l n
  | [], v, 0 => by simp [snocV, getV, lenV]
  | [], v, n + 1 => by simp [snocV, getV, lenV]
  | x :: l, v, 0 => by simp [snocV, getV, lenV]
  | x :: l, v, n + 1 => by simp [snocV, getV, lenV, getV_snoc l v n]
theorem lenV_snoc : ∀ (l : List Vc) (v : Vc), lenV (snocV l v) = lenV l + 1
  | [], _ => rfl
  | _ :: l, v => by simp [snocV, lenV, lenV_snoc l v]
theorem getV_set : ∀ (l : List Vc) (m : Nat) (v : Vc) (n : Nat), getV (setV l m v) n = if n = m ∧ m < lenV l then v else getV l n
  | [], m, v, n => by simp [setV, getV, lenV]
  | x :: l, 0, v, 0 => by simp [setV, getV, lenV]
  | x :: l, 0, v, n + 1 => by simp [setV, getV]
  | x :: l, m + 1, v, 0 => by simp [setV, getV]
  | x :: l, m + 1, v, n + 1 => by simp [setV, getV, lenV, getV_set l m v n]
theorem lenV_set : ∀ (l : List Vc) (m : Nat) (v : Vc), lenV (setV l m v) = lenV l
  | [], _, _ => rfl
  | _ :: _, 0, _ => rfl
  | _ :: l, m + 1, v => by simp [setV, lenV, lenV_set l m v]

theorem DenA.ext {E E' : Env} {w w' : World} (h : Ext E w E' w') {l : List SV} {vs : Array Value} (hd : DenA E w l vs) : DenA E' w' l vs :=
  ⟨hd.1, fun i x u hx hu => (hd.2 i x u hx hu).ext h⟩
theorem DenA.nth {E : Env} {w : World} {l : List SV} {vs : Array Value} (hd : DenA E w l vs) (i : Nat) : Den E w (nth l i) (vs.getD i undef) := by
  rw [nth_eq]
  by_cases h : i < l.length
  · have hv : i < vs.size := by rw [hd.1]; exact h
    have := hd.2 i l[i] vs[i] (List.getElem?_eq_getElem h) (Array.getElem?_eq_getElem hv)
    simpa [List.getD, List.getElem?_eq_getElem h, Array.getD, hv] using this
  · have : l[i]? = none := List.getElem?_eq_none (by omega)
    simp only [List.getD, this, Option.getD_none]
    exact .any _
theorem DenA.set {E : Env} {w : World} {l : List SV} {vs : Array Value} (hd : DenA E w l vs) (i : Nat) {x : SV} {v : Value} (hx : Den E w x v) : DenA E w (upd l i x) (vs.setIfInBounds i v) := by
  refine ⟨by simp [upd_eq, hd.1], fun j y u hy hu => ?_⟩
  rw [upd_eq, List.getElem?_set] at hy
  rw [Array.getElem?_setIfInBounds] at hu
  by_cases e : i = j
  · subst e
    simp only [if_true] at hy hu
    split at hy
    · simp only [Option.some.injEq] at hy
      subst hy
      split at hu
      · simp only [Option.some.injEq] at hu; subst hu; exact hx
      · cases hu
    · cases hy
  · simp only [e, if_false] at hy hu
    exact hd.2 j y u hy hu

/-- What an own slice is in memory. -/
def VecAt (E : Env) (w : World) (id : Nat) (ty : TypeId) (sz n : Nat) (f : Nat → Nat → SV) (a : Option Addr) (cap : Nat) : Prop :=
  ((∀ A, a = some A → ∃ b o, A = ⟨b, o, none⟩) ∧ n = 0 ∧ cap = 0) ∨
  ∃ g o cur, a = some ⟨g, o, none⟩ ∧ n ≤ cap ∧ cap ≤ maxLen ∧ w.heap[g]? = some (.cells cur ty (0, 0)) ∧ o + cap * sz ≤ cur.size ∧ E.own g = some (.vec id) ∧
    (∀ (k : Nat) (u : Value), k < n * sz → cur[o + k]? = some u → u.oneCell' = true) ∧ ∀ i j u, i < n → j < sz → cur[o + (i * sz + j)]? = some u → Den E w (f i j) u

/-- What the record of a range over a function is in memory. -/
def LpAt (E : Env) (w : World) (nm : Nat) (st : LoopState) (pend : Option Code) (fid : Nat) (t : List SV) (params : Array Nat) (assign body : Code) : Prop :=
  ∃ tmps db, w.heap[E.rho nm]? = some (.loop { state := st, pending := pend, fn := fid, tmps, params, assign, body, defers := db }) ∧ DenA E w t tmps ∧ E.own (E.rho nm) = some (.blk nm)
theorem LpAt.ext {E E' : Env} {w w' : World} (h : Ext E w E' w') {nm : Nat} {st pend fid t params assign body} (hl : LpAt E w nm st pend fid t params assign body)
    (hk : E.own (E.rho nm) = some (.blk nm) → E'.rho nm = E.rho nm ∧ w'.heap[E.rho nm]? = w.heap[E.rho nm]? ∧ E'.own (E.rho nm) = E.own (E.rho nm)) : LpAt E' w' nm st pend fid t params assign body := by
  obtain ⟨tmps, db, h1, h2, h3⟩ := hl
  obtain ⟨k1, k2, k3⟩ := hk h3
  exact ⟨tmps, db, by rw [k1, k2]; exact h1, h2.ext h, by rw [k1, k3]; exact h3⟩

/-- What a map is in memory. -/
def MpIn (w : World) (b : Nat) (m : MapS) : Prop :=
  ∃ es, w.heap[b]? = some (.map es es.size) ∧ es.size = m.es.length ∧
    (∀ (i : Nat) (e : MapEntry) (k v : List Int), es[i]? = some e → m.es[i]? = some (k, v) → e.key = valN m.ka m.ks k ∧ e.val = valN m.va m.vs v ∧ k.length = m.ks.length ∧ v.length = m.vs.length) ∧
    ∀ (i : Nat) (e : MapEntry), es[i]? = some e → e.born = i
def MpAt (E : Env) (w : World) (nm : Nat) (m : MapS) : Prop :=
  E.own (E.rho nm) = some (.blk nm) ∧ match m.it with
    | none => MpIn w (E.rho nm) m
    | some (mnm, since, seen) => w.heap[E.rho nm]? = some (.mapIter (some (E.rho mnm)) since seen.reverse.toArray since) ∧ mnm < E.nb
theorem MpAt.ext' {E E' : Env} {w w' : World} {nm : Nat} {m : MapS} (hl : MpAt E w nm m) (hnb : E.nb ≤ E'.nb) (hrho : ∀ n, n < E.nb → E'.rho n = E.rho n)
    (hk : E.own (E.rho nm) = some (.blk nm) → E'.rho nm = E.rho nm ∧ w'.heap[E.rho nm]? = w.heap[E.rho nm]? ∧ E'.own (E.rho nm) = E.own (E.rho nm)) : MpAt E' w' nm m := by
  obtain ⟨h2, h3⟩ := hl
  obtain ⟨k1, k2, k3⟩ := hk h2
  refine ⟨by rw [k1, k3]; exact h2, ?_⟩
  cases hi : m.it with
  | none =>
    rw [hi] at h3
    obtain ⟨es, a1, a2⟩ := h3
    exact ⟨es, by rw [k1, k2]; exact a1, a2⟩
  | some x =>
    obtain ⟨mnm, since, seen⟩ := x
    rw [hi] at h3
    obtain ⟨a1, a2⟩ := h3
    exact ⟨by rw [k1, k2, hrho _ a2]; exact a1, Nat.lt_of_lt_of_le a2 hnb⟩
theorem MpAt.ext {E E' : Env} {w w' : World} {nm : Nat} {m : MapS} (hl : MpAt E w nm m) (hx : Ext E w E' w')
    (hk : E.own (E.rho nm) = some (.blk nm) → E'.rho nm = E.rho nm ∧ w'.heap[E.rho nm]? = w.heap[E.rho nm]? ∧ E'.own (E.rho nm) = E.own (E.rho nm)) : MpAt E' w' nm m := hl.ext' hx.nb hx.rho hk

structure RelH (E : Env) (h : HS) (w : World) : Prop where
  nb : E.nb = lenB h.blks
  nv : E.nv = lenV h.vecs
  blk : ∀ nm ty cells, getB h.blks nm = .live ty cells → ∃ cs, w.heap[E.rho nm]? = some (.cells cs ty (0, 0)) ∧ DenA E w cells cs ∧
    (∀ (k : Nat) (u : Value), cs[k]? = some u → u.oneCell' = true) ∧ E.own (E.rho nm) = some (.blk nm)
  vec : ∀ id ver ty sz n f, getV h.vecs id = .live ver ty sz n f → 0 < sz ∧ (∃ a cap, E.val id ver = some (a, n, cap) ∧ VecAt E w id ty sz n f a cap) ∧ ∀ v', ver < v' → E.val id v' = none
  own : ∀ b t, E.own b = some t → b < w.heap.size
  lp : ∀ nm st pend fid t params assign body, getB h.blks nm = .loop st pend fid t params assign body → LpAt E w nm st pend fid t params assign body
  mp : ∀ nm m, getB h.blks nm = .mp m → MpAt E w nm m

theorem VecAt.ext {E E' : Env} {w w' : World} (h : Ext E w E' w') {id : Nat} {ty : TypeId} {sz n : Nat} {f : Nat → Nat → SV} {a : Option Addr} {cap : Nat} (hv : VecAt E w id ty sz n f a cap)
    (hk : ∀ g, E.own g = some (.vec id) → w'.heap[g]? = w.heap[g]? ∧ E'.own g = E.own g) : VecAt E' w' id ty sz n f a cap := by
  rcases hv with hv | ⟨g, o, cur, h1, h2, h3, h4, h5, h6, h7, h8⟩
  · exact .inl hv
  · obtain ⟨k1, k2⟩ := hk g h6
    exact .inr ⟨g, o, cur, h1, h2, h3, k1.trans h4, h5, k2.trans h6, h7, fun i j u hi hj hu => (h8 i j u hi hj hu).ext h⟩

/-- A step that changes nothing that is owned, and no names. -/
theorem RelH.quiet {E : Env} {h : HS} {w w' : World} (hr : RelH E h w) (hx : Ext E w E w') (hk : ∀ b, b < w.heap.size → w'.heap[b]? = w.heap[b]?) : RelH E h w' where
  nb := hr.nb
  nv := hr.nv
  blk := fun nm ty cells hb => by
    obtain ⟨cs, h1, h2, h3, h4⟩ := hr.blk nm ty cells hb
    exact ⟨cs, (hk _ (hr.own _ _ h4)).trans h1, h2.ext hx, h3, h4⟩
  vec := fun id ver ty sz n f hv => by
    obtain ⟨h0, ⟨a, cap, h1, h2⟩, h3⟩ := hr.vec id ver ty sz n f hv
    exact ⟨h0, ⟨a, cap, h1, h2.ext hx (fun g hg => ⟨hk g (hr.own _ _ hg), rfl⟩)⟩, h3⟩
  own := fun b t hb => Nat.lt_of_lt_of_le (hr.own b t hb) hx.size
  lp := fun nm st pend fid t params assign body hb => (hr.lp _ _ _ _ _ _ _ _ hb).ext hx (fun ho => ⟨rfl, hk _ (hr.own _ _ ho), rfl⟩)
  mp := fun nm m hb => (hr.mp _ _ hb).ext hx (fun ho => ⟨rfl, hk _ (hr.own _ _ ho), rfl⟩)

theorem ext_of_grow {E : Env} {w w' : World} (hb : ∀ b t, E.own b = some t → b < w.heap.size) (ho : w'.os = w.os) (ht : w'.tape = w.tape) (hu : w'.output = w.output) (hs : w.heap.size ≤ w'.heap.size) (hk : ∀ b, b < w.heap.size → w'.heap[b]? = w.heap[b]?) : Ext E w E w' :=
  ⟨ho, ht, hu, hs, Nat.le_refl _, Nat.le_refl _, fun _ _ => rfl, fun _ _ _ _ h => h, fun b hb h => ⟨h, hk b hb⟩, fun b h => ⟨h, hk b (hb b _ h)⟩⟩

/-- A new own block. -/
def Env.newB (E : Env) (b : Nat) : Env :=
  { E with nb := E.nb + 1, rho := fun nm => if nm = E.nb then b else E.rho nm, own := fun k => if k = b then some (.blk E.nb) else E.own k }

theorem ext_alloc {E : Env} {w : World} (hb : ∀ b t, E.own b = some t → b < w.heap.size) (o : Obj) (x : World) (hx : x = w.alloc o) : Ext E w (E.newB w.heap.size) x := by
  subst hx
  refine ⟨rfl, rfl, rfl, by simp, by simp [Env.newB], Nat.le_refl _, fun nm hn => ?_, fun _ _ _ _ h => h, fun b hb h => ⟨?_, Below.heap_alloc w o b hb⟩, fun b h => ⟨?_, Below.heap_alloc w o b (hb b _ h)⟩⟩
  · simp only [Env.newB]; rw [if_neg (by omega)]
  · simp only [Env.newB]; rw [if_neg (by omega)]; exact h
  · have := hb b _ h; simp only [Env.newB]; rw [if_neg (by omega)]; exact h

theorem RelH.alloc {E : Env} {h : HS} {w : World} (hr : RelH E h w) (ty : TypeId) (cells : List SV) (cs : Array Value) (hd : DenA E w cells cs)
    (h1 : ∀ (k : Nat) (u : Value), cs[k]? = some u → u.oneCell' = true) :
    RelH (E.newB w.heap.size) { h with blks := snocB h.blks (.live ty cells) } (w.alloc (.cells cs ty)) := by
  have hx : Ext E w (E.newB w.heap.size) (w.alloc (.cells cs ty)) := ext_alloc hr.own _ _ rfl
  have hold : ∀ b, b < w.heap.size → (w.alloc (.cells cs ty)).heap[b]? = w.heap[b]? := fun b hb => Below.heap_alloc w _ b hb
  refine ⟨by simp [Env.newB, lenB_snoc, hr.nb], hr.nv, ?_, ?_, ?_, ?_, ?_⟩
  · intro nm ty' cells' hb
    simp only [getB_snoc] at hb
    split at hb
    · rename_i e
      have e' : nm = E.nb := e.trans hr.nb.symm
      cases hb
      refine ⟨cs, ?_, hd.ext hx, h1, ?_⟩
      · simp only [Env.newB, e', if_true]; exact heap_alloc_new w _
      · simp only [Env.newB, e', if_true]
    · rename_i e
      have e' : nm ≠ E.nb := fun e' => e (e'.trans hr.nb)
      obtain ⟨cs', k1, k2, k3, k4⟩ := hr.blk nm ty' cells' hb
      have hlt := hr.own _ _ k4
      refine ⟨cs', ?_, k2.ext hx, k3, ?_⟩
      · simp only [Env.newB, e', if_false]; exact (hold _ hlt).trans k1
      · simp only [Env.newB, e', if_false]; rw [if_neg (by omega)]; exact k4
  · intro id ver ty' sz n f hv
    obtain ⟨h0, ⟨a, cap, k1, k2⟩, k3⟩ := hr.vec id ver ty' sz n f hv
    refine ⟨h0, ⟨a, cap, k1, k2.ext hx (fun g hg => ?_)⟩, k3⟩
    have hlt := hr.own _ _ hg
    exact ⟨hold g hlt, by simp only [Env.newB]; rw [if_neg (by omega)]⟩
  · intro b t hb
    simp only [Env.newB] at hb
    split at hb
    · rename_i e; subst e; simp
    · have := hr.own b t hb; simp; omega
  · intro nm st pend fid t params assign body hb
    simp only [getB_snoc] at hb
    split at hb
    · cases hb
    · rename_i e
      have e' : nm ≠ E.nb := fun e' => e (e'.trans hr.nb)
      refine (hr.lp _ _ _ _ _ _ _ _ hb).ext hx (fun ho => ?_)
      have hlt := hr.own _ _ ho
      exact ⟨by simp only [Env.newB, e', if_false], hold _ hlt, by simp only [Env.newB]; rw [if_neg (by omega)]⟩
  · intro nm m hb
    simp only [getB_snoc] at hb
    split at hb
    · cases hb
    · rename_i e
      have e' : nm ≠ E.nb := fun e' => e (e'.trans hr.nb)
      refine (hr.mp _ _ hb).ext hx (fun ho => ?_)
      have hlt := hr.own _ _ ho
      exact ⟨by simp only [Env.newB, e', if_false], hold _ hlt, by simp only [Env.newB]; rw [if_neg (by omega)]⟩

/-- A write into an own block. -/
theorem ext_setRow {E : Env} {w : World} {g : Nat} {t : Tag} (hg : E.own g = some t) (hto : t ≠ .other) (cs : Array Value) : Ext E w E (w.setRow g cs) :=
  ⟨rfl, rfl, rfl, by simp, Nat.le_refl _, Nat.le_refl _, fun _ _ => rfl, fun _ _ _ _ h => h, fun b _ h => ⟨h, setRow_other w g b cs (fun e => by subst e; rw [hg] at h; cases h)⟩, fun b h => ⟨h, setRow_other w g b cs (fun e => by subst e; rw [hg] at h; cases h; exact hto rfl)⟩⟩

theorem RelH.write {E : Env} {h : HS} {w : World} (hr : RelH E h w) {nm : Nat} {ty : TypeId} {cells : List SV} (hb : getB h.blks nm = .live ty cells) (cells' : List SV) (cs' : Array Value)
    (hd : DenA E w cells' cs') (h1 : ∀ (k : Nat) (u : Value), cs'[k]? = some u → u.oneCell' = true) :
    RelH E { h with blks := setB h.blks nm (.live ty cells') } (w.setRow (E.rho nm) cs') := by
  obtain ⟨cs, a1, a2, a3, a4⟩ := hr.blk nm ty cells hb
  have hx : Ext E w E (w.setRow (E.rho nm) cs') := ext_setRow a4 (by intro e; cases e) cs'
  refine ⟨by simp [lenB_set, hr.nb], hr.nv, ?_, ?_, fun b t hb => by simpa using hr.own b t hb, ?_, ?_⟩
  · intro nm' ty' c' hb'
    simp only [getB_set] at hb'
    split at hb'
    · rename_i e
      obtain ⟨rfl, _⟩ := e
      cases hb'
      exact ⟨cs', setRow_heap w _ cs cs' ty (0, 0) a1, hd.ext hx, h1, a4⟩
    · rename_i e
      have hne : nm' ≠ nm := fun e' => e ⟨e', getB_lt hb⟩
      obtain ⟨c, b1, b2, b3, b4⟩ := hr.blk nm' ty' c' hb'
      refine ⟨c, ?_, b2.ext hx, b3, b4⟩
      rw [setRow_other]
      · exact b1
      · intro e'; rw [e', a4] at b4; injection b4 with b4; injection b4 with b4; exact hne b4.symm
  · intro id ver ty' sz n f hv
    obtain ⟨h0, ⟨a, cap, k1, k2⟩, k3⟩ := hr.vec id ver ty' sz n f hv
    refine ⟨h0, ⟨a, cap, k1, k2.ext hx (fun g hg => ⟨setRow_other w _ g cs' (fun e => ?_), rfl⟩)⟩, k3⟩
    rw [e, a4] at hg; injection hg with hg; cases hg
  · intro nm' st pend fid t params assign body hb'
    simp only [getB_set] at hb'
    split at hb'
    · cases hb'
    · rename_i e
      have hne : nm' ≠ nm := fun e' => e ⟨e', getB_lt hb⟩
      refine (hr.lp _ _ _ _ _ _ _ _ hb').ext hx (fun ho => ⟨rfl, setRow_other w _ _ cs' (fun e' => ?_), rfl⟩)
      rw [e', a4] at ho; injection ho with ho; injection ho with ho; exact hne ho.symm
  · intro nm' m hb'
    simp only [getB_set] at hb'
    split at hb'
    · cases hb'
    · rename_i e
      have hne : nm' ≠ nm := fun e' => e ⟨e', getB_lt hb⟩
      refine (hr.mp _ _ hb').ext hx (fun ho => ⟨rfl, setRow_other w _ _ cs' (fun e' => ?_), rfl⟩)
      rw [e', a4] at ho; injection ho with ho; injection ho with ho; exact hne ho.symm

/- ### records of ranges over functions -/
theorem RelH.newLoop {E : Env} {h : HS} {w : World} (hr : RelH E h w) (fid : Nat) (t : List SV) (tmps : Array Value) (hd : DenA E w t tmps) (params : Array Nat) (assign body : Code) (db : Nat) (st : LoopState) (pend : Option Code) :
    RelH (E.newB w.heap.size) { h with blks := snocB h.blks (.loop st pend fid t params assign body) } (w.alloc (.loop { state := st, pending := pend, fn := fid, tmps, params, assign, body, defers := db })) := by
  have hx : Ext E w (E.newB w.heap.size) (w.alloc (.loop { state := st, pending := pend, fn := fid, tmps, params, assign, body, defers := db })) := ext_alloc hr.own _ _ rfl
  have hold : ∀ b, b < w.heap.size → (w.alloc (.loop { state := st, pending := pend, fn := fid, tmps, params, assign, body, defers := db })).heap[b]? = w.heap[b]? := fun b hb => Below.heap_alloc w _ b hb
  refine ⟨by simp [Env.newB, lenB_snoc, hr.nb], hr.nv, ?_, ?_, ?_, ?_, ?_⟩
  · intro nm ty' cells' hb
    simp only [getB_snoc] at hb
    split at hb
    · cases hb
    · rename_i e
      have e' : nm ≠ E.nb := fun e' => e (e'.trans hr.nb)
      obtain ⟨cs', k1, k2, k3, k4⟩ := hr.blk nm ty' cells' hb
      have hlt := hr.own _ _ k4
      refine ⟨cs', ?_, k2.ext hx, k3, ?_⟩
      · simp only [Env.newB, e', if_false]; exact (hold _ hlt).trans k1
      · simp only [Env.newB, e', if_false]; rw [if_neg (by omega)]; exact k4
  · intro id ver ty' sz n f hv
    obtain ⟨h0, ⟨a, cap, k1, k2⟩, k3⟩ := hr.vec id ver ty' sz n f hv
    refine ⟨h0, ⟨a, cap, k1, k2.ext hx (fun g hg => ?_)⟩, k3⟩
    have hlt := hr.own _ _ hg
    exact ⟨hold g hlt, by simp only [Env.newB]; rw [if_neg (by omega)]⟩
  · intro b t hb
    simp only [Env.newB] at hb
    split at hb
    · rename_i e; subst e; simp
    · have := hr.own b t hb; simp; omega
  · intro nm st' pend' fid' t' params' assign' body' hb
    simp only [getB_snoc] at hb
    split at hb
    · rename_i e
      have e' : nm = E.nb := e.trans hr.nb.symm
      cases hb
      refine ⟨tmps, db, ?_, hd.ext hx, ?_⟩
      · simp only [Env.newB, e', if_true]; exact heap_alloc_new w _
      · simp only [Env.newB, e', if_true]
    · rename_i e
      have e' : nm ≠ E.nb := fun e' => e (e'.trans hr.nb)
      refine (hr.lp _ _ _ _ _ _ _ _ hb).ext hx (fun ho => ?_)
      have hlt := hr.own _ _ ho
      exact ⟨by simp only [Env.newB, e', if_false], hold _ hlt, by simp only [Env.newB]; rw [if_neg (by omega)]⟩
  · intro nm m hb
    simp only [getB_snoc] at hb
    split at hb
    · cases hb
    · rename_i e
      have e' : nm ≠ E.nb := fun e' => e (e'.trans hr.nb)
      refine (hr.mp _ _ hb).ext hx (fun ho => ?_)
      have hlt := hr.own _ _ ho
      exact ⟨by simp only [Env.newB, e', if_false], hold _ hlt, by simp only [Env.newB]; rw [if_neg (by omega)]⟩

/-- A record moves on. -/
theorem RelH.setLoop {E : Env} {h : HS} {w w' : World} (hr : RelH E h w) {nm : Nat} {st pend fid t params assign body} (hb : getB h.blks nm = .loop st pend fid t params assign body) (st' : LoopState) (pend' : Option Code)
    {tmps : Array Value} {db : Nat} (h0 : w.heap[E.rho nm]? = some (.loop { state := st, pending := pend, fn := fid, tmps, params, assign, body, defers := db }))
    (hx : Ext E w E w') (hsz : w'.heap.size = w.heap.size) (hoth : ∀ b, b ≠ E.rho nm → w'.heap[b]? = w.heap[b]?) (hnew : w'.heap[E.rho nm]? = some (.loop { state := st', pending := pend', fn := fid, tmps, params, assign, body, defers := db })) :
    RelH E { h with blks := setB h.blks nm (.loop st' pend' fid t params assign body) } w' := by
  obtain ⟨tmps', db', b1, b2, b3⟩ := hr.lp _ _ _ _ _ _ _ _ hb
  rw [h0] at b1
  cases b1
  have hne : ∀ b tg, E.own b = some tg → tg ≠ .blk nm → b ≠ E.rho nm := fun b tg ho ht e => by rw [e, b3] at ho; cases ho; exact ht rfl
  refine ⟨by simp [lenB_set, hr.nb], hr.nv, ?_, ?_, fun b t hb => by rw [hsz]; exact hr.own b t hb, ?_, ?_⟩
  · intro nm' ty' c' hb'
    simp only [getB_set] at hb'
    split at hb'
    · cases hb'
    · rename_i e
      have hn : nm' ≠ nm := fun e' => e ⟨e', getB_ltL hb⟩
      obtain ⟨c, k1, k2, k3, k4⟩ := hr.blk nm' ty' c' hb'
      exact ⟨c, (hoth _ (hne _ _ k4 (fun e => hn (by injection e)))).trans k1, k2.ext hx, k3, k4⟩
  · intro id ver ty' sz n f hv
    obtain ⟨h0, ⟨a, cap, k1, k2⟩, k3⟩ := hr.vec id ver ty' sz n f hv
    exact ⟨h0, ⟨a, cap, k1, k2.ext hx (fun g hg => ⟨hoth g (hne _ _ hg (by intro e; cases e)), rfl⟩)⟩, k3⟩
  · intro nm' st2 pend2 fid2 t2 params2 assign2 body2 hb'
    simp only [getB_set] at hb'
    split at hb'
    · rename_i e
      obtain ⟨rfl, _⟩ := e
      cases hb'
      exact ⟨tmps, db, hnew, b2.ext hx, b3⟩
    · rename_i e
      have hn : nm' ≠ nm := fun e' => e ⟨e', getB_ltL hb⟩
      exact (hr.lp _ _ _ _ _ _ _ _ hb').ext hx (fun ho => ⟨rfl, hoth _ (hne _ _ ho (fun e => hn (by injection e))), rfl⟩)
  · intro nm' m hb'
    simp only [getB_set] at hb'
    split at hb'
    · cases hb'
    · rename_i e
      have hn : nm' ≠ nm := fun e' => e ⟨e', getB_ltL hb⟩
      exact (hr.mp _ _ hb').ext hx (fun ho => ⟨rfl, hoth _ (hne _ _ ho (fun e => hn (by injection e))), rfl⟩)
end Go.Eng
end

/- Own slices: made, appended to, read and written. -/
section
namespace Go.Eng
open Go.RowKit

def Env.newV (E : Env) : Env :=
  { E with nv := E.nv + 1, val := fun id ver => if id = E.nv then (if ver = 0 then some (none, 0, 0) else none) else E.val id ver }

theorem ext_newV (E : Env) (w : World) : Ext E w E.newV w :=
  ⟨rfl, rfl, rfl, Nat.le_refl _, Nat.le_refl _, by simp [Env.newV], fun _ _ => rfl, fun id ver x hi hv => by simp only [Env.newV]; rw [if_neg (by omega)]; exact hv, fun _ _ h => ⟨h, rfl⟩, fun _ h => ⟨h, rfl⟩⟩

theorem RelH.newVec {E : Env} {h : HS} {w : World} (hr : RelH E h w) (ty : TypeId) (sz : Nat) (hsz : 0 < sz) (f : Nat → Nat → SV) :
    RelH E.newV { h with vecs := snocV h.vecs (.live 0 ty sz 0 f) } w := by
  have hx := ext_newV E w
  refine ⟨hr.nb, by simp [Env.newV, lenV_snoc, hr.nv], ?_, ?_, hr.own, fun nm st pend fid t params assign body hb => (hr.lp _ _ _ _ _ _ _ _ hb).ext hx (fun _ => ⟨rfl, rfl, rfl⟩), fun nm m hb => (hr.mp _ _ hb).ext hx (fun _ => ⟨rfl, rfl, rfl⟩)⟩
  · intro nm ty' cells hb
    obtain ⟨cs, a1, a2, a3, a4⟩ := hr.blk nm ty' cells hb
    exact ⟨cs, a1, a2.ext hx, a3, a4⟩
  · intro id ver ty' sz' n f' hv
    simp only [getV_snoc] at hv
    split at hv
    · rename_i e
      cases hv
      have e' : id = E.nv := e.trans hr.nv.symm
      refine ⟨hsz, ⟨none, 0, by simp [Env.newV, e'], .inl ⟨fun _ h => (by cases h), rfl, rfl⟩⟩, fun v' hv' => ?_⟩
      simp only [Env.newV, e', if_true]
      rw [if_neg (by omega)]
    · rename_i e
      have e' : id ≠ E.nv := fun e' => e (e'.trans hr.nv)
      obtain ⟨h0, ⟨a, cap, k1, k2⟩, k3⟩ := hr.vec id ver ty' sz' n f' hv
      refine ⟨h0, ⟨a, cap, by simp only [Env.newV, e', if_false]; exact k1, k2.ext hx (fun g hg => ⟨rfl, rfl⟩)⟩, fun v' hv' => by simp only [Env.newV, e', if_false]; exact k3 v' hv'⟩

/-- m elements of sz cells lie at A, and are g. -/
def SrcAt (E : Env) (w : World) (A : Addr) (m sz : Nat) (g : Nat → Nat → SV) : Prop :=
  ∃ news : List Value, news.length = m * sz ∧ (∀ k u, news[k]? = some u → w.cell? (A.add k) = some u) ∧ (∀ u ∈ news, u.oneCell' = true) ∧
    ∀ i j u, i < m → j < sz → news[i * sz + j]? = some u → Den E w (g i j) u

theorem idx_lt {i j n sz : Nat} (hi : i < n) (hj : j < sz) : i * sz + j < n * sz := by
  have : (i + 1) * sz ≤ n * sz := Nat.mul_le_mul_right _ hi
  rw [Nat.add_mul] at this
  omega

theorem srcAt_row {E : Env} {w : World} {n sz : Nat} {f : Nat → Nat → SV} {A : Addr} (hsz : 0 < sz) (g : Nat → Nat → Value)
    (hc : ∀ i j, i < n → j < sz → w.cell? (A.add (i * sz + j)) = some (g i j)) (h1 : ∀ i j, i < n → j < sz → (g i j).oneCell' = true) (hd : ∀ i j, i < n → j < sz → Den E w (f i j) (g i j)) :
    SrcAt E w A n sz f := by
  have key : ∀ k, k < n * sz → k / sz < n ∧ k % sz < sz ∧ k / sz * sz + k % sz = k := fun k hk =>
    ⟨(Nat.div_lt_iff_lt_mul hsz).2 hk, Nat.mod_lt _ hsz, Nat.div_add_mod' k sz⟩
  refine ⟨(List.range (n * sz)).map fun k => g (k / sz) (k % sz), by simp, ?_, ?_, ?_⟩
  · intro k u hu
    rw [List.getElem?_map] at hu
    by_cases hk : k < n * sz
    · rw [List.getElem?_range hk] at hu
      simp only [Option.map_some, Option.some.injEq] at hu
      obtain ⟨a, b, c⟩ := key k hk
      have := hc _ _ a b
      rw [c] at this
      rw [this, hu]
    · rw [List.getElem?_eq_none (by simp; omega)] at hu
      simp at hu
  · intro u hu
    simp only [List.mem_map, List.mem_range] at hu
    obtain ⟨k, hk, rfl⟩ := hu
    obtain ⟨a, b, c⟩ := key k hk
    exact h1 _ _ a b
  · intro i j u hi hj hu
    have hk := idx_lt hi hj
    rw [List.getElem?_map, List.getElem?_range hk] at hu
    simp only [Option.map_some, Option.some.injEq] at hu
    have e1 : (i * sz + j) / sz = i := by rw [Nat.add_comm, Nat.add_mul_div_right _ _ hsz, Nat.div_eq_of_lt hj]; omega
    have e2 : (i * sz + j) % sz = j := by rw [Nat.add_comm, Nat.add_mul_mod_self_right, Nat.mod_eq_of_lt hj]
    rw [e1, e2] at hu
    rw [← hu]
    exact hd i j hi hj

theorem srcAt_zero {E : Env} {w : World} {A : Addr} {sz : Nat} {f : Nat → Nat → SV} : SrcAt E w A 0 sz f :=
  ⟨[], by simp, fun k u hu => by simp at hu, fun u hu => by simp at hu, fun i j u hi => by omega⟩
theorem VecAt.src {E : Env} {w : World} {id : Nat} {ty : TypeId} {sz n : Nat} {f : Nat → Nat → SV} {A : Addr} {cap : Nat} (h : VecAt E w id ty sz n f (some A) cap) : SrcAt E w A n sz f := by
  rcases h with ⟨_, rfl, _⟩ | ⟨g, o, cur, h1, h2, h3, h4, h5, h6, h7, h8⟩
  · exact srcAt_zero
  · cases h1
    have hle : n * sz ≤ cap * sz := Nat.mul_le_mul_right _ h2
    refine ⟨(cur.toList.drop o).take (n * sz), by simp; omega, ?_, ?_, ?_⟩
    · intro k u hu
      rw [List.getElem?_take] at hu
      split at hu
      · rw [Addr.add_lit]
        simp only [World.cell?, h4]
        rw [List.getElem?_drop] at hu
        simpa using hu
      · cases hu
    · intro u hu
      obtain ⟨k, hk⟩ := List.getElem?_of_mem hu
      rw [List.getElem?_take] at hk
      split at hk
      · rename_i hlt; rw [List.getElem?_drop] at hk; exact h7 k u hlt (by simpa using hk)
      · cases hk
    · intro i j u hi hj hu
      rw [List.getElem?_take, if_pos (idx_lt hi hj), List.getElem?_drop] at hu
      exact h8 i j u hi hj (by simpa using hu)

def Env.bump (E : Env) (id ver : Nat) (x : Option Addr × Nat × Nat) : Env :=
  { E with val := fun i v => if i = id ∧ v = ver then some x else E.val i v }
def Env.bumpO (E : Env) (id ver : Nat) (x : Option Addr × Nat × Nat) (g : Nat) : Env :=
  { E with val := fun i v => if i = id ∧ v = ver then some x else E.val i v, own := fun k => if k = g then some (.vec id) else E.own k }

def catF (n : Nat) (f g : Nat → Nat → SV) : Nat → Nat → SV := fun i j => if i < n then f i j else g (i - n) j

/-- The heap when one vec has moved on to a new version, whatever the new world. -/
theorem RelH.moved {E E' : Env} {h : HS} {w w' : World} (hr : RelH E h w) {id ver : Nat} {ty : TypeId} {sz n : Nat} {f : Nat → Nat → SV} (hv : getV h.vecs id = .live ver ty sz n f)
    (hx : Ext E w E' w') (hnb : E'.nb = E.nb) (hnv : E'.nv = E.nv) (hrho : E'.rho = E.rho) (hval : ∀ i v, i ≠ id → E'.val i v = E.val i v)
    (hkeep : ∀ b t, E.own b = some t → t ≠ .vec id → w'.heap[b]? = w.heap[b]? ∧ E'.own b = E.own b)
    (hown : ∀ b t, E'.own b = some t → b < w'.heap.size)
    {ver' n' : Nat} {f' : Nat → Nat → SV} {a : Option Addr} {cap : Nat} (h1 : E'.val id ver' = some (a, n', cap)) (h2 : VecAt E' w' id ty sz n' f' a cap) (h3 : ∀ v', ver' < v' → E'.val id v' = none) :
    RelH E' { h with vecs := setV h.vecs id (.live ver' ty sz n' f') } w' := by
  refine ⟨hnb.trans hr.nb, by rw [hnv, hr.nv]; simp [lenV_set], ?_, ?_, hown, fun nm st pend fid t params assign body hb => (hr.lp _ _ _ _ _ _ _ _ hb).ext hx (fun ho => ⟨by rw [hrho], hkeep _ _ ho (by intro e; cases e)⟩), fun nm m hb => (hr.mp _ _ hb).ext hx (fun ho => ⟨by rw [hrho], hkeep _ _ ho (by intro e; cases e)⟩)⟩
  · intro nm ty' cells hb
    obtain ⟨cs, a1, a2, a3, a4⟩ := hr.blk nm ty' cells hb
    obtain ⟨k1, k2⟩ := hkeep _ _ a4 (by intro e; cases e)
    exact ⟨cs, by rw [hrho]; exact k1.trans a1, a2.ext hx, a3, by rw [hrho]; exact k2.trans a4⟩
  · intro id' v' ty' sz' m g hg
    simp only [getV_set] at hg
    split at hg
    · rename_i e
      obtain ⟨rfl, _⟩ := e
      cases hg
      exact ⟨(hr.vec _ _ _ _ _ _ hv).1, ⟨a, cap, h1, h2⟩, h3⟩
    · rename_i e
      have hne : id' ≠ id := fun e' => e ⟨e', getV_lt hv⟩
      obtain ⟨h0, ⟨b, c, k1, k2⟩, k3⟩ := hr.vec _ _ _ _ _ _ hg
      exact ⟨h0, ⟨b, c, (hval _ _ hne).trans k1, k2.ext hx (fun q hq => hkeep q _ hq (by intro e; injection e with e; exact hne e))⟩, fun v hv => (hval _ _ hne).trans (k3 v hv)⟩
end Go.Eng
end

/- append onto an own slice. -/
section
namespace Go.Eng
open Go.RowKit

theorem bump_ext {E : Env} {h : HS} {w w' : World} (hr : RelH E h w) {id ver : Nat} {ty : TypeId} {sz n : Nat} {f : Nat → Nat → SV} (hv : getV h.vecs id = .live ver ty sz n f)
    (hx : Ext E w E w') (x : Option Addr × Nat × Nat) : Ext E w (E.bump id (ver + 1) x) w' := by
  have hn := (hr.vec _ _ _ _ _ _ hv).2.2
  refine ⟨hx.os, hx.tape, hx.output, hx.size, Nat.le_refl _, Nat.le_refl _, fun _ _ => rfl, fun i v y hi hy => ?_, hx.keep, hx.oth⟩
  simp only [Env.bump]
  split
  · rename_i e
    obtain ⟨rfl, rfl⟩ := e
    rw [hn _ (by omega)] at hy
    cases hy
  · exact hy

theorem bumpO_ext {E : Env} {h : HS} {w : World} (hr : RelH E h w) {id ver : Nat} {ty : TypeId} {sz n : Nat} {f : Nat → Nat → SV} (hv : getV h.vecs id = .live ver ty sz n f)
    (x : Option Addr × Nat × Nat) (o : Obj) : Ext E w (E.bumpO id (ver + 1) x w.heap.size) (w.drew.alloc o) := by
  have hn := (hr.vec _ _ _ _ _ _ hv).2.2
  refine ⟨rfl, rfl, rfl, by simp, Nat.le_refl _, Nat.le_refl _, fun _ _ => rfl, fun i v y hi hy => ?_, fun b hb h => ⟨?_, Below.heap_alloc w.drew o b hb⟩, fun b h => ⟨?_, Below.heap_alloc w.drew o b (hr.own b _ h)⟩⟩
  · simp only [Env.bumpO]
    split
    · rename_i e
      obtain ⟨rfl, rfl⟩ := e
      rw [hn _ (by omega)] at hy
      cases hy
    · exact hy
  · simp only [Env.bumpO]; rw [if_neg (by omega)]; exact h
  · have := hr.own b _ h; simp only [Env.bumpO]; rw [if_neg (by omega)]; exact h

theorem bump_none {E : Env} {id ver : Nat} {x : Option Addr × Nat × Nat} (h : ∀ v', ver < v' → E.val id v' = none) : ∀ v', ver + 1 < v' → (E.bump id (ver + 1) x).val id v' = none := fun v' hv => by
  simp only [Env.bump]; rw [if_neg (by omega)]; exact h v' (by omega)

theorem size_zeroCells' (z : Array Value) (n : Nat) : (Builtin.zeroCells z n).size = n * z.size := by simp [Builtin.zeroCells]

theorem run_append_roomO {P : Program} (w : World) (t ty e : TypeId) (i : TypeInfo) (ht : P.underlying t = some (.slice e)) (hi : P.info? e = some i)
    (g o sLen sCap : Nat) (cur : Array Value) (hg : w.heap[g]? = some (.cells cur e (0, 0)))
    (a : Addr) (m c : Nat) (news : List Value) (hl : news.length = m * i.size) (hnews : ∀ j u, news[j]? = some u → w.cell? (a.add j) = some u) (h1 : ∀ u ∈ news, u.oneCell' = true)
    (hroom : sLen + m ≤ sCap) (hfit : o + sLen * i.size + news.length ≤ cur.size) :
    (Builtin.append_ #[t, t] ty #[.slice (some ⟨g, o, none⟩) sLen sCap, .slice (some a) m c]).run P w =
      .ok (.slice (some ⟨g, o, none⟩) (sLen + m) sCap) (w.setRow g (cur.toList.take (o + sLen * i.size) ++ news ++ cur.toList.drop (o + sLen * i.size + news.length)).toArray) := by
  have hf := run_firstCells_some (P := P) w i.size m a m c news hl hnews
  have hst := run_storeCells_at P g (o + sLen * i.size) e news 0 cur w hg (by simpa using hfit) h1
  simp only [Nat.add_zero] at hst
  simp [Builtin.append_, run_underlying ht, sizeOf, typeInfo, hi, Builtin.lenOf, hroom, hf, Addr.add_lit, hst]

theorem append_ok {P : Program} {E : Env} {h : HS} {w : World} (hr : RelH E h w) {id ver : Nat} {e : TypeId} {sz n : Nat} {f : Nat → Nat → SV} (hv : getV h.vecs id = .live ver e sz n f)
    (t tr : TypeId) (i : TypeInfo) (z : Value) (ht : P.underlying t = some (.slice e)) (hi : P.info? e = some i) (hz : i.zero = some z) (hs : i.size = sz) (hzs : z.cells.size = sz)
    {a : Option Addr} {cap : Nat} (hval : E.val id ver = some (a, n, cap)) (x : Value) (m : Nat) (g : Nat → Nat → SV)
    (hx : (∃ A c, x = .slice (some A) m c ∧ SrcAt E w A m sz g) ∨ (m = 0 ∧ ∃ a' c, x = .slice a' 0 c))
    (h63 : n + m ≤ maxLen) (hby : (n + m) * i.bytes ≤ 140737488355328) :
    ∃ a' cap' w' E', (Builtin.append_ #[t, t] tr #[.slice a n cap, x]).run P w = .ok (.slice a' (n + m) cap') w' ∧ Ext E w E' w' ∧
      RelH E' { h with vecs := setV h.vecs id (.live (ver + 1) e sz (n + m) (catF n f g)) } w' ∧ E'.val id (ver + 1) = some (a', n + m, cap') ∧ id < E'.nv := by
  obtain ⟨hsz, ⟨a2, cap2, k1, k2⟩, k3⟩ := hr.vec _ _ _ _ _ _ hv
  rw [hval] at k1
  simp only [Option.some.injEq, Prod.mk.injEq, true_and] at k1
  obtain ⟨rfl, rfl⟩ := k1
  have hid : id < E.nv := by rw [hr.nv]; exact getV_lt hv
  have hfeq : ∀ (g : Nat → Nat → SV) (i j : Nat), i < n → catF n f g i j = f i j := fun g i j hi => by simp [catF, hi]
  by_cases hm : m = 0
  · -- nothing is appended
    subst hm
    obtain ⟨a', c, rfl⟩ : ∃ a' c, x = .slice a' 0 c := by
      rcases hx with ⟨A, c, rfl, _⟩ | ⟨_, a', c, rfl⟩
      · exact ⟨_, _, rfl⟩
      · exact ⟨_, _, rfl⟩
    have hnc : n ≤ cap := by rcases k2 with ⟨_, h1, h2⟩ | ⟨_, _, _, _, h2, _⟩ <;> omega
    have hrun : (Builtin.append_ #[t, t] tr #[.slice a n cap, .slice a' 0 c]).run P w = .ok (.slice a (n + 0) cap) w := by
      cases a <;> cases a' <;> simp [Builtin.append_, run_underlying ht, sizeOf, typeInfo, hi, Builtin.lenOf, Builtin.firstCells, hnc, loadCells, loadCellsFrom, storeCells]
    have hxx := bump_ext hr hv (Ext.refl E w) (a, n + 0, cap)
    refine ⟨a, cap, w, E.bump id (ver + 1) (a, n + 0, cap), hrun, hxx, ?_, by simp [Env.bump], hid⟩
    refine hr.moved hv hxx rfl rfl rfl (fun i v hi => by simp [Env.bump, hi]) (fun b t hb _ => ⟨rfl, rfl⟩) hr.own (a := a) (cap := cap) (by simp [Env.bump]) ?_ (bump_none k3)
    rcases k2 with h1 | ⟨g1, o, cur, h1, h2, h3, h4, h5, h6, h7, h8⟩
    · exact .inl ⟨h1.1, by omega, h1.2.2⟩
    · exact .inr ⟨g1, o, cur, h1, h2, h3, h4, h5, h6, h7, fun i j u hi hj hu => by rw [hfeq g i j hi]; exact (h8 i j u hi hj hu).ext hxx⟩
  · obtain ⟨A, c, rfl, news, hl, hnews, hone, hden⟩ : ∃ A c, x = .slice (some A) m c ∧ SrcAt E w A m sz g := by
      rcases hx with hx | ⟨h0, _⟩
      · exact hx
      · exact absurd h0 hm
    subst hs
    have key : ∀ {w' : World} {E' : Env} (xs : List Value) (rest : List Value) (hxx : Ext E w E' w'), xs.length = n * i.size → (∀ (k : Nat) (u : Value), xs[k]? = some u → u.oneCell' = true) →
        (∀ i' j u, i' < n → j < i.size → xs[i' * i.size + j]? = some u → Den E w (f i' j) u) →
        (∀ (k : Nat) (u : Value), k < (n + m) * i.size → (xs ++ news ++ rest)[k]? = some u → u.oneCell' = true) ∧ ∀ i' j u, i' < n + m → j < i.size → (xs ++ news ++ rest)[i' * i.size + j]? = some u → Den E' w' (catF n f g i' j) u := by
      intro w' E' xs rest hxx hxl hx1 hxd
      refine ⟨fun k u hk hu => ?_, fun i' j u hi' hj hu => ?_⟩
      · have hk2 : k < (xs ++ news).length := by rw [List.length_append, hxl, hl, ← Nat.add_mul]; exact hk
        rw [List.getElem?_append_left hk2] at hu
        by_cases hk3 : k < xs.length
        · rw [List.getElem?_append_left hk3] at hu; exact hx1 k u hu
        · rw [List.getElem?_append_right (by omega)] at hu; exact hone u (List.mem_of_getElem? hu)
      · have hk2 : i' * i.size + j < (xs ++ news).length := by rw [List.length_append, hxl, hl, ← Nat.add_mul]; exact idx_lt hi' hj
        rw [List.getElem?_append_left hk2] at hu
        by_cases hin : i' < n
        · rw [List.getElem?_append_left (by rw [hxl]; exact idx_lt hin hj)] at hu
          rw [hfeq g i' j hin]
          exact (hxd i' j u hin hj hu).ext hxx
        · obtain ⟨q, rfl⟩ : ∃ q, i' = n + q := ⟨i' - n, by omega⟩
          have e1 : (n + q) * i.size + j = xs.length + (q * i.size + j) := by rw [hxl, Nat.add_mul]; omega
          rw [e1, List.getElem?_append_right (by omega), Nat.add_sub_cancel_left] at hu
          have e2 : catF n f g (n + q) j = g q j := by simp only [catF]; rw [if_neg hin, Nat.add_sub_cancel_left]
          rw [e2]
          exact (hden q j u (by omega) hj hu).ext hxx
    have fresh : ∀ (xs : List Value) (cap' : Nat) (zs : Array Value), xs.length = n * i.size → (∀ (k : Nat) (u : Value), xs[k]? = some u → u.oneCell' = true) → (∀ i' j u, i' < n → j < i.size → xs[i' * i.size + j]? = some u → Den E w (f i' j) u) →
        n + m ≤ cap' → cap' ≤ maxLen → zs.size = (cap' - (n + m)) * i.size →
        ∃ E', Ext E w E' (w.drew.alloc (.cells (xs.toArray ++ news.toArray ++ zs) e)) ∧
          RelH E' { h with vecs := setV h.vecs id (.live (ver + 1) e i.size (n + m) (catF n f g)) } (w.drew.alloc (.cells (xs.toArray ++ news.toArray ++ zs) e)) ∧ E'.val id (ver + 1) = some (some ⟨w.heap.size, 0, none⟩, n + m, cap') ∧ id < E'.nv := by
      intro xs cap' zs hxl hx1 hxd hc1 hc2 hzl
      have hxx := bumpO_ext hr hv (some ⟨w.heap.size, 0, none⟩, n + m, cap') (.cells (xs.toArray ++ news.toArray ++ zs) e)
      obtain ⟨q1, q2⟩ := key xs zs.toList hxx hxl hx1 hxd
      have hcat : ∀ k : Nat, (xs.toArray ++ news.toArray ++ zs)[k]? = (xs ++ news ++ zs.toList)[k]? := fun k => by
        rw [← Array.getElem?_toList]; congr 1; simp
      refine ⟨_, hxx, ?_, by simp [Env.bumpO], hid⟩
      refine hr.moved hv hxx rfl rfl rfl (fun i' v hi' => by simp [Env.bumpO, hi']) (fun b t hb _ => ?_) (fun b t hb => ?_) (a := some ⟨w.heap.size, 0, none⟩) (cap := cap') (by simp [Env.bumpO]) ?_ (fun v' hv' => ?_)
      · have hlt := hr.own b t hb
        exact ⟨Below.heap_alloc w.drew _ b hlt, by simp only [Env.bumpO]; rw [if_neg (by omega)]⟩
      · simp only [Env.bumpO] at hb
        split at hb
        · rename_i e'; subst e'; simp
        · have := hr.own b t hb; simp; omega
      · refine .inr ⟨w.heap.size, 0, _, rfl, hc1, hc2, heap_alloc_new w.drew _, ?_, by simp [Env.bumpO], fun k u hk hu => q1 k u hk (by rw [Nat.zero_add] at hu; rw [← hcat]; exact hu), fun i' j u hi' hj hu => q2 i' j u hi' hj (by rw [Nat.zero_add] at hu; rw [← hcat]; exact hu)⟩
        simp only [Nat.zero_add, Array.size_append, List.size_toArray, hxl, hl, hzl, ← Nat.add_mul]
        refine Nat.le_of_eq ?_
        congr 1
        omega
      · simp only [Env.bumpO]; rw [if_neg (by omega)]; exact k3 v' (by omega)
    rcases k2 with ⟨hA0, rfl, rfl⟩ | ⟨g1, o, cur, rfl, h2, h3, h4, h5, h6, h7, h8⟩
    · cases a with
      | none =>
        -- from nil
        have hrun := run_append_nil (P := P) w t tr e i z ht hi hz A m c news hl hnews (by omega) (by simp only [maxLen] at h63; omega) (by simp only [Nat.zero_add] at hby; omega)
        have hge := grownCap_ge w m 0 e
        have hle := grownCap_le_maxLen w m 0 e (by simpa using h63)
        obtain ⟨E', q1, q2, q3, q4⟩ := fresh [] (grownCap w m 0 e) (Builtin.zeroCells z.cells (grownCap w m 0 e - m)) (by simp) (by simp) (by simp) (by omega) hle (by rw [size_zeroCells', hzs]; simp)
        simp only [Nat.zero_add, Array.empty_append] at q1 q2 q3 q4 ⊢
        exact ⟨_, _, _, E', hrun, q1, q2, q3, q4⟩
      | some B =>
        -- from no room at all
        have hrun := run_append_grow (P := P) w t tr e i z ht hi hz B 0 0 [] (by simp) (fun j u hu => by simp at hu) A m c news hl hnews (by omega) (by simp only [maxLen] at h63; omega) (growslice_fits (by omega) hby)
        have hge := grownCap_ge w (0 + m) 0 e
        have hle2 := grownCap_le_maxLen w (0 + m) 0 e h63
        obtain ⟨E', q1, q2, q3, q4⟩ := fresh [] (grownCap w (0 + m) 0 e) (Builtin.zeroCells z.cells (grownCap w (0 + m) 0 e - (0 + m))) (by simp) (by simp) (by simp) hge hle2 (by rw [size_zeroCells', hzs])
        exact ⟨_, _, _, E', hrun, q1, q2, q3, q4⟩
    · have hle : n * i.size ≤ cap * i.size := Nat.mul_le_mul_right _ h2
      have hcl : ((cur.toList.drop o).take (n * i.size)).length = n * i.size := by simp; omega
      have hc1 : ∀ (k : Nat) (u : Value), ((cur.toList.drop o).take (n * i.size))[k]? = some u → u.oneCell' = true := fun k u hu => by
        rw [List.getElem?_take] at hu
        split at hu
        · rename_i hk; rw [List.getElem?_drop] at hu; exact h7 k u hk (by simpa using hu)
        · cases hu
      have hcd : ∀ i' j u, i' < n → j < i.size → ((cur.toList.drop o).take (n * i.size))[i' * i.size + j]? = some u → Den E w (f i' j) u := fun i' j u hi' hj hu => by
        rw [List.getElem?_take, if_pos (idx_lt hi' hj), List.getElem?_drop] at hu
        exact h8 i' j u hi' hj (by simpa using hu)
      by_cases hroom : n + m ≤ cap
      · -- there is room
        have hfit : o + n * i.size + news.length ≤ cur.size := by rw [hl, Nat.add_assoc, ← Nat.add_mul]; exact Nat.le_trans (Nat.add_le_add_left (Nat.mul_le_mul_right _ hroom) _) h5
        have hrun := run_append_roomO (P := P) w t tr e i ht hi g1 o n cap cur h4 A m c news hl hnews hone hroom hfit
        have hx0 : Ext E w E (w.setRow g1 (cur.toList.take (o + n * i.size) ++ news ++ cur.toList.drop (o + n * i.size + news.length)).toArray) := ext_setRow h6 (by intro e; cases e) _
        have hxx := bump_ext hr hv hx0 (some ⟨g1, o, none⟩, n + m, cap)
        obtain ⟨q1, q2⟩ := key ((cur.toList.drop o).take (n * i.size)) (cur.toList.drop (o + n * i.size + news.length)) hxx hcl hc1 hcd
        have hsh : ∀ k : Nat, (cur.toList.take (o + n * i.size) ++ news ++ cur.toList.drop (o + n * i.size + news.length)).toArray[o + k]? = ((cur.toList.drop o).take (n * i.size) ++ news ++ cur.toList.drop (o + n * i.size + news.length))[k]? := fun k => by
          rw [List.getElem?_toArray, List.take_add, List.append_assoc, List.append_assoc, List.append_assoc, List.getElem?_append_right (by simp; omega)]
          congr 1
          simp; omega
        refine ⟨_, _, _, _, hrun, hxx, ?_, by simp [Env.bump], hid⟩
        refine hr.moved hv hxx rfl rfl rfl (fun i' v hi' => by simp [Env.bump, hi']) (fun b t hb ht => ⟨setRow_other _ _ _ _ (fun e' => ?_), rfl⟩) (fun b t hb => by simpa using hr.own b t hb) (a := some ⟨g1, o, none⟩) (cap := cap) (by simp [Env.bump]) ?_ (bump_none k3)
        · subst e'; rw [h6] at hb; cases hb; exact ht rfl
        · refine .inr ⟨g1, o, _, rfl, hroom, h3, setRow_heap w g1 cur _ e (0, 0) h4, ?_, h6, fun k u hk hu => q1 k u hk (by rw [← hsh]; exact hu), fun i' j u hi' hj hu => q2 i' j u hi' hj (by rw [← hsh]; exact hu)⟩
          simp only [List.size_toArray, List.length_append, List.length_take, List.length_drop, Array.length_toList]
          omega
      · -- a new array
        have holds : ∀ j u, ((cur.toList.drop o).take (n * i.size))[j]? = some u → w.cell? ((⟨g1, o, none⟩ : Addr).add j) = some u := fun j u hu => by
          rw [List.getElem?_take] at hu
          split at hu
          · rw [List.getElem?_drop] at hu; rw [Addr.add_lit]; simp only [World.cell?, h4]; simpa using hu
          · cases hu
        have hrun := run_append_grow (P := P) w t tr e i z ht hi hz ⟨g1, o, none⟩ n cap ((cur.toList.drop o).take (n * i.size)) hcl holds A m c news hl hnews (by omega) (by simp only [maxLen] at h63; omega) (growslice_fits (by omega) hby)
        have hge := grownCap_ge w (n + m) cap e
        have hle2 := grownCap_le_maxLen w (n + m) cap e h63
        obtain ⟨E', q1, q2, q3, q4⟩ := fresh _ (grownCap w (n + m) cap e) (Builtin.zeroCells z.cells (grownCap w (n + m) cap e - (n + m))) hcl hc1 hcd hge hle2 (by rw [size_zeroCells', hzs])
        exact ⟨_, _, _, E', hrun, q1, q2, q3, q4⟩
end Go.Eng
end

/- One operation on symbolic values. -/
section
namespace Go.Eng
set_option linter.unusedVariables false
open Go.RowKit

/-- A zero cell: a plain value, or a nil slice (whose elements are to be of type e, sz cells each). -/
inductive ZC where
  | c (x : SV)
  | sl (e sz : Nat)
inductive TK where
  | slice (e : Nat) | array (n e : Nat) | struct (offs : List (Nat × Nat)) | int (k : IntKind) | bool | func | map (k v : Nat) | str | other
structure TI where
  kind : TK
  agg : Bool
  ifc : Bool
  size : Nat
  bytes : Nat
  zero : List ZC
  eq : Option (List LK)
  /-- Which fields are structs or arrays. -/
  fag : List Bool
  /-- Methods of the type itself, with values as receivers. -/
  mt : List (String × Nat)
/-- A method of a type, called through an interface. -/
def mtF : List (String × Nat) → String → Option Nat
  | [], _ => none
  | (n, g) :: l, m => if n = m then some g else mtF l m
theorem mtF_hit (m : String) (g : Nat) (l : List (String × Nat)) : mtF ((m, g) :: l) m = some g := if_pos rfl
def MtOk (P : Program) (t : Nat) (m : String) (g : Nat) : Prop :=
  ∃ i d x, P.info? t = some i ∧ P.underlying t = some d ∧ i.methods.find? (·.name == m) = some x ∧ x.path = #[] ∧ x.func = some (g, false) ∧ ∀ e, d ≠ .pointer e
def mtChk (P : Program) (t : Nat) (m : String) (g : Nat) : Bool :=
  match P.info? t, P.underlying t with
  | some i, some d => (match i.methods.find? (·.name == m) with
    | some x => x.path.isEmpty && (match x.func with | some (f, b) => f == g && !b | none => false)
    | none => false) && (match d with | .pointer _ => false | _ => true)
  | _, _ => false
theorem mtChk_ok {P : Program} {t : Nat} {m : String} {g : Nat} (h : mtChk P t m g = true) : MtOk P t m g := by
  unfold mtChk at h
  split at h
  · rename_i i d hi hd
    simp only [Bool.and_eq_true] at h
    obtain ⟨h1, h2⟩ := h
    split at h1
    · rename_i x hx
      simp only [Bool.and_eq_true, Array.isEmpty_iff] at h1
      obtain ⟨h3, h4⟩ := h1
      split at h4
      · rename_i f b hf
        simp only [Bool.and_eq_true, beq_iff_eq, Bool.not_eq_true'] at h4
        obtain ⟨rfl, rfl⟩ := h4
        refine ⟨i, d, x, hi, hd, hx, h3, hf, fun e he => ?_⟩
        subst he
        cases h2
      · cases h4
    · cases h1
  · cases h
theorem mtF_mem : ∀ {l : List (String × Nat)} {m : String} {g : Nat}, mtF l m = some g → (m, g) ∈ l
  | [], _, _, h => by cases h
  | (n, g') :: l, m, g, h => by
    unfold mtF at h
    split at h
    · rename_i e
      subst e
      simp only [Option.some.injEq] at h
      subst h
      exact List.mem_cons_self ..
    · exact List.mem_cons_of_mem _ (mtF_mem h)

/-- The cells of a type that is compared cell by cell. -/
def goF (P : Program) (rec : Nat → Option (List LK)) : List Field → List LK → Option (List LK)
  | [], acc => some acc
  | f :: fs, acc => if f.name ≠ "_" then if f.offset = acc.length then match rec f.type with
    | some ks => goF P rec fs (acc ++ ks)
    | none => none
    else none else none
def repK (ks : List LK) : Nat → List LK
  | 0 => []
  | n + 1 => ks ++ repK ks n
def flatK (P : Program) : Nat → Nat → Option (List LK)
  | 0, _ => none
  | d + 1, t => match P.underlying t with
    | some (.int _) => some [.i]
    | some .bool => some [.b]
    | some (.struct fs) => if P.stoodInHeld t = false then match goF P (flatK P d) fs.toList [] with
      | some ks => match P.info? t with
        | some i => if i.size = ks.length then some ks else none
        | none => none
      | none => none
      else none
    | some (.array n e) => match flatK P d e with
      | some ks => match P.info? t with
        | some i => match P.info? e with
          | some ie => if ie.size = ks.length ∧ i.size = n * ks.length ∧ P.cellsOf e = ks.length then some (repK ks n) else none
          | none => none
        | none => none
      | none => none
    | _ => none

def svS : Value → SV
  | .int k n => .int k n
  | .bool b => .bool b
  | .string s => .str s
  | .pointer none => .nilp
  | .slice none 0 _ => .row 0 1 (fun _ _ => .any)
  | .nilFunc => .nilf
  | .nilIface => .nili
  | _ => .any
def svL : List Value → List SV
  | [] => []
  | v :: l => svS v :: svL l
def svC : Value → SV
  | .agg cs => if cs.all (·.oneCell') then .agg (svL cs.toList) else .any
  | v => svS v
def ev (t : List SV) : Operand → SV
  | .tmp i => nth t i
  | .const v => svC v
  | .global _ => .any
  | .func f => .func f []

theorem svS_den (E : Env) (w : World) (v : Value) : Den E w (svS v) v := by
  unfold svS
  split
  · exact .int _ _
  · exact .bool _
  · exact .str _
  · exact .nilp
  · exact .rowZ _ _
  · exact .nilf
  · exact .nili
  · exact .any _
theorem svL_den (E : Env) (w : World) : ∀ (l : List Value), (svL l).length = l.length ∧ ∀ (i : Nat) (x : SV) (u : Value), (svL l)[i]? = some x → l[i]? = some u → Den E w x u
  | [] => ⟨rfl, fun i x u h => by simp [svL] at h⟩
  | v :: l => by
    obtain ⟨h1, h2⟩ := svL_den E w l
    refine ⟨by simp [svL, h1], fun i x u hx hu => ?_⟩
    cases i with
    | zero => simp [svL] at hx hu; subst hx hu; exact svS_den E w v
    | succ i => simp [svL] at hx hu; exact h2 i x u hx hu
theorem svC_den (E : Env) (w : World) (v : Value) : Den E w (svC v) v := by
  unfold svC
  split
  · rename_i cs
    split
    · rename_i h
      obtain ⟨h1, h2⟩ := svL_den E w cs.toList
      rw [Array.all_eq_true] at h
      refine .agg cs (by simp [h1]) (fun i u hu => ?_) (fun i x u hx hu => h2 i x u hx (by simpa using hu))
      obtain ⟨hi, rfl⟩ := Array.getElem?_eq_some_iff.1 hu
      exact h i hi
    · exact .any _
  · exact svS_den E w v
theorem ev_den {E : Env} {w : World} {t : List SV} {a : Act} (h : DenA E w t a.tmps) (x : Operand) : Den E w (ev t x) (a.eval x) := by
  cases x with
  | tmp i => exact h.nth i
  | const v => exact svC_den E w v
  | global g => exact .any _
  | func f => exact .func #[] rfl (fun i x u hx => by simp at hx)

inductive Res where
  | val (p : Prop) (v : SV) (h : HS)
  | skip (p : Prop) (h : HS)
  /-- One of two values: the first only if p. -/
  | fork (p : Prop) (v u : SV) (h : HS)
  | pan (v : SV)
  | call (g : Nat) (args : List SV)
  /-- A call for which something was made first. -/
  | callN (p : Prop) (g : Nat) (args : List SV) (h : HS)
  | round (nm fid : Nat) (t : List SV) (assign body : Code)
  /-- One of the values below n for which p is, or u if there is none. -/
  | pick (c : Prop) (n : Nat) (p : Nat → Bool) (v : Nat → SV) (g : Nat → HS) (u : SV) (h : HS)
  | bad

/-- What a result promises of the operation's run. -/
def ResOk (P : Program) (E : Env) (h : HS) (w : World) (r : Result Next) : Res → Prop
  | .val p v h' => p → ∃ val w' E', r = .ok (.value val) w' ∧ Den E' w' v val ∧ RelH E' h' w' ∧ Ext E w E' w'
  | .skip p h' => p → ∃ w' E', r = .ok .skip w' ∧ RelH E' h' w' ∧ Ext E w E' w'
  | .fork p v u h' => ∃ val w' E', r = .ok (.value val) w' ∧ ((p ∧ Den E' w' v val) ∨ Den E' w' u val) ∧ RelH E' h' w' ∧ Ext E w E' w'
  | .pan v => ∃ val, r = .halt (.panic val) w ∧ Den E w v val
  | .call g args => ∃ vals, r = .ok (.enter g vals) w ∧ DenA E w args vals
  | .callN p g args h' => p → ∃ vals E', r = .ok (.enter g vals) w ∧ DenA E' w args vals ∧ RelH E' h' w ∧ Ext E w E' w
  | .pick c n p v g u h' => c → (∃ i val w' E', i < n ∧ p i = true ∧ r = .ok (.value val) w' ∧ Den E' w' (v i) val ∧ RelH E' (g i) w' ∧ Ext E w E' w') ∨
      ((∀ i, i < n → p i = false) ∧ ∃ val w' E', r = .ok (.value val) w' ∧ Den E' w' u val ∧ RelH E' h' w' ∧ Ext E w E' w')
  | .round nm fid t assign body => ∃ tmps, r = .ok (.round (E.rho nm) fid tmps assign body) w ∧ DenA E w t tmps ∧ nm < E.nb
  | .bad => True

def aggD (P : Program) (t : TypeId) : Option Bool := match P.underlying t with
  | some d => some (match d with | .struct _ | .array _ _ => true | _ => false)
  | none => none
def aggV : Value → Bool
  | .agg _ => true
  | _ => false
/-- The tables of types say what the program says. -/
structure TIOk (P : Program) (t : Nat) (ti : TI) : Prop where
  one : ti.agg = false → ti.size = 1
  info : ∃ (i : TypeInfo) (z : Value), P.info? t = some i ∧ i.size = ti.size ∧ i.bytes = ti.bytes ∧ i.zero = some z ∧ z.cells.size = ti.size ∧ ti.zero.length = ti.size ∧
    (∀ (k : Nat) (u : Value), z.cells[k]? = some u → u.oneCell' = true ∧ match ti.zero[k]? with | some (.c x) => x = svS u | some (.sl _ sz) => u = .slice none 0 0 ∧ 0 < sz | none => False)
  desc : ∃ d, P.underlying t = some d ∧ ti.ifc = (match d with | .interface _ => true | _ => false) ∧ ti.agg = (match d with | .struct _ | .array _ _ => true | _ => false) ∧
    match ti.kind with
    | .slice e => d = .slice e
    | .array n e => d = .array n e
    | .struct offs => ∃ fs : Array Field, d = .struct fs ∧ (fs.toList.mapM fun f => (P.info? f.type).map fun i => (f.offset, i.size)) = some offs ∧ ∀ x ∈ offs, x.2 ≠ 0
    | .int k => d = .int k
    | .bool => d = .bool
    | .func => ∃ a b c, d = .func a b c
    | .map k v => d = .map k v
    | .str => d = .string
    | .other => True
  zag : ∀ i z, P.info? t = some i → i.zero = some z → aggV z = ti.agg
  fag : ∀ fs, P.underlying t = some (.struct fs) → fs.toList.map (fun f => aggD P f.type) = ti.fag.map some
  eqv : ∀ ks, ti.eq = some ks → flatK P 8 t = some ks ∧ P.eqGuardType P.depth t = false
  mth : ∀ x ∈ ti.mt, MtOk P t x.1 x.2

theorem places_get {P : Program} : ∀ (fs : List Field) (offs : List (Nat × Nat)), (fs.mapM fun f => (P.info? f.type).map fun i => (f.offset, i.size)) = some offs →
    ∀ (k o s : Nat), offs[k]? = some (o, s) → ∃ f : Field, fs[k]? = some f ∧ f.offset = o ∧ ∃ i, P.info? f.type = some i ∧ i.size = s
  | [], offs, h, k, o, s, hk => by simp at h; subst h; simp at hk
  | f :: fs, offs, h, k, o, s, hk => by
    simp only [List.mapM_cons, Option.bind_eq_bind, Option.pure_def] at h
    cases hi : P.info? f.type with
    | none => simp [hi] at h
    | some i =>
      cases hr : fs.mapM (fun f => (P.info? f.type).map fun i => (f.offset, i.size)) with
      | none => simp [hi, hr] at h
      | some rest =>
        simp [hi, hr] at h
        subst h
        cases k with
        | zero => simp at hk; exact ⟨f, rfl, hk.1, i, hi, hk.2⟩
        | succ k => exact places_get fs rest hr k o s (by simpa using hk)

/- ### the kinds of operations -/
/-- Bit by bit. -/
def bitI (op : BinOp) (k : IntKind) (x y : Int) : Int := match op with
  | .and => k.wrap ((BitVec.ofInt k.bits x &&& BitVec.ofInt k.bits y).toNat : Int)
  | .or => k.wrap ((BitVec.ofInt k.bits x ||| BitVec.ofInt k.bits y).toNat : Int)
  | .xor => k.wrap ((BitVec.ofInt k.bits x ^^^ BitVec.ofInt k.bits y).toNat : Int)
  | _ => k.wrap ((BitVec.ofInt k.bits x &&& ~~~ BitVec.ofInt k.bits y).toNat : Int)
def rBin (op : BinOp) (a b : SV) (h : HS) : Res :=
  match op, a, b with
  | .add, .int k x, .int k' y => if k = k' then .val True (.int k (k.wrap (x + y))) h else .bad
  | .sub, .int k x, .int k' y => if k = k' then .val True (.int k (k.wrap (x - y))) h else .bad
  | .mul, .int k x, .int k' y => if k = k' then .val True (.int k (k.wrap (x * y))) h else .bad
  | .quo, .int k x, .int k' y => if k = k' then .val (y ≠ 0) (.int k (k.wrap (x.tdiv y))) h else .bad
  | .rem, .int k x, .int k' y => if k = k' then .val (y ≠ 0) (.int k (x.tmod y)) h else .bad
  | .shr, .int k x, .int _ y => .val (0 ≤ y) (.int k (x.fdiv (2 ^ (min y.toNat k.bits)))) h
  | .eql, .int k x, .int k' y => if k = k' then .val True (.bool (decide (x = y))) h else .bad
  | .neq, .int k x, .int k' y => if k = k' then .val True (.bool (!decide (x = y))) h else .bad
  | .lss, .int k x, .int k' y => if k = k' then .val True (.bool (decide (x < y))) h else .bad
  | .leq, .int k x, .int k' y => if k = k' then .val True (.bool (decide (x ≤ y))) h else .bad
  | .gtr, .int k x, .int k' y => if k = k' then .val True (.bool (decide (y < x))) h else .bad
  | .geq, .int k x, .int k' y => if k = k' then .val True (.bool (decide (y ≤ x))) h else .bad
  | .shl, .int k x, .int _ y => .val (0 ≤ y) (.int k (k.wrap (x * 2 ^ (min y.toNat k.bits)))) h
  | .and, .int k x, .int k' y => if k = k' then .val True (.int k (bitI .and k x y)) h else .bad
  | .or, .int k x, .int k' y => if k = k' then .val True (.int k (bitI .or k x y)) h else .bad
  | .xor, .int k x, .int k' y => if k = k' then .val True (.int k (bitI .xor k x y)) h else .bad
  | .andNot, .int k x, .int k' y => if k = k' then .val True (.int k (bitI .andNot k x y)) h else .bad
  | _, _, _ => .bad

theorem rBin_ok {P : Program} {E : Env} {h : HS} {w : World} (hr : RelH E h w) {op : BinOp} {a b : SV} {va vb : Value} (ha : Den E w a va) (hb : Den E w b vb) (t : TypeId) (x y : Operand) :
    ResOk P E h w (((do eqGuard op t x y va vb; binOp op t va vb : Sem Value) >>= fun v => pure (Next.value v)).run P w) (rBin op a b h) := by
  have fin : ∀ (p : Prop) (v : SV) (val : Value), (p → ((do eqGuard op t x y va vb; binOp op t va vb : Sem Value) >>= fun v => pure (Next.value v)).run P w = .ok (.value val) w) → Den E w v val →
      ResOk P E h w (((do eqGuard op t x y va vb; binOp op t va vb : Sem Value) >>= fun v => pure (Next.value v)).run P w) (.val p v h) :=
    fun p v val h1 h2 hp => ⟨val, w, E, h1 hp, h2, hr, Ext.refl E w⟩
  unfold rBin
  split
  · cases ha; cases hb; split
    · rename_i e; subst e; exact fin _ _ _ (fun hp => by simp [eqGuard, binOp, Op.intArith]) (.int _ _)
    · trivial
  · cases ha; cases hb; split
    · rename_i e; subst e; exact fin _ _ _ (fun hp => by simp [eqGuard, binOp, Op.intArith]) (.int _ _)
    · trivial
  · cases ha; cases hb; split
    · rename_i e; subst e; exact fin _ _ _ (fun hp => by simp [eqGuard, binOp, Op.intArith]) (.int _ _)
    · trivial
  · cases ha; cases hb; split
    · rename_i e; subst e; exact fin _ _ _ (fun hp => by simp [eqGuard, binOp, Op.intDiv, show ¬ _ = (0 : Int) from hp]) (.int _ _)
    · trivial
  · cases ha; cases hb; split
    · rename_i e; subst e; exact fin _ _ _ (fun hp => by simp [eqGuard, binOp, Op.intDiv, show ¬ _ = (0 : Int) from hp]) (.int _ _)
    · trivial
  · cases ha; cases hb; exact fin _ _ _ (fun hp => by simp [eqGuard, binOp, Op.shift, Int.not_lt.2 hp]) (.int _ _)
  · cases ha; cases hb; split
    · rename_i e; subst e; exact fin _ _ _ (fun hp => by simp [eqGuard, binOp, Op.intCmp]; rfl) (.bool _)
    · trivial
  · cases ha; cases hb; split
    · rename_i e; subst e; exact fin _ _ _ (fun hp => by simp [eqGuard, binOp, Op.intCmp, bne]; rfl) (.bool _)
    · trivial
  · cases ha; cases hb; split
    · rename_i e; subst e; exact fin _ _ _ (fun hp => by simp [eqGuard, binOp, Op.intCmp]) (.bool _)
    · trivial
  · cases ha; cases hb; split
    · rename_i e; subst e; exact fin _ _ _ (fun hp => by simp [eqGuard, binOp, Op.intCmp]) (.bool _)
    · trivial
  · cases ha; cases hb; split
    · rename_i e; subst e; exact fin _ _ _ (fun hp => by simp [eqGuard, binOp, Op.intCmp]) (.bool _)
    · trivial
  · cases ha; cases hb; split
    · rename_i e; subst e; exact fin _ _ _ (fun hp => by simp [eqGuard, binOp, Op.intCmp]) (.bool _)
    · trivial
  · cases ha; cases hb; exact fin _ _ _ (fun hp => by simp [eqGuard, binOp, Op.shift, Int.not_lt.2 hp]) (.int _ _)
  · cases ha; cases hb; split
    · rename_i e; subst e; exact fin _ _ _ (fun hp => by simp [eqGuard, binOp, Op.intBits, bitI]) (.int _ _)
    · trivial
  · cases ha; cases hb; split
    · rename_i e; subst e; exact fin _ _ _ (fun hp => by simp [eqGuard, binOp, Op.intBits, bitI]) (.int _ _)
    · trivial
  · cases ha; cases hb; split
    · rename_i e; subst e; exact fin _ _ _ (fun hp => by simp [eqGuard, binOp, Op.intBits, bitI]) (.int _ _)
    · trivial
  · cases ha; cases hb; split
    · rename_i e; subst e; exact fin _ _ _ (fun hp => by simp [eqGuard, binOp, Op.intBits, bitI]) (.int _ _)
    · trivial
  · trivial

/- ### comparing -/
def eqS : List LK → List SV → List SV → Option Bool
  | [], [], [] => some true
  | .i :: ks, .int k x :: l, .int k' y :: m => if k = k' then match eqS ks l m with
    | some q => some (decide (x = y) && q)
    | none => none
    else none
  | .b :: ks, .bool x :: l, .bool y :: m => match eqS ks l m with
    | some q => some (x == y && q)
    | none => none
  | _, _, _ => none
def eqV : List LK → List Value → List Value → Option Bool
  | [], [], [] => some true
  | .i :: ks, .int k x :: l, .int k' y :: m => if k = k' then match eqV ks l m with
    | some q => some (decide (x = y) && q)
    | none => none
    else none
  | .b :: ks, .bool x :: l, .bool y :: m => match eqV ks l m with
    | some q => some (x == y && q)
    | none => none
  | _, _, _ => none
theorem eqS_eqV {E : Env} {w : World} : ∀ {ks : List LK} {l m : List SV} {us vs : List Value} {q : Bool}, eqS ks l m = some q → us.length = l.length → vs.length = m.length →
    (∀ (i : Nat) (x : SV) (u : Value), l[i]? = some x → us[i]? = some u → Den E w x u) → (∀ (i : Nat) (x : SV) (u : Value), m[i]? = some x → vs[i]? = some u → Den E w x u) → eqV ks us vs = some q := by
  intro ks l m
  fun_induction eqS ks l m with
  | case1 =>
    intro us vs q h h1 h2 _ _
    cases us <;> cases vs <;> simp at h1 h2
    simpa [eqV] using h
  | case2 ks x l k y m q0 h0 ih =>
    intro us vs q h h1 h2 d1 d2
    cases us with
    | nil => simp at h1
    | cons u us =>
      cases vs with
      | nil => simp at h2
      | cons v vs =>
        have a1 := d1 0 _ _ rfl rfl
        have a2 := d2 0 _ _ rfl rfl
        cases a1; cases a2
        have := ih (us := us) (vs := vs) h0 (by simpa using h1) (by simpa using h2) (fun i x u hx hu => d1 (i + 1) x u (by simpa using hx) (by simpa using hu)) (fun i x u hx hu => d2 (i + 1) x u (by simpa using hx) (by simpa using hu))
        simp [eqV, this]
        simpa using h
  | case3 => intro us vs q h; cases h
  | case4 => intro us vs q h; cases h
  | case5 ks x l y m q0 h0 ih =>
    intro us vs q h h1 h2 d1 d2
    cases us with
    | nil => simp at h1
    | cons u us =>
      cases vs with
      | nil => simp at h2
      | cons v vs =>
        have a1 := d1 0 _ _ rfl rfl
        have a2 := d2 0 _ _ rfl rfl
        cases a1; cases a2
        have := ih (us := us) (vs := vs) h0 (by simpa using h1) (by simpa using h2) (fun i x u hx hu => d1 (i + 1) x u (by simpa using hx) (by simpa using hu)) (fun i x u hx hu => d2 (i + 1) x u (by simpa using hx) (by simpa using hu))
        simp [eqV, this]
        simpa using h
  | case6 => intro us vs q h; cases h
  | case7 => intro us vs q h; cases h
theorem eqV_len : ∀ {ks : List LK} {us vs : List Value} {q : Bool}, eqV ks us vs = some q → us.length = ks.length ∧ vs.length = ks.length := by
  intro ks us vs
  fun_induction eqV ks us vs with
  | case1 => intro q h; exact ⟨rfl, rfl⟩
  | case2 ks x l k y m q0 h0 ih => intro q h; have := ih h0; simp [this]
  | case3 => intro q h; cases h
  | case4 => intro q h; cases h
  | case5 ks x l y m q0 h0 ih => intro q h; have := ih h0; simp [this]
  | case6 => intro q h; cases h
  | case7 => intro q h; cases h
theorem eqV_app : ∀ {ks js : List LK} {us vs : List Value} {q : Bool}, eqV (ks ++ js) us vs = some q →
    ∃ a b, eqV ks (us.take ks.length) (vs.take ks.length) = some a ∧ eqV js (us.drop ks.length) (vs.drop ks.length) = some b ∧ q = (a && b)
  | [], js, us, vs, q, h => ⟨true, q, by simp [eqV], by simpa using h, by simp⟩
  | .i :: ks, js, us, vs, q, h => by
    cases us with
    | nil => simp [eqV] at h
    | cons u us =>
      cases vs with
      | nil => cases u <;> simp [eqV] at h
      | cons v vs =>
        cases u <;> cases v <;> simp only [List.cons_append, eqV, reduceCtorEq] at h
        split at h
        · rename_i k x k' y e
          subst e
          split at h
          · rename_i q0 h0
            obtain ⟨a, b, h1, h2, rfl⟩ := eqV_app h0
            simp only [Option.some.injEq] at h
            refine ⟨decide (x = y) && a, b, by simp [eqV, h1], by simpa using h2, by rw [← h, Bool.and_assoc]⟩
          · cases h
        · cases h
  | .b :: ks, js, us, vs, q, h => by
    cases us with
    | nil => simp [eqV] at h
    | cons u us =>
      cases vs with
      | nil => cases u <;> simp [eqV] at h
      | cons v vs =>
        cases u <;> cases v <;> simp only [List.cons_append, eqV, reduceCtorEq] at h
        rename_i x y
        split at h
        · rename_i q0 h0
          obtain ⟨a, b, h1, h2, rfl⟩ := eqV_app h0
          simp only [Option.some.injEq] at h
          refine ⟨x == y && a, b, by simp [eqV, h1], by simpa using h2, by rw [← h, Bool.and_assoc]⟩
        · cases h

/-- Two parts compared. -/
def EqAt (P : Program) (w : World) (D t off : Nat) (xs ys : Array Value) (q : Bool) : Prop :=
  ∃ a b, (part t xs off).run P w = .ok a w ∧ (part t ys off).run P w = .ok b w ∧ (Op.equalIn D t a b).run P w = .ok q w
theorem goF_ok {P : Program} {w : World} {D : Nat} {rec : Nat → Option (List LK)}
    (hrec : ∀ t ks, rec t = some ks → ∀ (xs ys : Array Value) (off : Nat) (q : Bool), eqV ks ((xs.toList.drop off).take ks.length) ((ys.toList.drop off).take ks.length) = some q → EqAt P w D t off xs ys q) :
    ∀ (fs : List Field) (acc ks : List LK), goF P rec fs acc = some ks → ∃ js, ks = acc ++ js ∧ ∀ (xs ys : Array Value) (q : Bool), eqV js (xs.toList.drop acc.length) (ys.toList.drop acc.length) = some q → (Op.eqFields D xs ys fs).run P w = .ok q w
  | [], acc, ks, h => by
    simp only [goF, Option.some.injEq] at h
    subst h
    refine ⟨[], by simp, fun xs ys q hq => ?_⟩
    generalize xs.toList.drop acc.length = a at hq
    generalize ys.toList.drop acc.length = b at hq
    cases a <;> cases b <;> simp [eqV] at hq
    subst hq
    simp [Op.eqFields]
  | f :: fs, acc, ks, h => by
    simp only [goF] at h
    split at h
    · rename_i hn
      split at h
      · rename_i ho
        split at h
        · rename_i k1 hk1
          obtain ⟨js, e, hjs⟩ := goF_ok hrec fs _ _ h
          refine ⟨k1 ++ js, by rw [e, List.append_assoc], fun xs ys q hq => ?_⟩
          obtain ⟨a, b, ha, hb, rfl⟩ := eqV_app hq
          obtain ⟨va, vb, p1, p2, p3⟩ := hrec _ _ hk1 xs ys acc.length a ha
          simp only [Op.eqFields, if_pos hn, Sem.run_bind]
          rw [ho, p1]
          simp only [Result.andThen_ok, p2, p3]
          cases a with
          | false => simp
          | true =>
            have := hjs xs ys b (by simpa [List.drop_drop, Nat.add_comm] using hb)
            simpa using this
        · cases h
      · cases h
    · cases h
theorem repK_len' (ks : List LK) : ∀ n, (repK ks n).length = n * ks.length
  | 0 => by simp [repK]
  | n + 1 => by simp [repK, repK_len' ks n, Nat.add_mul, Nat.add_comm]
theorem flatK_size {P : Program} {d t : Nat} {ks : List LK} (h : flatK P d t = some ks) {dd : TypeDesc} (hag : true = (match dd with | .struct _ | .array _ _ => true | _ => false)) (hd : P.underlying t = some dd) : ∃ i, P.info? t = some i ∧ i.size = ks.length := by
  cases d with
  | zero => simp [flatK] at h
  | succ d =>
    unfold flatK at h
    rw [hd] at h
    split at h
    · rename_i he; cases he; simp at hag
    · rename_i he; cases he; simp at hag
    · split at h
      · split at h
        · split at h
          · rename_i i hi
            split at h
            · rename_i hs; cases h; exact ⟨i, hi, hs⟩
            · cases h
          · cases h
        · cases h
      · cases h
    · split at h
      · split at h
        · rename_i i hi
          split at h
          · split at h
            · rename_i hs; cases h; exact ⟨i, hi, by rw [hs.2.1, repK_len']⟩
            · cases h
          · cases h
        · cases h
      · cases h
    · cases h
theorem repK_len (ks : List LK) : ∀ n, (repK ks n).length = n * ks.length
  | 0 => by simp [repK]
  | n + 1 => by simp [repK, repK_len ks n, Nat.add_mul, Nat.add_comm]
theorem items_ok {P : Program} {w : World} {D e : Nat} {ks : List LK} (hc : P.cellsOf e = ks.length)
    (hrec : ∀ (xs ys : Array Value) (off : Nat) (q : Bool), eqV ks ((xs.toList.drop off).take ks.length) ((ys.toList.drop off).take ks.length) = some q → EqAt P w D e off xs ys q) (xs ys : Array Value) :
    ∀ (n i : Nat) (q : Bool), eqV (repK ks n) (xs.toList.drop (i * ks.length)) (ys.toList.drop (i * ks.length)) = some q → (Op.eqItems D e (P.cellsOf e) xs ys (List.range' i n)).run P w = .ok q w
  | 0, i, q, hq => by
    generalize xs.toList.drop (i * ks.length) = a at hq
    generalize ys.toList.drop (i * ks.length) = b at hq
    cases a <;> cases b <;> simp [repK, eqV] at hq
    subst hq
    simp [Op.eqItems]
  | n + 1, i, q, hq => by
    simp only [repK] at hq
    obtain ⟨a, b, ha, hb, rfl⟩ := eqV_app hq
    obtain ⟨va, vb, p1, p2, p3⟩ := hrec xs ys (i * ks.length) a ha
    simp only [List.range'_succ, Op.eqItems, Sem.run_bind]
    rw [hc, p1]
    simp only [Result.andThen_ok, p2, p3]
    cases a with
    | false => simp
    | true =>
      have := items_ok hc hrec xs ys n (i + 1) b (by simpa [List.drop_drop, Nat.add_mul, Nat.add_comm] using hb)
      rw [hc] at this
      simpa using this
theorem flatK_ok {P : Program} {w : World} : ∀ (d : Nat) (t : Nat) (ks : List LK), flatK P d t = some ks → ∀ D, d ≤ D → ∀ (xs ys : Array Value) (off : Nat) (q : Bool),
    eqV ks ((xs.toList.drop off).take ks.length) ((ys.toList.drop off).take ks.length) = some q → EqAt P w D t off xs ys q
  | 0, t, ks, h => by simp [flatK] at h
  | d + 1, t, ks, h => by
    intro D hD xs ys off q hq
    obtain ⟨D, rfl⟩ : ∃ D', D = D' + 1 := ⟨D - 1, by omega⟩
    have one : ∀ (xs : Array Value) (u : Value), (xs.toList.drop off).take 1 = [u] → xs[off]? = some u := by
      intro xs u h
      have : ((xs.toList.drop off).take 1)[0]? = some u := by rw [h]; rfl
      simpa [List.getElem?_take, List.getElem?_drop] using this
    unfold flatK at h
    split at h
    · rename_i k hu
      cases h
      simp only [List.length_cons, List.length_nil, Nat.zero_add] at hq
      generalize ha : (xs.toList.drop off).take 1 = la at hq
      generalize hb : (ys.toList.drop off).take 1 = lb at hq
      cases la with
      | nil => simp [eqV] at hq
      | cons u la =>
        cases lb with
        | nil => cases u <;> simp [eqV] at hq
        | cons v lb =>
          have la0 : la = [] := by have := congrArg List.length ha; simp at this; exact List.length_eq_zero_iff.1 (by omega)
          have lb0 : lb = [] := by have := congrArg List.length hb; simp at this; exact List.length_eq_zero_iff.1 (by omega)
          subst la0 lb0
          cases u <;> cases v <;> simp only [eqV, reduceCtorEq] at hq
          split at hq
          · rename_i k1 x k2 y e
            subst e
            simp at hq
            refine ⟨.int k1 x, .int k1 y, by simp [part, isAgg, run_underlying hu, one xs _ ha], by simp [part, isAgg, run_underlying hu, one ys _ hb], ?_⟩
            rw [run_equalIn_int w D t k1 k x y hu, ← hq]
            rfl
          · cases hq
    · rename_i hu
      cases h
      simp only [List.length_cons, List.length_nil, Nat.zero_add] at hq
      generalize ha : (xs.toList.drop off).take 1 = la at hq
      generalize hb : (ys.toList.drop off).take 1 = lb at hq
      cases la with
      | nil => simp [eqV] at hq
      | cons u la =>
        cases lb with
        | nil => cases u <;> simp [eqV] at hq
        | cons v lb =>
          have la0 : la = [] := by have := congrArg List.length ha; simp at this; exact List.length_eq_zero_iff.1 (by omega)
          have lb0 : lb = [] := by have := congrArg List.length hb; simp at this; exact List.length_eq_zero_iff.1 (by omega)
          subst la0 lb0
          cases u <;> cases v <;> simp only [eqV, reduceCtorEq] at hq
          rename_i x y
          simp at hq
          refine ⟨.bool x, .bool y, by simp [part, isAgg, run_underlying hu, one xs _ ha], by simp [part, isAgg, run_underlying hu, one ys _ hb], ?_⟩
          rw [run_equalIn_bool' w D t x y hu, ← hq]
    · rename_i fs hu
      split at h
      · rename_i hst
        split at h
        · rename_i ks' hg
          split at h
          · rename_i i hi
            split at h
            · rename_i hsz
              cases h
              have hf : P.fieldsOf t = fs := by simp [Program.fieldsOf, hu]
              obtain ⟨js, e, hjs⟩ := goF_ok (P := P) (w := w) (D := D) (rec := flatK P d) (fun t' k' hk' xs ys off q hq => flatK_ok d t' k' hk' D (by omega) xs ys off q hq) fs.toList [] _ hg
              simp only [List.nil_append] at e
              subst e
              have hA : (isAgg t).run P w = .ok true w := by simp [isAgg, run_underlying hu]
              have hS : (sizeOf t).run P w = .ok ks.length w := by simp [sizeOf, typeInfo, hi, hsz]
              refine ⟨.agg (xs.extract off (off + ks.length)), .agg (ys.extract off (off + ks.length)), by simp [part, hA, hS], by simp [part, hA, hS], ?_⟩
              rw [run_equalIn_agg w D t _ _ (by rw [hf]; exact hu) hst, hf]
              refine hjs _ _ q ?_
              have e2 : ∀ (zs : Array Value), (zs.extract off (off + ks.length)).toList = (zs.toList.drop off).take ks.length := by
                intro zs
                rw [Array.toList_extract]
                simp [List.extract]
              simpa [e2] using hq
            · cases h
          · cases h
        · cases h
      · cases h
    · rename_i n e hu
      split at h
      · rename_i ke hke
        split at h
        · rename_i i hi
          split at h
          · rename_i ie hie
            split at h
            · rename_i hh
              cases h
              obtain ⟨hs1, hs2, hs3⟩ := hh
              have hA : (isAgg t).run P w = .ok true w := by simp [isAgg, run_underlying hu]
              have hS : (sizeOf t).run P w = .ok (repK ke n).length w := by simp [sizeOf, typeInfo, hi, hs2, repK_len]
              refine ⟨.agg (xs.extract off (off + (repK ke n).length)), .agg (ys.extract off (off + (repK ke n).length)), by simp [part, hA, hS], by simp [part, hA, hS], ?_⟩
              rw [run_equalIn_array w D _ _ hu hie, List.range_eq_range']
              refine items_ok hs3 (fun xs ys off q hq => flatK_ok d e ke hke D (by omega) xs ys off q hq) _ _ n 0 q ?_
              have e2 : ∀ (zs : Array Value), (zs.extract off (off + (repK ke n).length)).toList = (zs.toList.drop off).take (repK ke n).length := by
                intro zs
                rw [Array.toList_extract]
                simp [List.extract]
              simpa [e2] using hq
            · cases h
          · cases h
        · cases h
      · cases h
    · cases h

def isNilSl (y : Operand) : Bool := match y with
  | .const (.slice none 0 0) => true
  | _ => false
def isConst : Operand → Bool
  | .const _ => true
  | _ => false
def neO (op : BinOp) (q : Bool) (h : HS) : Res :=
  match op with
  | .eql => .val True (.bool q) h
  | .neq => .val True (.bool (!q)) h
  | _ => .bad
def rEqA (ti : Option TI) (op : BinOp) (l m : List SV) (h : HS) : Res :=
  match ti with
  | some ti => if ti.agg then match ti.eq with
    | some ks => match eqS ks l m with
      | some q => neO op q h
      | none => .bad
    | none => .bad
    else .bad
  | none => .bad
def rEqB (ti : Option TI) (op : BinOp) (x y : Bool) (h : HS) : Res :=
  match ti with
  | some ti => match ti.kind with
    | .bool => neO op (x == y) h
    | _ => .bad
  | none => .bad
def rEqI (ti : Option TI) (op : BinOp) (q : Bool) (h : HS) : Res :=
  match ti with
  | some ti => if ti.ifc then neO op q h else .bad
  | none => .bad
def rEqF (ti : Option TI) (op : BinOp) (q : Bool) (h : HS) : Res :=
  match ti with
  | some ti => match ti.kind with
    | .func => neO op q h
    | _ => .bad
  | none => .bad
/-- c: one of the two is a constant. -/
def rBin2 (ti : Option TI) (c : Bool) (op : BinOp) (a b : SV) (h : HS) : Res :=
  match a with
  | .int k x => rBin op (.int k x) b h
  | .bool x => match b with
    | .bool y => rEqB ti op x y h
    | _ => .bad
  | .agg l => match b with
    | .agg m => rEqA ti op l m h
    | _ => .bad
  | .iface _ _ => match b with
    | .nili => rEqI ti op false h
    | _ => .bad
  | .nili => match b with
    | .nili => if c then rEqI ti op true h else .bad
    | _ => .bad
  | .nilf => match b with
    | .nilf => if c then rEqF ti op true h else .bad
    | _ => .bad
  | .func _ _ => match b with
    | .nilf => rEqF ti op false h
    | _ => .bad
  | .meth _ _ => match b with
    | .nilf => rEqF ti op false h
    | _ => .bad
  | .str x => match b with
    | .str y => neO op (x.toList == y.toList) h
    | _ => .bad
  | _ => .bad

/-- A slice and nil: whether it is nil is not known, but then it is empty. -/
def vNil (a b : SV) (ver n : Nat) (h : HS) : Vc → Res
  | .live ver' _ _ N _ => .fork (ver = ver' → n = 0 ∨ N = 0) a b h
  | .dead => .bad
def nOf : Vc → Nat
  | .live _ _ _ n _ => n
  | .dead => 0
def rEqNil (ti : Option TI) (op : BinOp) (a : SV) (h : HS) : Res :=
  match ti with
  | some ti => match ti.kind with
    | .slice _ => match op, a with
      | .eql, .row n _ _ => .fork (n = 0) (.bool true) (.bool false) h
      | .neq, .row n _ _ => .fork (n = 0) (.bool false) (.bool true) h
      | .eql, .bsl _ _ _ => .val True (.bool false) h
      | .neq, .bsl _ _ _ => .val True (.bool true) h
      | .eql, .nils _ _ => .val True (.bool true) h
      | .neq, .nils _ _ => .val True (.bool false) h
      | .eql, .vec id ver => vNil (.bool true) (.bool false) ver (nOf (getV h.vecs id)) h (getV h.vecs id)
      | .neq, .vec id ver => vNil (.bool false) (.bool true) ver (nOf (getV h.vecs id)) h (getV h.vecs id)
      | .eql, .vcut id ver _ _ n _ => vNil (.bool true) (.bool false) ver n h (getV h.vecs id)
      | .neq, .vcut id ver _ _ n _ => vNil (.bool false) (.bool true) ver n h (getV h.vecs id)
      | _, _ => .bad
    | _ => .bad
  | none => .bad
def rBin3 (ti : Option TI) (c : Bool) (op : BinOp) (nl : Bool) (a b : SV) (h : HS) : Res :=
  match nl with
  | true => rEqNil ti op a h
  | false => rBin2 ti c op a b h
theorem Den.agg_inv {E : Env} {w : World} {l : List SV} {v : Value} (h : Den E w (.agg l) v) : ∃ us : Array Value, v = .agg us ∧ us.size = l.length ∧ ∀ (i : Nat) (x : SV) (u : Value), l[i]? = some x → us[i]? = some u → Den E w x u := by
  cases h
  rename_i us h1 hs hd
  exact ⟨us, rfl, hs, hd⟩
theorem eqI_nil {P : Program} (w : World) (d t : Nat) {ms : Array (String × TypeId)} (hd : P.underlying t = some (.interface ms)) (tx : TypeId) (v : Value) : (Op.equalIn (d + 1) t (.iface tx v) .nilIface).run P w = .ok false w := by
  simp [Op.equalIn, run_underlying hd]
theorem eqNN {P : Program} (w : World) (d t : Nat) {ms : Array (String × TypeId)} (hd : P.underlying t = some (.interface ms)) : (Op.equalIn (d + 1) t .nilIface .nilIface).run P w = .ok true w := by
  simp [Op.equalIn, run_underlying hd]
theorem eqF_nil {P : Program} (w : World) (d t : Nat) {x y z} (hd : P.underlying t = some (.func x y z)) (f : Fn) (a b : Array Value) : (Op.equalIn (d + 1) t (.func f a b) .nilFunc).run P w = .ok false w := by
  simp [Op.equalIn, run_underlying hd]
theorem eqFF {P : Program} (w : World) (d t : Nat) {x y z} (hd : P.underlying t = some (.func x y z)) : (Op.equalIn (d + 1) t .nilFunc .nilFunc).run P w = .ok true w := by
  simp [Op.equalIn, run_underlying hd]
theorem neO_ok {P : Program} {E : Env} {h : HS} {w : World} (hr : RelH E h w) {op : BinOp} {t : TypeId} {x y : Operand} {va vb : Value} {q : Bool}
    (hg : (eqGuard op t x y va vb).run P w = .ok () w) (h1 : (binOp .eql t va vb).run P w = .ok (.bool q) w) (h2 : (binOp .neq t va vb).run P w = .ok (.bool (!q)) w) :
    ResOk P E h w (((do eqGuard op t x y va vb; binOp op t va vb : Sem Value) >>= fun v => pure (Next.value v)).run P w) (neO op q h) := by
  unfold neO
  split
  · exact fun _ => ⟨.bool q, w, E, by simp [hg, h1], .bool _, hr, Ext.refl E w⟩
  · exact fun _ => ⟨.bool (!q), w, E, by simp [hg, h2], .bool _, hr, Ext.refl E w⟩
  · trivial
theorem rBin2_ok {P : Program} {T : Nat → Option TI} (hT : ∀ t ti, T t = some ti → TIOk P t ti) {E : Env} {h : HS} {w : World} (hr : RelH E h w) {op : BinOp} {a b : SV} {va vb : Value} (ha : Den E w a va) (hb : Den E w b vb) (t : TypeId) (x y : Operand) :
    ResOk P E h w (((do eqGuard op t x y va vb; binOp op t va vb : Sem Value) >>= fun v => pure (Next.value v)).run P w) (rBin2 (T t) (isConst x || isConst y) op a b h) := by
  unfold rBin2
  split
  · exact rBin_ok hr ha hb t x y
  · split
    · cases ha; cases hb
      unfold rEqB
      split
      · rename_i ti hti
        have k := hT t ti hti
        obtain ⟨d, hd, _, _, hkd⟩ := k.desc
        split
        · rename_i hk
          rw [hk] at hkd
          subst hkd
          refine neO_ok hr (by cases op <;> simp [eqGuard]) ?_ ?_
          · simp [binOp, Op.equal, Op.maxDepth, run_equalIn_bool' w 9999 t _ _ hd]
          · simp [binOp, Op.equal, Op.maxDepth, run_equalIn_bool' w 9999 t _ _ hd]
        · trivial
      · trivial
    · trivial
  · split
    · obtain ⟨us, rfl, hs1, hd1⟩ := ha.agg_inv
      obtain ⟨vs, rfl, hs2, hd2⟩ := hb.agg_inv
      unfold rEqA
      split
      · rename_i ti hti
        have k := hT t ti hti
        obtain ⟨d, hd, _, hag, _⟩ := k.desc
        split
        · rename_i hagg
          rw [hagg] at hag
          split
          · rename_i ks hks
            obtain ⟨k1, k2⟩ := k.eqv ks hks
            split
            · rename_i q hq
              have hv := eqS_eqV hq (us := us.toList) (vs := vs.toList) (by simpa using hs1) (by simpa using hs2) (fun i x u hx hu => hd1 i x u hx (by simpa using hu)) (fun i x u hx hu => hd2 i x u hx (by simpa using hu))
              obtain ⟨n1, n2⟩ := eqV_len hv
              have n1' : us.size = ks.length := by simpa using n1
              have n2' : vs.size = ks.length := by simpa using n2
              obtain ⟨va, vb, p1, p2, p3⟩ := flatK_ok (w := w) 8 t ks k1 10000 (by omega) us vs 0 q (by
                rw [show (List.drop 0 us.toList).take ks.length = us.toList from by rw [List.drop_zero]; exact List.take_of_length_le (by omega),
                  show (List.drop 0 vs.toList).take ks.length = vs.toList from by rw [List.drop_zero]; exact List.take_of_length_le (by omega)]
                exact hv)
              have hA : (isAgg t).run P w = .ok true w := by
                unfold isAgg
                cases d <;> simp at hag <;> simp [run_underlying hd]
              have hS : ∃ n, (sizeOf t).run P w = .ok n w ∧ n = ks.length := by
                obtain ⟨i, hi, hsz⟩ := flatK_size k1 hag hd
                exact ⟨i.size, by simp [sizeOf, typeInfo, hi], hsz⟩
              obtain ⟨n, hS, rfl⟩ := hS
              have hp : ∀ (zs : Array Value), zs.size = ks.length → (part t zs 0).run P w = .ok (.agg zs) w := by
                intro zs hz
                have : zs.extract 0 ks.length = zs := by rw [← hz]; simp
                simp [part, hA, hS, this]
              rw [hp us n1'] at p1
              rw [hp vs n2'] at p2
              cases p1; cases p2
              have hfin := p3
              exact neO_ok hr (run_eqGuard_agg w op t x y us vs k2) (by rw [run_eql_struct, hfin]; rfl) (by rw [run_neq_struct, hfin]; rfl)
            · trivial
          · trivial
        · trivial
      · trivial
    · trivial
  · split
    · cases ha; cases hb
      unfold rEqI
      split
      · rename_i ti hti
        have k := hT t ti hti
        obtain ⟨d, hd, hifc, _, hkd⟩ := k.desc
        split
        · rename_i hi
          rw [hi] at hifc
          cases d <;> simp at hifc
          refine neO_ok hr (by cases op <;> simp [eqGuard]) ?_ ?_
          · simp [binOp, Op.equal, Op.maxDepth, eqI_nil w 9999 t hd]
          · simp [binOp, Op.equal, Op.maxDepth, eqI_nil w 9999 t hd]
        · trivial
      · trivial
    · trivial
  · split
    · split
      · rename_i hc
        cases ha; cases hb
        unfold rEqI
        split
        · rename_i ti hti
          have k := hT t ti hti
          obtain ⟨d, hd, hifc, _, hkd⟩ := k.desc
          split
          · rename_i hi
            rw [hi] at hifc
            cases d <;> simp at hifc
            refine neO_ok hr ?_ ?_ ?_
            · cases x <;> cases y <;> simp [isConst] at hc <;> cases op <;> simp [eqGuard]
            · simp [binOp, Op.equal, Op.maxDepth, eqNN w 9999 t hd]
            · simp [binOp, Op.equal, Op.maxDepth, eqNN w 9999 t hd]
          · trivial
        · trivial
      · trivial
    · trivial
  · split
    · split
      · rename_i hc
        cases ha; cases hb
        unfold rEqF
        split
        · rename_i ti hti
          have k := hT t ti hti
          obtain ⟨d, hd, hifc, _, hkd⟩ := k.desc
          split
          · rename_i hk
            rw [hk] at hkd
            obtain ⟨x1, y1, z1, rfl⟩ := hkd
            refine neO_ok hr (by cases op <;> simp [eqGuard]) ?_ ?_
            · simp [binOp, Op.equal, Op.maxDepth, eqFF w 9999 t hd]
            · simp [binOp, Op.equal, Op.maxDepth, eqFF w 9999 t hd]
          · trivial
        · trivial
      · trivial
    · trivial
  · split
    · cases ha; cases hb
      unfold rEqF
      split
      · rename_i ti hti
        have k := hT t ti hti
        obtain ⟨d, hd, hifc, _, hkd⟩ := k.desc
        split
        · rename_i hk
          rw [hk] at hkd
          obtain ⟨x1, y1, z1, rfl⟩ := hkd
          refine neO_ok hr (by cases op <;> simp [eqGuard]) ?_ ?_
          · simp [binOp, Op.equal, Op.maxDepth, eqF_nil w 9999 t hd]
          · simp [binOp, Op.equal, Op.maxDepth, eqF_nil w 9999 t hd]
        · trivial
      · trivial
    · trivial
  · split
    · cases ha; cases hb
      unfold rEqF
      split
      · rename_i ti hti
        have k := hT t ti hti
        obtain ⟨d, hd, hifc, _, hkd⟩ := k.desc
        split
        · rename_i hk
          rw [hk] at hkd
          obtain ⟨x1, y1, z1, rfl⟩ := hkd
          refine neO_ok hr (by cases op <;> simp [eqGuard]) ?_ ?_
          · simp [binOp, Op.equal, Op.maxDepth, eqF_nil w 9999 t hd]
          · simp [binOp, Op.equal, Op.maxDepth, eqF_nil w 9999 t hd]
        · trivial
      · trivial
    · trivial
  · split
    · cases ha; cases hb
      exact neO_ok hr (by cases op <;> simp [eqGuard]) (by simp [binOp, Op.stringOp]) (by simp [binOp, Op.stringOp])
    · trivial
  · trivial
theorem row_nil {E : Env} {w : World} {n sz : Nat} {f : Nat → Nat → SV} {v : Value} (h : Den E w (.row n sz f) v) : ∃ a cap, v = .slice a n cap ∧ (a = none → n = 0) := by
  cases h with
  | row A cap => exact ⟨some A, cap, rfl, fun h => by cases h⟩
  | rowZ a cap => exact ⟨a, cap, rfl, fun _ => rfl⟩
theorem isNilSl_eq {y : Operand} (h : isNilSl y = true) : y = .const (.slice none 0 0) := by
  unfold isNilSl at h
  split at h
  · rfl
  · cases h
theorem eqSl {P : Program} (w : World) (d t : Nat) {e : TypeId} (hd : P.underlying t = some (.slice e)) (a : Option Addr) (n c : Nat) : (Op.equalIn (d + 1) t (.slice a n c) (.slice none 0 0)).run P w = .ok a.isNone w := by
  cases a <;> simp [Op.equalIn, run_underlying hd]
/-- An own slice that is nil has no elements. -/
theorem vec_nil {E : Env} {h : HS} {w : World} (hr : RelH E h w) {id ver : Nat} {v : Value} (hd : Den E w (.vec id ver) v) {ver' ty sz n f} (hv : getV h.vecs id = .live ver' ty sz n f) : ∃ a m cap, v = .slice a m cap ∧ (a = none → ver = ver' → n = 0 ∨ n = 0) := by
  cases hd with
  | @vec _ _ a m cap hi hval =>
    refine ⟨a, m, cap, rfl, fun ha hver => ?_⟩
    subst hver ha
    obtain ⟨_, ⟨a2, cap2, k1, k2⟩, _⟩ := hr.vec _ _ _ _ _ _ hv
    rw [k1] at hval
    cases hval
    rcases k2 with ⟨_, h0, _⟩ | ⟨g, o, cur, h1, _⟩
    · exact .inl h0
    · cases h1
theorem vcut_nil {E : Env} {h : HS} {w : World} (hr : RelH E h w) {id ver sz lo n : Nat} {x : Bool} {v : Value} (hd : Den E w (.vcut id ver sz lo n x) v) {ver' ty sz' N f} (hv : getV h.vecs id = .live ver' ty sz' N f) : ∃ a m cap, v = .slice a m cap ∧ (a = none → ver = ver' → n = 0 ∨ N = 0) := by
  obtain ⟨a, a', M, cap, rfl, hi, hval, hn, hc, ha, h0, hA, hB⟩ := hd.vcut_inv
  refine ⟨a', n, _, rfl, fun hn' hver => ?_⟩
  subst hver
  obtain ⟨_, ⟨a2, cap2, k1, k2⟩, _⟩ := hr.vec _ _ _ _ _ _ hv
  rw [k1] at hval
  cases hval
  rcases k2 with ⟨_, h1, _⟩ | ⟨g, o, cur, h1, _⟩
  · exact .inr h1
  · subst h1 hn'
    by_cases hz : n = 0
    · exact .inl hz
    · have := ha (by split <;> omega)
      simp at this
theorem rBin3_ok {P : Program} {T : Nat → Option TI} (hT : ∀ t ti, T t = some ti → TIOk P t ti) {E : Env} {h : HS} {w : World} (hr : RelH E h w) {op : BinOp} {a b : SV} {act : Act} {va : Value} (ha : Den E w a va) (t : TypeId) (x y : Operand) (hb : Den E w b (act.eval y)) :
    ResOk P E h w (((do eqGuard op t x y va (act.eval y); binOp op t va (act.eval y) : Sem Value) >>= fun v => pure (Next.value v)).run P w) (rBin3 (T t) (isConst x || isConst y) op (isNilSl y) a b h) := by
  unfold rBin3
  split
  · rename_i hn
    have := isNilSl_eq hn
    subst this
    unfold rEqNil
    split
    · rename_i ti hti
      obtain ⟨d, hd, _, _, hkd⟩ := (hT t ti hti).desc
      split
      · rename_i e hk
        rw [hk] at hkd
        subst hkd
        split
        · obtain ⟨A, cap, rfl, h0⟩ := row_nil ha
          refine ⟨.bool A.isNone, w, E, by simp [Act.eval, eqGuard, binOp, Op.equal, Op.maxDepth, eqSl w 9999 t hd], ?_, hr, Ext.refl E w⟩
          cases A with
          | none => exact .inl ⟨h0 rfl, .bool _⟩
          | some A => exact .inr (.bool _)
        · obtain ⟨A, cap, rfl, h0⟩ := row_nil ha
          refine ⟨.bool (!A.isNone), w, E, by simp [Act.eval, eqGuard, binOp, Op.equal, Op.maxDepth, eqSl w 9999 t hd], ?_, hr, Ext.refl E w⟩
          cases A with
          | none => exact .inl ⟨h0 rfl, .bool _⟩
          | some A => exact .inr (.bool _)
        · cases ha
          exact fun _ => ⟨.bool false, w, E, by simp [Act.eval, eqGuard, binOp, Op.equal, Op.maxDepth, eqSl w 9999 t hd], .bool _, hr, Ext.refl E w⟩
        · cases ha
          exact fun _ => ⟨.bool true, w, E, by simp [Act.eval, eqGuard, binOp, Op.equal, Op.maxDepth, eqSl w 9999 t hd], .bool _, hr, Ext.refl E w⟩
        · cases ha
          exact fun _ => ⟨.bool true, w, E, by simp [Act.eval, eqGuard, binOp, Op.equal, Op.maxDepth, eqSl w 9999 t hd], .bool _, hr, Ext.refl E w⟩
        · cases ha
          exact fun _ => ⟨.bool false, w, E, by simp [Act.eval, eqGuard, binOp, Op.equal, Op.maxDepth, eqSl w 9999 t hd], .bool _, hr, Ext.refl E w⟩
        · rename_i id ver
          unfold vNil
          split
          · rename_i hv
            rw [hv]
            obtain ⟨A, m, cap, rfl, h0⟩ := vec_nil hr ha hv
            refine ⟨.bool A.isNone, w, E, by simp [Act.eval, eqGuard, binOp, Op.equal, Op.maxDepth, eqSl w 9999 t hd], ?_, hr, Ext.refl E w⟩
            cases A with
            | none => exact .inl ⟨h0 rfl, .bool _⟩
            | some A => exact .inr (.bool _)
          · trivial
        · rename_i id ver
          unfold vNil
          split
          · rename_i hv
            rw [hv]
            obtain ⟨A, m, cap, rfl, h0⟩ := vec_nil hr ha hv
            refine ⟨.bool (!A.isNone), w, E, by simp [Act.eval, eqGuard, binOp, Op.equal, Op.maxDepth, eqSl w 9999 t hd], ?_, hr, Ext.refl E w⟩
            cases A with
            | none => exact .inl ⟨h0 rfl, .bool _⟩
            | some A => exact .inr (.bool _)
          · trivial
        · unfold vNil
          split
          · rename_i hv
            obtain ⟨A, m, cap, rfl, h0⟩ := vcut_nil hr ha hv
            refine ⟨.bool A.isNone, w, E, by simp [Act.eval, eqGuard, binOp, Op.equal, Op.maxDepth, eqSl w 9999 t hd], ?_, hr, Ext.refl E w⟩
            cases A with
            | none => exact .inl ⟨h0 rfl, .bool _⟩
            | some A => exact .inr (.bool _)
          · trivial
        · unfold vNil
          split
          · rename_i hv
            obtain ⟨A, m, cap, rfl, h0⟩ := vcut_nil hr ha hv
            refine ⟨.bool (!A.isNone), w, E, by simp [Act.eval, eqGuard, binOp, Op.equal, Op.maxDepth, eqSl w 9999 t hd], ?_, hr, Ext.refl E w⟩
            cases A with
            | none => exact .inl ⟨h0 rfl, .bool _⟩
            | some A => exact .inr (.bool _)
          · trivial
        · trivial
      · trivial
    · trivial
  · exact rBin2_ok hT hr ha hb t x y
end Go.Eng
end

/- Operations on memory: variables, fields, elements. -/
section
namespace Go.Eng
open Go.RowKit
set_option linter.unusedVariables false

theorem ResOk.pure {P : Program} {E : Env} {h : HS} {w : World} (hr : RelH E h w) {p : Prop} {v : SV} {val : Value} {r : Result Next} (h1 : p → r = .ok (.value val) w) (h2 : Den E w v val) : ResOk P E h w r (.val p v h) :=
  fun hp => ⟨val, w, E, h1 hp, h2, hr, Ext.refl E w⟩

/-- The pieces of a value that go into cells. -/
def cellsOf : SV → Option (List SV)
  | .agg l => some l
  | .any => none
  | .tup _ => none
  | x => some [x]

theorem cellsOf_den {E : Env} {w : World} {x : SV} {v : Value} (hd : Den E w x v) {l : List SV} (hl : cellsOf x = some l) : DenA E w l v.cells ∧ ∀ (k : Nat) (u : Value), v.cells[k]? = some u → u.oneCell' = true := by
  have one : ∀ (x : SV) (v : Value), Den E w x v → v.oneCell' = true → v.cells = #[v] → DenA E w [x] v.cells ∧ ∀ (k : Nat) (u : Value), v.cells[k]? = some u → u.oneCell' = true := by
    intro x v hd h1 hc
    rw [hc]
    refine ⟨⟨rfl, fun i y u hy hu => ?_⟩, fun k u hu => ?_⟩
    · cases i with
      | zero => simp at hy hu; subst hy hu; exact hd
      | succ i => simp at hy
    · cases k with
      | zero => simp at hu; subst hu; exact h1
      | succ k => simp at hu
  cases hd <;> simp only [cellsOf, Option.some.injEq, reduceCtorEq] at hl <;> first
    | (subst hl; refine one _ _ ?_ rfl rfl; first | exact .int _ _ | exact .bool _ | exact .str _ | exact .nilp | exact .nils ‹_› | exact .nilf | exact .nili | exact .yield ‹_› | (constructor <;> assumption) | exact .rowZ _ _ | exact .rptr _ _ ‹_› ‹_› ‹_› ‹_› ‹_› | exact .row _ _ _ ‹_› ‹_› ‹_› ‹_› ‹_› ‹_›)
    | (subst hl; rename_i vs hs h1 hd; exact ⟨⟨hs, hd⟩, h1⟩)

/-- A value out of some cells. -/
def ofCells (agg : Bool) (size : Nat) (l : List SV) (off : Nat) : SV :=
  if agg then .agg (takeN size (dropN off l)) else nth l off

theorem DenA.sub {E : Env} {w : World} {l : List SV} {vs : Array Value} (hd : DenA E w l vs) (off size : Nat) (h : off + size ≤ l.length) :
    DenA E w (takeN size (dropN off l)) (vs.extract off (off + size)) := by
  have hs : vs.size = l.length := hd.1
  refine ⟨by simp [takeN_eq, dropN_eq, hs]; omega, fun i x u hx hu => ?_⟩
  rw [takeN_eq, dropN_eq, List.getElem?_take] at hx
  rw [Array.getElem?_extract] at hu
  split at hx
  · rw [List.getElem?_drop] at hx
    split at hu
    · exact hd.2 _ x u hx (by simpa [Nat.add_comm] using hu)
    · cases hu
  · cases hx

theorem run_loadVar_own {P : Program} {w : World} {g : Nat} {cs : Array Value} {ty : TypeId} (hg : w.heap[g]? = some (.cells cs ty (0, 0))) {t : TypeId} {ti : TI} (hT : TIOk P t ti) (off : Nat) (ho : off + ti.size ≤ cs.size) (h1 : ti.agg = false → ti.size = 1) :
    (loadVar t ⟨g, off, none⟩).run P w = .ok (if ti.agg then .agg (cs.extract off (off + ti.size)) else cs.getD off undef) w := by
  obtain ⟨i, z, hi, hsz, _⟩ := hT.info
  obtain ⟨d, hd, _, hag, _⟩ := hT.desc
  have hc : ∀ j, j < ti.size → w.cell? ((⟨g, off, none⟩ : Addr).add j) = some (cs.getD (off + j) undef) := fun j hj => by
    rw [Addr.add_lit]
    have : off + j < cs.size := by omega
    simp [World.cell?, hg, this, Array.getD]
  cases hb : ti.agg with
  | true =>
    rw [hb] at hag
    have hA : (isAgg t).run P w = .ok true w := by
      unfold isAgg
      cases d <;> simp at hag <;> simp [run_underlying hd]
    have hS : (sizeOf t).run P w = .ok ti.size w := by simp [sizeOf, typeInfo, hi, hsz]
    have hL := run_loadCells (P := P) w ⟨g, off, none⟩ ti.size (fun j => cs.getD (off + j) undef) hc
    simp only [loadVar, Sem.run_bind, hA, Result.andThen_ok, if_true, hS, hL, Sem.run_pure]
    congr 2
    apply Array.ext'
    apply List.ext_getElem?
    intro j
    by_cases hj : j < ti.size
    · have h3 : off + j < cs.size := by omega
      rw [List.getElem?_map, List.getElem?_range hj]
      rw [Array.getElem?_toList, Array.getElem?_extract, if_pos (by omega)]
      simp [Array.getD, h3]
    · rw [List.getElem?_eq_none (by simp; omega), List.getElem?_eq_none (by simp; omega)]
  | false =>
    rw [hb] at hag
    have hA : (isAgg t).run P w = .ok false w := by
      unfold isAgg
      cases d <;> simp at hag <;> simp [run_underlying hd]
    have h0 := hc 0 (by have := h1 hb; omega)
    simp only [Addr.add_zero', Nat.add_zero] at h0
    simp [loadVar, hA, h0]

theorem run_loadVar_at {P : Program} {w : World} {A : Addr} {sz : Nat} {g : Nat → Value} (hc : ∀ j, j < sz → w.cell? (A.add j) = some (g j)) {t : TypeId} {ti : TI} (hT : TIOk P t ti) (ho : ti.size ≤ sz) (h1 : ti.agg = false → ti.size = 1) :
    (loadVar t A).run P w = .ok (if ti.agg then .agg ((List.range ti.size).map g).toArray else g 0) w := by
  obtain ⟨i, z, hi, hsz, _⟩ := hT.info
  obtain ⟨d, hd, _, hag, _⟩ := hT.desc
  cases hb : ti.agg with
  | true =>
    rw [hb] at hag
    have hA : (isAgg t).run P w = .ok true w := by
      unfold isAgg
      cases d <;> simp at hag <;> simp [run_underlying hd]
    have hS : (sizeOf t).run P w = .ok ti.size w := by simp [sizeOf, typeInfo, hi, hsz]
    have hL := run_loadCells (P := P) w A ti.size g (fun j hj => hc j (by omega))
    simp only [loadVar, Sem.run_bind, hA, Result.andThen_ok, if_true, hS, hL, Sem.run_pure]
  | false =>
    rw [hb] at hag
    have hA : (isAgg t).run P w = .ok false w := by
      unfold isAgg
      cases d <;> simp at hag <;> simp [run_underlying hd]
    have h0 := hc 0 (by have := h1 hb; omega)
    simp only [Addr.add_zero'] at h0
    simp [loadVar, hA, h0]
end Go.Eng
end

/- Loads, stores, fields, elements: their results and that they are right. -/
section
namespace Go.Eng
open Go.RowKit
set_option linter.unusedVariables false

def lenS : List SV → Nat
  | [] => 0
  | _ :: l => lenS l + 1
theorem lenS_eq (l : List SV) : lenS l = l.length := by induction l <;> simp [lenS, *]
def cellsF (f : Nat → SV) : Nat → Nat → List SV
  | 0, _ => []
  | n + 1, k => f k :: cellsF f n (k + 1)
theorem cellsF_get (f : Nat → SV) : ∀ (n k i : Nat), (cellsF f n k)[i]? = if i < n then some (f (k + i)) else none
  | 0, k, i => by simp [cellsF]
  | n + 1, k, 0 => by simp [cellsF]
  | n + 1, k, i + 1 => by
    simp only [cellsF, List.getElem?_cons_succ, cellsF_get f n (k + 1) i]
    by_cases h : i < n
    · rw [if_pos h, if_pos (by omega)]; congr 2; omega
    · rw [if_neg h, if_neg (by omega)]
theorem cellsF_len (f : Nat → SV) : ∀ (n k : Nat), (cellsF f n k).length = n
  | 0, _ => rfl
  | n + 1, k => by simp [cellsF, cellsF_len f n (k + 1)]

def rLoad (ti : TI) (h : HS) (addr : SV) : Res :=
  match addr with
  | .ptr nm off => match getB h.blks nm with
    | .live _ cells => .val (off + ti.size ≤ lenS cells) (ofCells ti.agg ti.size cells off) h
    | _ => .bad
  | .rptr sz f => .val (ti.size ≤ sz) (if ti.agg then .agg (cellsF f ti.size 0) else f 0) h
  | .vptr id ver sz i off => match getV h.vecs id with
    | .live ver' _ sz' n f => .val (ver = ver' ∧ sz = sz' ∧ i < n ∧ off + ti.size ≤ sz) (if ti.agg then .agg (cellsF (fun j => f i (off + j)) ti.size 0) else f i off) h
    | .dead => .bad
  | _ => .bad

def LoadOk (P : Program) (E : Env) (h : HS) (w : World) (t : TypeId) (v : Value) : Res → Prop
  | .val p u h' => p → ∃ A val, v = .pointer (some A) ∧ (loadVar t A).run P w = .ok val w ∧ Den E w u val ∧ h' = h
  | .bad => True
  | _ => False
theorem rLoad_at {P : Program} {E : Env} {h : HS} {w : World} (hr : RelH E h w) {t : TypeId} {ti : TI} (hT : TIOk P t ti) {x : SV} {v : Value} (hd : Den E w x v) :
    LoadOk P E h w t v (rLoad ti h x) := by
  unfold rLoad
  split
  · rename_i nm off
    split
    · rename_i ty cells hb
      cases hd
      obtain ⟨cs, h1, h2, h3, h4⟩ := hr.blk _ _ _ hb
      intro hp
      rw [lenS_eq] at hp
      have hsz := h2.1
      refine ⟨_, _, rfl, (run_loadVar_own h1 hT off (by omega) hT.one), ?_, rfl⟩
      unfold ofCells
      cases hb : ti.agg with
      | true =>
        have hs := h2.sub off ti.size (by omega)
        refine .agg _ hs.1 (fun i u hu => ?_) hs.2
        rw [Array.getElem?_extract] at hu
        split at hu
        · exact h3 _ _ hu
        · cases hu
      | false => exact h2.nth off
    · trivial
  · rename_i sz f
    cases hd
    rename_i A g hA ho hc h1 hd
    intro hp
    refine ⟨_, _, rfl, (run_loadVar_at hc hT hp hT.one), ?_, rfl⟩
    cases hb : ti.agg with
    | true =>
      refine .agg _ (by simp [cellsF_len]) (fun i u hu => ?_) (fun i y u hy hu => ?_)
      · simp only [List.getElem?_toArray] at hu
        by_cases hi : i < ti.size
        · rw [List.getElem?_map, List.getElem?_range hi] at hu
          simp only [Option.map_some, Option.some.injEq] at hu
          rw [← hu]; exact h1 i (by omega)
        · rw [List.getElem?_eq_none (by simp; omega)] at hu; cases hu
      · rw [cellsF_get] at hy
        simp only [List.getElem?_toArray] at hu
        split at hy
        · rename_i hi
          rw [List.getElem?_map, List.getElem?_range hi] at hu
          simp only [Option.map_some, Option.some.injEq, Nat.zero_add] at hu hy
          rw [← hu, ← hy]; exact hd i (by omega)
        · cases hy
    | false => exact hd 0 (by have := hT.one hb; omega)
  · rename_i id ver sz i off
    split
    · rename_i ver' ty sz' n f hv
      rintro ⟨rfl, rfl, hi, hs⟩
      obtain ⟨h0, ⟨a, cap, k1, k2⟩, k3⟩ := hr.vec _ _ _ _ _ _ hv
      cases hd
      rename_i b o n' cap' hid hval
      rw [k1] at hval
      simp only [Option.some.injEq, Prod.mk.injEq] at hval
      obtain ⟨rfl, rfl, rfl⟩ := hval
      rcases k2 with ⟨_, hk, _⟩ | ⟨g1, o1, cur, hk, h2, h3, h4, h5, h6, h7, h8⟩
      · omega
      · cases hk
        have hlt : ∀ j, j < sz → i * sz + j < n * sz := fun j hj => idx_lt hi hj
        have hsz2 : o + n * sz ≤ cur.size := Nat.le_trans (Nat.add_le_add_left (Nat.mul_le_mul_right _ h2) _) h5
        by_cases hts : ti.size = 0
        · cases hb : ti.agg with
          | false => have := hT.one hb; omega
          | true =>
            have hl0 := run_loadVar_own (P := P) h4 hT (o + (i * sz + off)) (by have := hlt (sz - 1) (by omega); omega) hT.one
            rw [hb] at hl0
            refine ⟨_, _, rfl, hl0, ?_, rfl⟩
            simp only [hts, Nat.add_zero, if_true, cellsF]
            refine .agg _ (by simp; omega) (fun i u hu => ?_) (fun i x u hx => by simp at hx)
            rw [Array.getElem?_extract] at hu
            split at hu
            · omega
            · cases hu
        · have hl0 := run_loadVar_own (P := P) h4 hT (o + (i * sz + off)) (by have := hlt (off + ti.size - 1) (by omega); omega) hT.one
          refine ⟨_, _, rfl, hl0, ?_, rfl⟩
          have hget : ∀ j, off + j < sz → ∃ u, cur[o + (i * sz + off) + j]? = some u ∧ Den E w (f i (off + j)) u ∧ u.oneCell' = true := fun j hj => by
            have hl := hlt (off + j) hj
            have hlc : o + (i * sz + off) + j < cur.size := by omega
            have e : o + (i * sz + (off + j)) = o + (i * sz + off) + j := by omega
            refine ⟨cur[o + (i * sz + off) + j], Array.getElem?_eq_getElem hlc, h8 i (off + j) _ hi hj (by rw [e]; exact Array.getElem?_eq_getElem hlc), h7 (i * sz + (off + j)) _ (by omega) (by rw [e]; exact Array.getElem?_eq_getElem hlc)⟩
          cases hb : ti.agg with
          | true =>
            refine .agg _ (by simp [cellsF_len]; have := hlt (off + ti.size - 1) (by omega); omega) (fun j u hu => ?_) (fun j y u hy hu => ?_)
            · rw [Array.getElem?_extract] at hu
              split at hu
              · rename_i hj
                obtain ⟨u', e1, e2, e3⟩ := hget j (by omega)
                rw [e1] at hu; cases hu; exact e3
              · cases hu
            · rw [cellsF_get] at hy
              rw [Array.getElem?_extract] at hu
              split at hy
              · rename_i hj
                obtain ⟨u', e1, e2, e3⟩ := hget j (by omega)
                simp only [Option.some.injEq, Nat.zero_add] at hy
                split at hu
                · rw [e1] at hu; cases hu; rw [← hy]; exact e2
                · cases hu
              · cases hy
          | false =>
            have := hT.one hb
            obtain ⟨u', e1, e2, e3⟩ := hget 0 (by omega)
            simp only [Nat.add_zero] at e1 e2
            simp only [Bool.false_eq_true, if_false]
            have hlc : o + (i * sz + off) < cur.size := (Array.getElem?_eq_some_iff.1 e1).1
            simp only [Array.getD, hlc, dif_pos]
            have : cur[o + (i * sz + off)] = u' := by rw [Array.getElem?_eq_getElem hlc] at e1; exact Option.some.inj e1
            rw [show cur.getInternal (o + (i * sz + off)) hlc = u' from this]
            exact e2
    · trivial
  · trivial

theorem rLoad_ok {P : Program} {E : Env} {h : HS} {w : World} (hr : RelH E h w) {t : TypeId} {ti : TI} (hT : TIOk P t ti) {x : SV} {v : Value} (hd : Den E w x v) :
    ResOk P E h w ((Instr.loadAt t v >>= fun v => pure (Next.value v)).run P w) (rLoad ti h x) := by
  have h0 := rLoad_at hr hT hd
  cases hl : rLoad ti h x with
  | val p u h' =>
    rw [hl] at h0
    intro hp
    obtain ⟨A, val, rfl, h1, h2, rfl⟩ := h0 hp
    exact ⟨val, w, E, by simp [Instr.loadAt, Instr.sureAddr, h1], h2, hr, Ext.refl E w⟩
  | bad => trivial
  | skip p h' => rw [hl] at h0; exact h0.elim
  | fork _ _ _ _ => rw [hl] at h0; exact h0.elim
  | pan v => rw [hl] at h0; exact h0.elim
  | call g args => rw [hl] at h0; exact h0.elim
  | callN _ _ _ _ => rw [hl] at h0; exact h0.elim
  | round _ _ _ _ _ => rw [hl] at h0; exact h0.elim
  | pick _ _ _ _ _ _ _ => rw [hl] at h0; exact h0.elim
end Go.Eng
end

/- Stores, fields, elements, building. -/
section
namespace Go.Eng
open Go.RowKit
set_option linter.unusedVariables false

theorem over_len : ∀ (l : List SV) (n : Nat) (ys : List SV), (over l n ys).length = l.length
  | l, n, [] => rfl
  | l, n, y :: ys => by simp only [over]; rw [over_len]; simp [upd_eq]
theorem over_eq : ∀ (l : List SV) (n : Nat) (ys : List SV), n + ys.length ≤ l.length → over l n ys = l.take n ++ ys ++ l.drop (n + ys.length)
  | l, n, [], h => by simp [over]
  | l, n, y :: ys, h => by
    simp only [over]
    have hn : n < l.length := by simp at h; omega
    rw [over_eq _ _ _ (by simp [upd_eq] at h ⊢; omega), upd_eq]
    apply List.ext_getElem?
    intro k
    simp only [List.append_assoc, List.length_cons]
    by_cases h1 : k < n
    · rw [List.getElem?_append_left (by simp; omega), List.getElem?_append_left (by simp; omega), List.getElem?_take, List.getElem?_take, if_pos (by omega), if_pos h1, List.getElem?_set_ne (by omega)]
    · by_cases h2 : k = n
      · subst h2
        rw [List.getElem?_append_left (by simp; omega), List.getElem?_take, if_pos (by omega), List.getElem?_set_self hn, List.getElem?_append_right (by simp; omega)]
        simp [List.length_take, Nat.min_eq_left (Nat.le_of_lt hn)]
      · by_cases h3 : k < n + 1 + ys.length
        · rw [List.getElem?_append_right (by simp; omega), List.getElem?_append_left (by simp; omega), List.getElem?_append_right (by simp; omega)]
          simp only [List.length_take, List.length_set]
          rw [Nat.min_eq_left (by omega), Nat.min_eq_left (by omega)]
          rw [show k - n = (k - (n + 1)) + 1 by omega, List.cons_append, List.getElem?_cons_succ, List.getElem?_append_left (by omega)]
        · rw [List.getElem?_append_right (by simp; omega), List.getElem?_append_right (by simp; omega), List.getElem?_append_right (by simp; omega)]
          simp only [List.length_take, List.length_set]
          rw [Nat.min_eq_left (by omega), Nat.min_eq_left (by omega)]
          rw [show k - n = (k - (n + 1)) + 1 by omega, List.cons_append, List.getElem?_cons_succ, List.getElem?_append_right (by omega), List.getElem?_drop, List.getElem?_drop, List.getElem?_set_ne (by omega)]
          congr 1
          omega

theorem DenA.over {E : Env} {w : World} {l : List SV} {vs : Array Value} (hd : DenA E w l vs) {ys : List SV} {us : Array Value} (hu : DenA E w ys us) {off : Nat} (h : off + ys.length ≤ l.length) :
    DenA E w (over l off ys) (vs.toList.take off ++ us.toList ++ vs.toList.drop (off + us.toList.length)).toArray := by
  have hs := hd.1
  have hs2 := hu.1
  rw [over_eq _ _ _ h]
  refine ⟨by simp [hs2]; omega, fun i x u hx hux => ?_⟩
  simp only [List.getElem?_toArray] at hux
  by_cases h1 : i < off
  · rw [List.append_assoc, List.getElem?_append_left (by simp; omega), List.getElem?_take, if_pos h1] at hx hux
    exact hd.2 i x u hx (by simpa using hux)
  · by_cases h2 : i < off + ys.length
    · rw [List.append_assoc, List.getElem?_append_right (by simp; omega), List.getElem?_append_left (by simp; omega)] at hx hux
      simp only [List.length_take, Array.length_toList] at hx hux
      rw [Nat.min_eq_left (by omega)] at hx hux
      exact hu.2 _ x u hx (by simpa using hux)
    · rw [List.getElem?_append_right (by simp; omega)] at hx hux
      simp only [List.length_append, List.length_take, Array.length_toList] at hx hux
      rw [Nat.min_eq_left (by omega), List.getElem?_drop] at hx hux
      rw [hs2] at hux
      refine hd.2 _ x u hx ?_
      simpa using hux

theorem one_over {vs us : Array Value} (h1 : ∀ (k : Nat) (u : Value), vs[k]? = some u → u.oneCell' = true) (h2 : ∀ (k : Nat) (u : Value), us[k]? = some u → u.oneCell' = true) (off : Nat) :
    ∀ (k : Nat) (u : Value), (vs.toList.take off ++ us.toList ++ vs.toList.drop (off + us.toList.length)).toArray[k]? = some u → u.oneCell' = true := by
  intro k u hu
  have hm := List.mem_of_getElem? (by simpa using hu : (vs.toList.take off ++ (us.toList ++ vs.toList.drop (off + us.toList.length)))[k]? = some u)
  simp only [List.mem_append] at hm
  have hv : ∀ x ∈ vs.toList, x.oneCell' = true := fun x hx => by obtain ⟨j, hj⟩ := List.getElem?_of_mem hx; exact h1 j x (by simpa using hj)
  rcases hm with hm | hm | hm
  · exact hv _ (List.mem_of_mem_take hm)
  · obtain ⟨j, hj⟩ := List.getElem?_of_mem hm; exact h2 j u (by simpa using hj)
  · exact hv _ (List.mem_of_mem_drop hm)

def updF (f : Nat → Nat → SV) (i off size : Nat) (l : List SV) : Nat → Nat → SV := fun i' j' => if i' = i ∧ off ≤ j' ∧ j' < off + size then nth l (j' - off) else f i' j'

def rStore (ti : TI) (h : HS) (addr v : SV) : Res :=
  match cellsOf v with
  | none => .bad
  | some l => match addr with
    | .ptr nm off => match getB h.blks nm with
      | .live ty cells => .skip (lenS l = ti.size ∧ off + ti.size ≤ lenS cells) { h with blks := setB h.blks nm (.live ty (over cells off l)) }
      | _ => .bad
    | .vptr id ver sz i off => match getV h.vecs id with
      | .live ver' ty sz' n f => .skip (lenS l = ti.size ∧ ver = ver' ∧ sz = sz' ∧ i < n ∧ off + ti.size ≤ sz) { h with vecs := setV h.vecs id (.live ver' ty sz' n (updF f i off ti.size l)) }
      | .dead => .bad
    | _ => .bad

theorem run_storeVar_own {P : Program} {w : World} {g : Nat} {cs : Array Value} {ty : TypeId} (hg : w.heap[g]? = some (.cells cs ty (0, 0))) {t : TypeId} {ti : TI} (hT : TIOk P t ti) (off : Nat) (v : Value)
    (hs : v.cells.size = ti.size) (ho : off + ti.size ≤ cs.size) (h1 : ∀ (k : Nat) (u : Value), v.cells[k]? = some u → u.oneCell' = true) :
    (storeVar t ⟨g, off, none⟩ v).run P w = .ok () (w.setRow g (cs.toList.take off ++ v.cells.toList ++ cs.toList.drop (off + v.cells.toList.length)).toArray) := by
  obtain ⟨i, z, hi, hsz, _⟩ := hT.info
  have hst := run_storeCells_at P g off ty v.cells.toList 0 cs w hg (by simp [hs]; omega) (fun u hu => by obtain ⟨j, hj⟩ := List.getElem?_of_mem hu; exact h1 j u (by simpa using hj))
  simp only [Nat.add_zero] at hst
  simp [storeVar, sizeOf, typeInfo, hi, hs, hsz, hst]

/-- A write into an own slice's elements. -/
theorem RelH.vwrite {E : Env} {h : HS} {w : World} (hr : RelH E h w) {id ver : Nat} {ty : TypeId} {sz n : Nat} {f : Nat → Nat → SV} (hv : getV h.vecs id = .live ver ty sz n f)
    {g o : Nat} {cap : Nat} (hval : E.val id ver = some (some ⟨g, o, none⟩, n, cap)) {cur : Array Value} (hg : w.heap[g]? = some (.cells cur ty (0, 0))) (ho : E.own g = some (.vec id))
    (cs : Array Value) (f' : Nat → Nat → SV) (hs : cs.size = cur.size) (h1 : ∀ (k : Nat) (u : Value), k < n * sz → cs[o + k]? = some u → u.oneCell' = true)
    (hd : ∀ i j u, i < n → j < sz → cs[o + (i * sz + j)]? = some u → Den E w (f' i j) u) :
    RelH E { h with vecs := setV h.vecs id (.live ver ty sz n f') } (w.setRow g cs) ∧ Ext E w E (w.setRow g cs) := by
  have hx : Ext E w E (w.setRow g cs) := ext_setRow ho (by intro e; cases e) cs
  obtain ⟨h0, ⟨a, cap', k1, k2⟩, k3⟩ := hr.vec _ _ _ _ _ _ hv
  rw [hval] at k1
  simp only [Option.some.injEq, Prod.mk.injEq, true_and] at k1
  obtain ⟨rfl, rfl⟩ := k1
  refine ⟨hr.moved hv hx rfl rfl rfl (fun _ _ _ => rfl) (fun b t hb ht => ⟨setRow_other _ _ _ _ (fun e => ?_), rfl⟩) (fun b t hb => by simpa using hr.own b t hb) hval ?_ k3, hx⟩
  · subst e; rw [ho] at hb; cases hb; exact ht rfl
  · rcases k2 with ⟨hk, hk2, hk3⟩ | ⟨g1, o1, cur1, hk, h2, h3, h4, h5, h6, h7, h8⟩
    · exact .inl ⟨hk, hk2, hk3⟩
    · cases hk
      rw [hg] at h4
      cases h4
      exact .inr ⟨g, o, cs, rfl, h2, h3, setRow_heap w g cur cs ty (0, 0) hg, (by rw [hs]; exact h5), ho, h1, fun i j u hi hj hu => (hd i j u hi hj hu).ext hx⟩

theorem rStore_ok {P : Program} {E : Env} {h : HS} {w : World} (hr : RelH E h w) {t : TypeId} {ti : TI} (hT : TIOk P t ti) {x y : SV} {vx vy : Value} (hx : Den E w x vx) (hy : Den E w y vy) :
    ResOk P E h w ((Instr.storeAt t vx vy >>= fun _ => (pure Next.skip : Sem Next)).run P w) (rStore ti h x y) := by
  have fin : ∀ (A : Addr) (w' : World), vx = .pointer (some A) → (storeVar t A vy).run P w = .ok () w' → (Instr.storeAt t vx vy >>= fun _ => (pure Next.skip : Sem Next)).run P w = .ok .skip w' := by
    rintro A w' rfl hl
    simp [Instr.storeAt, Instr.sureAddr, hl]
  unfold rStore
  split
  · trivial
  · rename_i l hl
    obtain ⟨d1, d2⟩ := cellsOf_den hy hl
    have hsz := d1.1
    split
    · rename_i nm off
      split
      · rename_i ty cells hb
        rintro ⟨p1, p2⟩
        rw [lenS_eq] at p1 p2
        cases hx
        obtain ⟨cs, a1, a2, a3, a4⟩ := hr.blk _ _ _ hb
        have hcs := a2.1
        refine ⟨_, E, fin _ _ rfl (run_storeVar_own a1 hT off vy (by omega) (by omega) d2), hr.write hb _ _ (a2.over d1 (by omega)) (one_over a3 d2 off), ext_setRow a4 (by intro e; cases e) _⟩
      · trivial
    · rename_i id ver sz i off
      split
      · rename_i ver' ty sz' n f hv
        rintro ⟨p1, rfl, rfl, hi, p2⟩
        rw [lenS_eq] at p1
        cases hx
        rename_i b o n' cap' hid hval
        obtain ⟨h0, ⟨a, cap, k1, k2⟩, k3⟩ := hr.vec _ _ _ _ _ _ hv
        have hval' := k1
        rw [hval] at k1
        simp only [Option.some.injEq, Prod.mk.injEq] at k1
        obtain ⟨rfl, rfl, rfl⟩ := k1
        rcases k2 with ⟨_, hk, _⟩ | ⟨g1, o1, cur, hk, h2, h3, h4, h5, h6, h7, h8⟩
        · omega
        · cases hk
          have hlt : ∀ j, j < sz → i * sz + j < n' * sz := fun j hj => idx_lt hi hj
          have hle : o + n' * sz ≤ cur.size := Nat.le_trans (Nat.add_le_add_left (Nat.mul_le_mul_right _ h2) _) h5
          have hbd : i * sz + off + ti.size ≤ n' * sz := by
            have : (i + 1) * sz ≤ n' * sz := Nat.mul_le_mul_right _ hi
            rw [Nat.add_mul] at this; omega
          have hvs : vy.cells.toList.length = ti.size := by simp; omega
          have hget : ∀ k, (cur.toList.take (o + (i * sz + off)) ++ vy.cells.toList ++ cur.toList.drop (o + (i * sz + off) + vy.cells.toList.length)).toArray[k]? = if o + (i * sz + off) ≤ k ∧ k < o + (i * sz + off) + ti.size then vy.cells[k - (o + (i * sz + off))]? else cur[k]? := fun k => by
            simp only [List.getElem?_toArray]
            by_cases c1 : k < o + (i * sz + off)
            · rw [List.append_assoc, List.getElem?_append_left (by simp; omega), List.getElem?_take, if_pos c1, if_neg (by omega)]; simp
            · by_cases c2 : k < o + (i * sz + off) + ti.size
              · rw [List.append_assoc, List.getElem?_append_right (by simp; omega), List.getElem?_append_left (by simp; omega), if_pos (by omega)]
                simp only [List.length_take, Array.length_toList]
                rw [Nat.min_eq_left (by omega)]; simp
              · rw [List.getElem?_append_right (by simp; omega), if_neg (by omega), List.getElem?_drop]
                simp only [List.length_append, List.length_take, hvs, Array.length_toList]
                rw [Nat.min_eq_left (by omega)]
                have : o + (i * sz + off) + ti.size + (k - (o + (i * sz + off) + ti.size)) = k := by omega
                rw [this]; simp
          obtain ⟨r1, r2⟩ := hr.vwrite hv hval h4 h6 (cur.toList.take (o + (i * sz + off)) ++ vy.cells.toList ++ cur.toList.drop (o + (i * sz + off) + vy.cells.toList.length)).toArray (updF f i off ti.size l)
            (by simp only [List.size_toArray, List.length_append, List.length_take, List.length_drop, hvs, Array.length_toList]; omega)
            (fun k u hk hu => by
              rw [hget] at hu
              split at hu
              · exact d2 _ _ hu
              · exact h7 k u hk hu)
            (fun i' j u hi' hj hu => by
              rw [hget] at hu
              simp only [updF]
              by_cases c : i' = i ∧ off ≤ j ∧ j < off + ti.size
              · obtain ⟨rfl, c1, c2⟩ := c
                rw [if_pos ⟨rfl, c1, c2⟩]
                rw [if_pos (by omega)] at hu
                have e : o + (i' * sz + j) - (o + (i' * sz + off)) = j - off := by omega
                rw [e] at hu
                rw [nth_eq]
                have hjl : j - off < l.length := by omega
                have := d1.2 (j - off) l[j - off] u (List.getElem?_eq_getElem hjl) hu
                simpa [List.getD, List.getElem?_eq_getElem hjl] using this
              · rw [if_neg c]
                rw [if_neg ?_] at hu
                · exact h8 i' j u hi' hj hu
                · rintro ⟨c1, c2⟩
                  apply c
                  have hj2 : off + ti.size ≤ sz := p2
                  have : i' = i := by
                    rcases Nat.lt_trichotomy i' i with hlt' | heq | hgt
                    · have := Nat.mul_le_mul_right sz (Nat.succ_le_of_lt hlt')
                      rw [Nat.succ_mul] at this; omega
                    · exact heq
                    · have := Nat.mul_le_mul_right sz (Nat.succ_le_of_lt hgt)
                      rw [Nat.succ_mul] at this; omega
                  subst this
                  omega)
          exact ⟨_, E, fin _ _ rfl (run_storeVar_own h4 hT (o + (i * sz + off)) vy (by omega) (by omega) d2), r1, r2⟩
      · trivial
    · trivial
end Go.Eng
end

/- More operations. -/
section
namespace Go.Eng
open Go.RowKit
set_option linter.unusedVariables false

def nthO : List (Nat × Nat) → Nat → Option (Nat × Nat)
  | [], _ => none
  | x :: _, 0 => some x
  | _ :: l, n + 1 => nthO l n
theorem nthO_eq : ∀ (l : List (Nat × Nat)) (n : Nat), nthO l n = l[n]?
  | [], n => by simp [nthO]
  | x :: l, 0 => by simp [nthO]
  | x :: l, n + 1 => by simp [nthO, nthO_eq l n]

def rField (ti : TI) (h : HS) (x : SV) (k : Nat) : Res :=
  match ti.kind with
  | .struct offs => match nthO offs k with
    | some (o, _) => match x with
      | .ptr nm off => .val True (.ptr nm (off + o)) h
      | .rptr sz f => .val (o ≤ sz) (.rptr (sz - o) (fun j => f (o + j))) h
      | .vptr id ver sz i off => .val True (.vptr id ver sz i (off + o)) h
      | _ => .bad
    | none => .bad
  | _ => .bad

theorem rField_ok {P : Program} {E : Env} {h : HS} {w : World} (hr : RelH E h w) {t : TypeId} {ti : TI} (hT : TIOk P t ti) {x : SV} {v : Value} (hx : Den E w x v) (k : Nat) :
    ResOk P E h w ((Instr.fieldAt t v k >>= fun v => pure (Next.value v)).run P w) (rField ti h x k) := by
  unfold rField
  obtain ⟨d, hd, _, _, hk⟩ := hT.desc
  split
  · rename_i offs hko
    rw [hko] at hk
    obtain ⟨fs, rfl, hpl, hnz⟩ := hk
    split
    · rename_i o ft ho
      rw [nthO_eq] at ho
      obtain ⟨f, hf, rfl, i, hi, hi1⟩ := places_get _ _ hpl k o ft ho
      have hi0 : i.size ≠ 0 := by rw [hi1]; exact hnz _ (List.mem_of_getElem? ho)
      rw [Array.getElem?_toList] at hf
      have fin : ∀ (A : Addr), v = .pointer (some A) → (Instr.fieldAt t v k >>= fun v => pure (Next.value v)).run P w = .ok (.value (.pointer (some (A.add f.offset)))) w := by
        rintro A rfl
        simp [Instr.fieldAt, run_underlying hd, hf, Instr.sureAddr, fieldPlace, sizeOf, typeInfo, hi, hi0]
      split
      · cases hx
        rename_i hn
        refine ResOk.pure hr (fun _ => ?_) (.ptr hn)
        rw [fin _ rfl, Addr.add_lit]
      · rename_i sz g0
        cases hx
        rename_i A g hA hown hc h1 hd'
        intro hp
        refine ⟨_, w, E, fin _ rfl, ?_, hr, Ext.refl E w⟩
        refine .rptr (A.add f.offset) (fun j => g (f.offset + j)) (by rw [add_block]; exact hA) (by rw [add_block]; exact hown) (fun j hj => ?_) (fun j hj => h1 _ (by omega)) (fun j hj => hd' _ (by omega))
        rw [Addr.add_add]; exact hc _ (by omega)
      · cases hx
        rename_i id ver sz i0 off b o1 n cap hid hval
        refine ResOk.pure hr (fun _ => ?_) (.vptr hid hval)
        rw [fin _ rfl, Addr.add_lit, Nat.add_assoc, Nat.add_assoc]
      · trivial
    · trivial
  · trivial

/-- How an element of a slice, or of an array behind a pointer, is reached. se: the size of an element. -/
def rIndex (ti : TI) (se : Nat) (h : HS) (x idx : SV) : Res :=
  match ti.kind, x, idx with
  | .slice _, .row n sz f, .int _ i => .val (se = sz ∧ 0 ≤ i ∧ i < (n : Int)) (.rptr sz (f i.toNat)) h
  | .slice _, .vec id ver, .int _ i => match getV h.vecs id with
    | .live ver' _ sz n _ => .val (ver = ver' ∧ se = sz ∧ 0 ≤ i ∧ i < (n : Int)) (.vptr id ver sz i.toNat 0) h
    | .dead => .bad
  | .array n _, .ptr nm off, .int _ i => .val (0 ≤ i ∧ i < (n : Int)) (.ptr nm (off + i.toNat * se)) h
  | .slice _, .vcut id ver sz lo n _, .int _ i => match getV h.vecs id with
    | .live ver' _ sz' _ _ => .val (ver = ver' ∧ sz = sz' ∧ se = sz ∧ 0 ≤ i ∧ i < (n : Int)) (.vptr id ver sz (lo + i.toNat) 0) h
    | .dead => .bad
  | .slice _, .bsl nm off n, .int _ i => .val (se = 1 ∧ 0 ≤ i ∧ i < (n : Int)) (.ptr nm (off + i.toNat)) h
  | _, _, _ => .bad

theorem rIndex_ok {P : Program} {E : Env} {h : HS} {w : World} (hr : RelH E h w) {t : TypeId} {ti te : TI} (hT : TIOk P t ti) (e : Nat) (hk : ti.kind = .slice e ∨ ∃ n, ti.kind = .array n e) (hE : TIOk P e te)
    {x y : SV} {v u : Value} (hx : Den E w x v) (hy : Den E w y u) :
    ResOk P E h w ((Instr.indexAt t v u >>= fun v => pure (Next.value v)).run P w) (rIndex ti te.size h x y) := by
  obtain ⟨d, hd, _, _, hkd⟩ := hT.desc
  obtain ⟨i0, z0, hi0, hs0, _⟩ := hE.info
  have hS : (sizeOf e).run P w = .ok te.size w := by simp [sizeOf, typeInfo, hi0, hs0]
  unfold rIndex
  split
  · rename_i e' n sz f k i hkk
    rw [hkk] at hkd hk
    have : e' = e := by rcases hk with hk | ⟨n, hk⟩ <;> simp at hk; exact hk
    subst this
    cases hy
    rintro ⟨hse, h0, h1⟩
    cases hx
    · rename_i A cap g hA ho hn hc hone hden
      have hi : i.toNat < n := by omega
      refine ⟨.pointer (some (A.add (i.toNat * te.size))), w, E, ?_, ?_, hr, Ext.refl E w⟩
      · simp [Instr.indexAt, asIntOf, run_underlying hd, hkd, h0, h1, hS]
      · rw [hse]
        refine .rptr _ (g i.toNat) (by rw [add_block]; exact hA) (by rw [add_block]; exact ho) (fun j hj => ?_) (fun j hj => hone _ _ hi hj) (fun j hj => hden _ _ hi hj)
        rw [Addr.add_add]; exact hc _ _ hi hj
    · omega
  · rename_i e' id ver k i hkk
    rw [hkk] at hkd hk
    have : e' = e := by rcases hk with hk | ⟨n, hk⟩ <;> simp at hk; exact hk
    subst this
    cases hy
    split
    · rename_i ver' ty sz n f hv
      rintro ⟨rfl, hse, h0, h1⟩
      obtain ⟨hz, ⟨a, cap, k1, k2⟩, k3⟩ := hr.vec _ _ _ _ _ _ hv
      cases hx
      rename_i a' n' cap' hid hval
      have hval' := hval
      rw [k1] at hval
      simp only [Option.some.injEq, Prod.mk.injEq] at hval
      obtain ⟨rfl, rfl, rfl⟩ := hval
      rcases k2 with ⟨_, h0', _⟩ | ⟨g1, o1, cur, hk2, _⟩
      · omega
      · cases hk2
        refine ⟨.pointer (some ⟨g1, o1 + (i.toNat * sz + 0), none⟩), w, E, ?_, .vptr hid hval', hr, Ext.refl E w⟩
        simp [Instr.indexAt, asIntOf, run_underlying hd, hkd, h0, h1, hS, hse, Addr.add_lit]
    · trivial
  · rename_i m e' nm off k i hkk
    rw [hkk] at hkd hk
    have : e' = e := by rcases hk with hk | ⟨n, hk⟩ <;> simp at hk; exact hk.2
    subst this
    cases hy
    rintro ⟨h0, h1⟩
    cases hx
    rename_i hn
    refine ⟨.pointer (some ⟨E.rho nm, off + i.toNat * te.size, none⟩), w, E, ?_, .ptr hn, hr, Ext.refl E w⟩
    simp [Instr.indexAt, asIntOf, run_underlying hd, hkd, h0, h1, hS, Instr.sureAddr, Addr.add_lit]
  · rename_i e' id ver sz lo n x1 k i hkk
    rw [hkk] at hkd hk
    have : e' = e := by rcases hk with hk | ⟨n, hk⟩ <;> simp at hk; exact hk
    subst this
    cases hy
    split
    · rename_i ver' ty sz2 N f hv
      rintro ⟨rfl, rfl, hse, h0, h1⟩
      obtain ⟨hz, ⟨a, cap, k1, k2⟩, k3⟩ := hr.vec _ _ _ _ _ _ hv
      obtain ⟨a1, a2, N1, cap1, rfl, hid, hval, hn, hc, ha, h00, hA, hB⟩ := hx.vcut_inv
      have hval' := hval
      rw [k1] at hval
      simp only [Option.some.injEq, Prod.mk.injEq] at hval
      obtain ⟨rfl, rfl, rfl⟩ := hval
      rcases k2 with ⟨_, h0', _⟩ | ⟨g1, o1, cur, hk2, _⟩
      · omega
      · cases hk2
        rw [ha (by cases x1 <;> simp <;> omega)]
        refine ⟨.pointer (some ⟨g1, o1 + ((lo + i.toNat) * sz + 0), none⟩), w, E, ?_, .vptr hid hval', hr, Ext.refl E w⟩
        simp [Instr.indexAt, asIntOf, run_underlying hd, hkd, h0, h1, hS, hse, Addr.add_lit, Nat.add_mul, Nat.add_assoc]
    · trivial
  · rename_i e' nm off n k i hkk
    rw [hkk] at hkd hk
    have : e' = e := by rcases hk with hk | ⟨n, hk⟩ <;> simp at hk; exact hk
    subst this
    cases hy
    rintro ⟨hse, h0, h1⟩
    cases hx
    rename_i cap hc hn
    refine ⟨.pointer (some ⟨E.rho nm, off + i.toNat, none⟩), w, E, ?_, .ptr ‹_›, hr, Ext.refl E w⟩
    simp [Instr.indexAt, asIntOf, run_underlying hd, hkd, h0, h1, hS, hse, Addr.add_lit]
  · trivial

def lenM : List (List Int × List Int) → Nat
  | [] => 0
  | _ :: l => lenM l + 1
theorem lenM_eq (l : List (List Int × List Int)) : lenM l = l.length := by induction l <;> simp [lenM, *]
def lenI (es : List (List Int × List Int)) (h : HS) : Option (Nat × Nat × List Nat) → Res
  | none => .val True (.int .i64 (lenM es : Int)) h
  | some _ => .bad
def rLen (ti : TI) (h : HS) (x : SV) : Res :=
  match ti.kind, x with
  | .slice _, .row n _ _ => .val True (.int .i64 (n : Int)) h
  | .slice _, .vec id ver => match getV h.vecs id with
    | .live ver' _ _ n _ => .val (ver = ver') (.int .i64 (n : Int)) h
    | .dead => .bad
  | .slice _, .vcut _ _ _ _ n _ => .val True (.int .i64 (n : Int)) h
  | .slice _, .bsl _ _ n => .val True (.int .i64 (n : Int)) h
  | .slice _, .nils _ _ => .val True (.int .i64 0) h
  | .map _ _, .mapp nm => match getB h.blks nm with
    | .mp m => lenI m.es h m.it
    | _ => .bad
  | _, _ => .bad

theorem rLen_ok {P : Program} {E : Env} {h : HS} {w : World} (hr : RelH E h w) {t : TypeId} {ti : TI} (hT : TIOk P t ti) {x : SV} {v : Value} (hx : Den E w x v) (tr : TypeId) :
    ResOk P E h w ((Builtin.len_ #[t] tr #[v] >>= fun v => pure (Next.value v)).run P w) (rLen ti h x) := by
  obtain ⟨d, hd, _, _, hkd⟩ := hT.desc
  unfold rLen
  split
  · rename_i e n sz f hk
    rw [hk] at hkd
    cases hx <;> exact ResOk.pure hr (fun _ => by simp [Builtin.len_, run_underlying hd, hkd, goInt]) (.int _ _)
  · rename_i e id ver hk
    rw [hk] at hkd
    split
    · rename_i ver' ty sz n f hv
      rintro rfl
      obtain ⟨hz, ⟨a, cap, k1, k2⟩, k3⟩ := hr.vec _ _ _ _ _ _ hv
      cases hx
      rename_i a' n' cap' hid hval
      rw [k1] at hval
      simp only [Option.some.injEq, Prod.mk.injEq] at hval
      obtain ⟨rfl, rfl, rfl⟩ := hval
      exact ⟨_, w, E, by simp [Builtin.len_, run_underlying hd, hkd, goInt], .int _ _, hr, Ext.refl E w⟩
    · trivial
  · rename_i e id ver sz lo n x1 hk
    rw [hk] at hkd
    obtain ⟨a1, a2, N1, cap1, rfl, _⟩ := hx.vcut_inv
    exact ResOk.pure hr (fun _ => by simp [Builtin.len_, run_underlying hd, hkd, goInt]) (.int _ _)
  · rename_i e nm off n hk
    rw [hk] at hkd
    cases hx
    exact ResOk.pure hr (fun _ => by simp [Builtin.len_, run_underlying hd, hkd, goInt]) (.int _ _)
  · rename_i e _ _ hk
    rw [hk] at hkd
    cases hx
    exact ResOk.pure hr (fun _ => by simp [Builtin.len_, run_underlying hd, hkd, goInt]) (.int _ _)
  · rename_i kt et nm hk
    rw [hk] at hkd
    split
    · rename_i m hb
      cases hit : m.it with
      | some x => trivial
      | none =>
      have hm := hr.mp _ _ hb
      unfold MpAt at hm
      rw [hit] at hm
      obtain ⟨h2, es, h1, h3, h4, h5⟩ := hm
      cases hx
      refine ResOk.pure hr (fun _ => ?_) (val := .int .i64 (m.es.length : Int)) (by rw [lenM_eq]; exact .int _ _)
      simp [Builtin.len_, run_underlying hd, hkd, goInt, getObj, Sem.run, h1, h3]
    · trivial
  · trivial

def rUn (op : UnOp) (x : SV) (h : HS) : Res :=
  match op, x with
  | .not, .bool b => .val True (.bool (!b)) h
  | .neg, .int k n => .val True (.int k (k.wrap (0 - n))) h
  | _, _ => .bad
theorem rUn_ok {P : Program} {E : Env} {h : HS} {w : World} (hr : RelH E h w) (op : UnOp) {x : SV} {v : Value} (hx : Den E w x v) :
    ResOk P E h w ((Op.unary op v >>= fun v => pure (Next.value v)).run P w) (rUn op x h) := by
  unfold rUn
  split
  · cases hx; exact ResOk.pure hr (fun _ => by simp [Op.unary]) (.bool _)
  · cases hx; exact ResOk.pure hr (fun _ => by simp [Op.unary, Op.intArith]) (.int _ _)
  · trivial

def rConv (ti : TI) (x : SV) (h : HS) : Res :=
  match ti.kind, x with
  | .int k, .int _ n => .val True (.int k (k.wrap n)) h
  | _, _ => .bad
theorem rConv_ok {P : Program} {E : Env} {h : HS} {w : World} (hr : RelH E h w) (s t : TypeId) {ti ts : TI} (hT : TIOk P t ti) (hS : TIOk P s ts) {x : SV} {v : Value} (hx : Den E w x v) :
    ResOk P E h w ((convert s t v >>= fun v => pure (Next.value v)).run P w) (rConv ti x h) := by
  obtain ⟨d, hd, _, _, hkd⟩ := hT.desc
  obtain ⟨d', hd', _, _, _⟩ := hS.desc
  unfold rConv
  split
  · rename_i k k' n hk
    rw [hk] at hkd
    cases hx
    exact ResOk.pure hr (fun _ => by subst hkd; cases d' <;> simp [convert, run_underlying hd, run_underlying hd', Conv.intToInt]) (.int _ _)
  · trivial

def rMax (a b : SV) (h : HS) : Res :=
  match a, b with
  | .int k x, .int k' y => if k = k' then .val True (.int k (max x y)) h else .bad
  | _, _ => .bad
def rMin (a b : SV) (h : HS) : Res :=
  match a, b with
  | .int k x, .int k' y => if k = k' then .val True (.int k (min x y)) h else .bad
  | _, _ => .bad
theorem rMax_ok {P : Program} {E : Env} {h : HS} {w : World} (hr : RelH E h w) (ts : Array TypeId) (tr : TypeId) {a b : SV} {va vb : Value} (ha : Den E w a va) (hb : Den E w b vb) :
    ResOk P E h w ((Builtin.max_ ts tr #[va, vb] >>= fun v => pure (Next.value v)).run P w) (rMax a b h) := by
  unfold rMax
  split
  · cases ha; cases hb
    rename_i k x k' y
    split
    · rename_i e; subst e
      refine ResOk.pure hr (fun _ => ?_) (.int _ _)
      simp [Builtin.max_, Builtin.max2]
      split <;> omega
    · trivial
  · trivial
theorem rMin_ok {P : Program} {E : Env} {h : HS} {w : World} (hr : RelH E h w) (ts : Array TypeId) (tr : TypeId) {a b : SV} {va vb : Value} (ha : Den E w a va) (hb : Den E w b vb) :
    ResOk P E h w ((Builtin.min_ ts tr #[va, vb] >>= fun v => pure (Next.value v)).run P w) (rMin a b h) := by
  unfold rMin
  split
  · cases ha; cases hb
    rename_i k x k' y
    split
    · rename_i e; subst e
      refine ResOk.pure hr (fun _ => ?_) (.int _ _)
      simp [Builtin.min_, Builtin.min2]
      split <;> omega
    · trivial
  · trivial
end Go.Eng
end

/- Operations that make memory. -/
section
namespace Go.Eng
open Go.RowKit
set_option linter.unusedVariables false

/-- Zero cells: each nil slice becomes an own slice of length 0. -/
def zeroS : List ZC → HS → List SV × HS
  | [], h => ([], h)
  | .c x :: l, h => ((x :: (zeroS l h).1), (zeroS l h).2)
  | .sl e sz :: l, h => let r := zeroS l { h with vecs := snocV h.vecs (.live 0 e sz 0 (fun _ _ => .any)) }
    (.vec (lenV h.vecs) 0 :: r.1, r.2)

theorem zeroS_ok {w : World} : ∀ (l : List ZC) (us : List Value) (E : Env) (h : HS), RelH E h w → l.length = us.length →
    (∀ (k : Nat) (u : Value), us[k]? = some u → match l[k]? with | some (.c x) => x = svS u | some (.sl _ sz) => u = .slice none 0 0 ∧ 0 < sz | none => False) →
    ∃ E', RelH E' (zeroS l h).2 w ∧ Ext E w E' w ∧ (zeroS l h).1.length = us.length ∧ (∀ (k : Nat) (x : SV) (u : Value), (zeroS l h).1[k]? = some x → us[k]? = some u → Den E' w x u) ∧ (zeroS l h).2.blks = h.blks
  | [], us, E, h, hr, hl, hz => ⟨E, hr, Ext.refl E w, by simpa [zeroS] using hl, fun k x u hx => by simp [zeroS] at hx, rfl⟩
  | .c x :: l, us, E, h, hr, hl, hz => by
    cases us with
    | nil => simp at hl
    | cons u us =>
      obtain ⟨E', h1, h2, h3, h4, h5⟩ := zeroS_ok l us E h hr (by simpa using hl) (fun k v hk => hz (k + 1) v (by simpa using hk))
      refine ⟨E', h1, h2, by simp [zeroS, h3], fun k y v hy hv => ?_, h5⟩
      cases k with
      | zero =>
        simp [zeroS] at hy hv
        subst hy hv
        have := hz 0 u rfl
        simp at this
        subst this
        exact svS_den _ _ _
      | succ k => simp [zeroS] at hy hv; exact h4 k y v hy hv
  | .sl e sz :: l, us, E, h, hr, hl, hz => by
    cases us with
    | nil => simp at hl
    | cons u us =>
      have h0 := hz 0 u rfl
      simp at h0
      obtain ⟨rfl, hsz⟩ := h0
      obtain ⟨E', h1, h2, h3, h4, h5⟩ := zeroS_ok l us E.newV _ (hr.newVec e sz hsz (fun _ _ => .any)) (by simpa using hl) (fun k v hk => hz (k + 1) v (by simpa using hk))
      have hv0 : Den E' w (.vec (lenV h.vecs) 0) (.slice none 0 0) := by
        refine Den.ext h2 (.vec ?_ ?_)
        · simp only [Env.newV, hr.nv]; omega
        · simp [Env.newV, hr.nv]
      refine ⟨E', h1, (ext_newV E w).trans h2, by simp [zeroS, h3], fun k y v hy hv => ?_, h5⟩
      cases k with
      | zero => simp [zeroS] at hy hv; subst hy hv; exact hv0
      | succ k => simp [zeroS] at hy hv; exact h4 k y v hy hv

def rAlloc (ti : TI) (t : TypeId) (h : HS) : Res :=
  let r := zeroS ti.zero h
  .val True (.ptr (lenB r.2.blks) 0) { r.2 with blks := snocB r.2.blks (.live t r.1) }

theorem rAlloc_ok {P : Program} {E : Env} {h : HS} {w : World} (hr : RelH E h w) {t : TypeId} {ti : TI} (hT : TIOk P t ti) :
    ResOk P E h w ((Instr.alloc t true (.tuple #[]) >>= fun v => pure (Next.value v)).run P w) (rAlloc ti t h) := by
  obtain ⟨i, z, hi, hs, hb, hz, hzs, hzl, hzc⟩ := hT.info
  obtain ⟨E', h1, h2, h3, h4, h5⟩ := zeroS_ok (w := w) ti.zero z.cells.toList E h hr (by simp [hzl, hzs]) (fun k u hk => (hzc k u (by simpa using hk)).2)
  intro _
  have hd : DenA E' w (zeroS ti.zero h).1 z.cells := ⟨by simpa using h3.symm, fun k x u hx hu => h4 k x u hx (by simpa using hu)⟩
  have ha := h1.alloc t _ z.cells hd (fun k u hu => (hzc k u hu).1)
  have hx : Ext E' w (E'.newB w.heap.size) (w.alloc (.cells z.cells t)) := ext_alloc h1.own _ _ rfl
  refine ⟨.pointer (some ⟨w.heap.size, 0, none⟩), w.alloc (.cells z.cells t), E'.newB w.heap.size, ?_, ?_, ha, h2.trans hx⟩
  · simp [Instr.alloc, zeroValue, typeInfo, hi, hz, newVar, newRow]
  · have := h1.nb
    have hp : Den (E'.newB w.heap.size) (w.alloc (.cells z.cells t)) (.ptr (lenB (zeroS ti.zero h).2.blks) 0) (.pointer (some ⟨(E'.newB w.heap.size).rho (lenB (zeroS ti.zero h).2.blks), 0, none⟩)) := .ptr (by simp [Env.newB, ← this])
    have e : (E'.newB w.heap.size).rho (lenB (zeroS ti.zero h).2.blks) = w.heap.size := by simp [Env.newB, ← this]
    rwa [e] at hp

def rBox (t : TypeId) (x : SV) (h : HS) : Res :=
  match cellsOf x with
  | some l => .val True (.ptr (lenB h.blks) 0) { h with blks := snocB h.blks (.live t l) }
  | none => .bad
theorem rBox_ok {P : Program} {E : Env} {h : HS} {w : World} (hr : RelH E h w) (t : TypeId) {x : SV} {v : Value} (hx : Den E w x v) :
    ResOk P E h w ((Instr.box t v >>= fun v => pure (Next.value v)).run P w) (rBox t x h) := by
  unfold rBox
  split
  · rename_i l hl
    obtain ⟨d1, d2⟩ := cellsOf_den hx hl
    intro _
    have ha := hr.alloc t l v.cells d1 d2
    refine ⟨.pointer (some ⟨w.heap.size, 0, none⟩), w.alloc (.cells v.cells t), E.newB w.heap.size, ?_, ?_, ha, ext_alloc hr.own _ _ rfl⟩
    · simp [Instr.box, newVar, newRow]
    · have := hr.nb
      have hp : Den (E.newB w.heap.size) (w.alloc (.cells v.cells t)) (.ptr (lenB h.blks) 0) (.pointer (some ⟨(E.newB w.heap.size).rho (lenB h.blks), 0, none⟩)) := .ptr (by simp [Env.newB, ← this])
      have e : (E.newB w.heap.size).rho (lenB h.blks) = w.heap.size := by simp [Env.newB, ← this]
      rwa [e] at hp
  · trivial

/-- The zero cells where no slice is to grow. -/
def zc1 : ZC → SV
  | .c x => x
  | .sl e sz => .nils e sz
def zcs : List ZC → List SV
  | [] => []
  | x :: l => zc1 x :: zcs l
theorem zcs_ok {E : Env} {w : World} : ∀ (l : List ZC) (us : List Value), l.length = us.length →
    (∀ (k : Nat) (u : Value), us[k]? = some u → match l[k]? with | some (.c x) => x = svS u | some (.sl _ sz) => u = .slice none 0 0 ∧ 0 < sz | none => False) →
    (zcs l).length = us.length ∧ ∀ (k : Nat) (x : SV) (u : Value), (zcs l)[k]? = some x → us[k]? = some u → Den E w x u
  | [], us, hl, hz => ⟨by simpa [zcs] using hl, fun k x u hx => by simp [zcs] at hx⟩
  | x :: l, us, hl, hz => by
    cases us with
    | nil => simp at hl
    | cons u us =>
      obtain ⟨h1, h2⟩ := zcs_ok (E := E) (w := w) l us (by simpa using hl) (fun k v hk => hz (k + 1) v (by simpa using hk))
      refine ⟨by simp [zcs, h1], fun k y v hy hv => ?_⟩
      cases k with
      | zero =>
        simp [zcs] at hy hv
        subst hy hv
        have h0 := hz 0 u rfl
        cases x with
        | c x => simp at h0; subst h0; exact svS_den _ _ _
        | sl e sz => simp at h0; obtain ⟨rfl, hp⟩ := h0; exact .nils hp
      | succ k => simp [zcs] at hy hv; exact h2 k y v hy hv

/-- Parts laid over cells: at off + (their place), each of the size that its place has. -/
def fillS (place : Nat → Option (Nat × Nat)) : List (Nat × SV) → List SV → Option (Prop × List SV)
  | [], cells => some (True, cells)
  | (i, x) :: r, cells => match place i, cellsOf x with
    | some (off, size), some l => match fillS place r (over cells off l) with
      | some (p, c) => some ((lenS l = size ∧ off + size ≤ lenS cells) ∧ p, c)
      | none => none
    | _, _ => none

theorem zipIdx_fold (off : Nat) : ∀ (us : List Value) (k : Nat) (cs : Array Value), off + k + us.length ≤ cs.size →
    (us.zipIdx k).foldl (fun cs (c, j) => cs.setIfInBounds (off + j) c) cs = (cs.toList.take (off + k) ++ us ++ cs.toList.drop (off + k + us.length)).toArray
  | [], k, cs, h => by simp
  | u :: us, k, cs, h => by
    simp only [List.zipIdx_cons, List.foldl_cons]
    simp only [List.length_cons] at h
    rw [zipIdx_fold off us (k + 1) (cs.setIfInBounds (off + k) u) (by simp; omega)]
    apply Array.ext'
    simp only [Array.toList_setIfInBounds, List.length_cons]
    apply List.ext_getElem?
    intro j
    simp only [List.append_assoc]
    have hk : off + k < cs.toList.length := by simp; omega
    by_cases h1 : j < off + k
    · rw [List.getElem?_append_left (by simp; omega), List.getElem?_append_left (by simp; omega), List.getElem?_take, List.getElem?_take, if_pos (by omega), if_pos h1, List.getElem?_set_ne (by omega)]
    · by_cases h2 : j = off + k
      · subst h2
        rw [List.getElem?_append_left (by simp; omega), List.getElem?_take, if_pos (by omega), List.getElem?_set_self hk, List.getElem?_append_right (by simp; omega)]
        simp only [List.length_take]
        rw [Nat.min_eq_left (by omega)]
        simp
      · by_cases h3 : j < off + k + 1 + us.length
        · rw [List.getElem?_append_right (by simp; omega), List.getElem?_append_left (by simp; omega), List.getElem?_append_right (by simp; omega)]
          simp only [List.length_take, List.length_set]
          rw [Nat.min_eq_left (by omega), Nat.min_eq_left (by omega)]
          rw [show j - (off + k) = (j - (off + (k + 1))) + 1 by omega, List.cons_append, List.getElem?_cons_succ, List.getElem?_append_left (by omega)]
        · rw [List.getElem?_append_right (by simp; omega), List.getElem?_append_right (by simp; omega), List.getElem?_append_right (by simp; omega)]
          simp only [List.length_take, List.length_set]
          rw [Nat.min_eq_left (by omega), Nat.min_eq_left (by omega)]
          rw [show j - (off + k) = (j - (off + (k + 1))) + 1 by omega, List.cons_append, List.getElem?_cons_succ, List.getElem?_append_right (by omega), List.getElem?_drop, List.getElem?_drop, List.getElem?_set_ne (by omega)]
          congr 1
          omega

theorem fillS_ok {E : Env} {w : World} {place : Nat → Option (Nat × Nat)} {place' : Nat → Option (Nat × Nat)} (hp : ∀ i x, place i = some x → place' i = some x) : ∀ (ps : List (Nat × SV)) (vs : List (Nat × Value)) (cells : List SV) (cs : Array Value),
    ps.length = vs.length → (∀ (k : Nat) (x : Nat × SV) (y : Nat × Value), ps[k]? = some x → vs[k]? = some y → x.1 = y.1 ∧ Den E w x.2 y.2) → DenA E w cells cs → (∀ (k : Nat) (u : Value), cs[k]? = some u → u.oneCell' = true) →
    ∀ p c, fillS place ps cells = some (p, c) → p → ∃ cs', Instr.fill place' cs vs = some cs' ∧ DenA E w c cs' ∧ (∀ (k : Nat) (u : Value), cs'[k]? = some u → u.oneCell' = true)
  | [], vs, cells, cs, hl, hd, hc, h1, p, c, hf, hp' => by
    cases vs with
    | nil => simp [fillS] at hf; obtain ⟨_, rfl⟩ := hf; exact ⟨cs, rfl, hc, h1⟩
    | cons v vs => simp at hl
  | (i, x) :: ps, vs, cells, cs, hl, hd, hc, h1, p, c, hf, hp' => by
    cases vs with
    | nil => simp at hl
    | cons y vs =>
      obtain ⟨i', v⟩ := y
      obtain ⟨e, hx⟩ := hd 0 (i, x) (i', v) rfl rfl
      simp only at e hx
      subst e
      simp only [fillS] at hf
      cases hpl : place i with
      | none => simp [hpl] at hf
      | some os =>
        obtain ⟨off, size⟩ := os
        cases hcl : cellsOf x with
        | none => simp [hpl, hcl] at hf
        | some l =>
          simp only [hpl, hcl] at hf
          cases hff : fillS place ps (over cells off l) with
          | none => simp [hff] at hf
          | some pc =>
            obtain ⟨p', c'⟩ := pc
            simp only [hff, Option.some.injEq, Prod.mk.injEq] at hf
            obtain ⟨rfl, rfl⟩ := hf
            obtain ⟨⟨q1, q2⟩, q3⟩ := hp'
            rw [lenS_eq] at q1 q2
            obtain ⟨d1, d2⟩ := cellsOf_den hx hcl
            have hsz := d1.1
            have hcs := hc.1
            have hcond : ¬ (v.cells.size ≠ size ∨ cs.size < off + v.cells.size) := by omega
            obtain ⟨cs', r1, r2, r3⟩ := fillS_ok hp ps vs (over cells off l) _ (by simpa using hl) (fun k x y hx hy => hd (k + 1) x y (by simpa using hx) (by simpa using hy)) (hc.over d1 (by omega)) (one_over h1 d2 off) p' c' hff q3
            refine ⟨cs', ?_, r2, r3⟩
            simp only [Instr.fill, hp i _ hpl]
            have hzf := zipIdx_fold off v.cells.toList 0 cs (by simp; omega)
            simp only [Nat.add_zero] at hzf
            have : ((v.cells.size ≠ size || decide (off + v.cells.size > cs.size)) : Bool) = false := by simp; omega
            simp only [this, Bool.false_eq_true, if_false]
            rw [← Array.foldl_toList, Array.toList_zipIdx, hzf]
            exact r1
end Go.Eng
end

/- Building values and slices, interfaces, appends; then one operation of any kind. -/
section
namespace Go.Eng
open Go.RowKit
set_option linter.unusedVariables false

def placeS (offs : List (Nat × Nat)) : Nat → Option (Nat × Nat) := fun k => nthO offs k
def placeA (se : Nat) : Nat → Option (Nat × Nat) := fun k => some (k * se, se)

def evP (t : List SV) : List (Nat × Operand) → List (Nat × SV)
  | [] => []
  | (i, x) :: r => (i, ev t x) :: evP t r
theorem evP_den {E : Env} {w : World} {t : List SV} {a : Act} (h : DenA E w t a.tmps) : ∀ (ps : List (Nat × Operand)), (evP t ps).length = (ps.map fun (i, x) => (i, a.eval x)).length ∧
    ∀ (k : Nat) (x : Nat × SV) (y : Nat × Value), (evP t ps)[k]? = some x → (ps.map fun (i, x) => (i, a.eval x))[k]? = some y → x.1 = y.1 ∧ Den E w x.2 y.2
  | [] => ⟨rfl, fun k x y hx => by simp [evP] at hx⟩
  | (i, x) :: r => by
    obtain ⟨h1, h2⟩ := evP_den h r
    refine ⟨by simp [evP, h1], fun k y z hy hz => ?_⟩
    cases k with
    | zero => simp [evP] at hy hz; subst hy hz; exact ⟨rfl, ev_den h x⟩
    | succ k => simp only [evP, List.getElem?_cons_succ, List.map_cons] at hy hz; exact h2 k y z hy hz

def fin2 (r : Option (Prop × List SV)) (h : HS) : Res :=
  match r with
  | some (p, c) => .val p (.agg c) h
  | none => .bad
/-- te: the element's table, for an array. -/
def rBuild (ti : TI) (se : Nat) (ps : List (Nat × SV)) (h : HS) : Res :=
  match ti.kind with
  | .struct offs => fin2 (fillS (placeS offs) ps (zcs ti.zero)) h
  | .array _ _ => fin2 (fillS (placeA se) ps (zcs ti.zero)) h
  | _ => .bad

theorem rBuild_ok {P : Program} {E : Env} {h : HS} {w : World} (hr : RelH E h w) {t : TypeId} {ti : TI} (hT : TIOk P t ti) (se : Nat) (hse : ∀ n e, ti.kind = .array n e → ∃ i, P.info? e = some i ∧ i.size = se)
    {ps : List (Nat × SV)} {vs : Array (Nat × Value)} (hl : ps.length = vs.toList.length) (hd : ∀ (k : Nat) (x : Nat × SV) (y : Nat × Value), ps[k]? = some x → vs.toList[k]? = some y → x.1 = y.1 ∧ Den E w x.2 y.2) :
    ResOk P E h w ((Instr.build t vs >>= fun v => pure (Next.value v)).run P w) (rBuild ti se ps h) := by
  obtain ⟨i, z, hi, hs, hb, hz, hzs, hzl, hzc⟩ := hT.info
  obtain ⟨d, hdd, _, _, hkd⟩ := hT.desc
  obtain ⟨z1, z2⟩ := zcs_ok (E := E) (w := w) ti.zero z.cells.toList (by simp [hzl, hzs]) (fun k u hk => (hzc k u (by simpa using hk)).2)
  have hz0 : DenA E w (zcs ti.zero) z.cells := ⟨by simpa using z1.symm, fun k x u hx hu => z2 k x u hx (by simpa using hu)⟩
  unfold rBuild
  split
  · rename_i offs hk
    rw [hk] at hkd
    obtain ⟨fs, rfl, hpl, _⟩ := hkd
    unfold fin2
    split
    · rename_i p c hf
      intro hp
      obtain ⟨cs', r1, r2, r3⟩ := fillS_ok (place' := fun k => offs.toArray[k]?) (fun k x hx => by simpa [placeS, nthO_eq] using hx) ps vs.toList _ _ hl hd hz0 (fun k u hu => (hzc k u hu).1) p c hf hp
      have hbuilt : P.built t vs.toList = some cs' := by
        simp only [Program.built, hi, hdd, hz, hpl]; exact r1
      exact ⟨.agg cs', w, E, by simp [run_build w t vs cs' hbuilt], .agg cs' r2.1 r3 r2.2, hr, Ext.refl E w⟩
    · trivial
  · rename_i n e hk
    rw [hk] at hkd
    subst hkd
    obtain ⟨ie, hie, hies⟩ := hse n e hk
    unfold fin2
    split
    · rename_i p c hf
      intro hp
      obtain ⟨cs', r1, r2, r3⟩ := fillS_ok (place' := fun k => some (k * ie.size, ie.size)) (fun k x hx => by rw [hies]; simpa [placeA] using hx) ps vs.toList _ _ hl hd hz0 (fun k u hu => (hzc k u hu).1) p c hf hp
      have hbuilt : P.built t vs.toList = some cs' := by
        simp only [Program.built, hi, hdd, hz, hie]; exact r1
      exact ⟨.agg cs', w, E, by simp [run_build w t vs cs' hbuilt], .agg cs' r2.1 r3 r2.2, hr, Ext.refl E w⟩
    · trivial
  · trivial

def Env.adopt (E : Env) (g n cap : Nat) (o : Nat := 0) : Env :=
  { E with nv := E.nv + 1, val := fun id ver => if id = E.nv then (if ver = 0 then some (some ⟨g, o, none⟩, n, cap) else none) else E.val id ver, own := fun k => if k = g then some (.vec E.nv) else E.own k }
theorem adopt_ext {E : Env} {w w' : World} (ho : ∀ b t, E.own b = some t → b < w.heap.size) (hx : Ext E w E w') (hold : ∀ b, b < w.heap.size → w'.heap[b]? = w.heap[b]?) {g : Nat} (hg : w.heap.size ≤ g) (n cap : Nat) (o : Nat := 0) : Ext E w (E.adopt g n cap o) w' :=
    ⟨hx.os, hx.tape, hx.output, hx.size, Nat.le_refl _, by simp [Env.adopt], fun _ _ => rfl, fun id ver x hi hv => by simp only [Env.adopt]; rw [if_neg (by omega)]; exact hv,
      fun b hb h => ⟨by simp only [Env.adopt]; rw [if_neg (by omega)]; exact h, hold b hb⟩,
      fun b h => ⟨by have := ho b _ h; simp only [Env.adopt]; rw [if_neg (by omega)]; exact h, hold b (ho b _ h)⟩⟩
theorem RelH.adoptO {E : Env} {h : HS} {w w' : World} (hr : RelH E h w) (hx : Ext E w E w') (hold : ∀ b, b < w.heap.size → w'.heap[b]? = w.heap[b]?) {g n cap o : Nat} {ty : TypeId} {sz : Nat} (hsz : 0 < sz) {f : Nat → Nat → SV} {cur : Array Value}
    (hg : w.heap.size ≤ g) (hg2 : g < w'.heap.size) (hn : n ≤ cap) (hc : cap ≤ maxLen) (hcur : w'.heap[g]? = some (.cells cur ty (0, 0))) (hs : o + cap * sz ≤ cur.size)
    (h1 : ∀ (k : Nat) (u : Value), k < n * sz → cur[o + k]? = some u → u.oneCell' = true) (hd : ∀ i j u, i < n → j < sz → cur[o + (i * sz + j)]? = some u → Den (E.adopt g n cap o) w' (f i j) u) :
    RelH (E.adopt g n cap o) { h with vecs := snocV h.vecs (.live 0 ty sz n f) } w' ∧ Ext E w (E.adopt g n cap o) w' := by
  have hx' := adopt_ext hr.own hx hold hg n cap o
  refine ⟨⟨hr.nb, by simp [Env.adopt, lenV_snoc, hr.nv], ?_, ?_, ?_, fun nm st pend fid t params assign body hb => (hr.lp _ _ _ _ _ _ _ _ hb).ext hx' (fun ho => ⟨rfl, hold _ (hr.own _ _ ho), by have := hr.own _ _ ho; simp only [Env.adopt]; rw [if_neg (by omega)]⟩), fun nm m hb => (hr.mp _ _ hb).ext hx' (fun ho => ⟨rfl, hold _ (hr.own _ _ ho), by have := hr.own _ _ ho; simp only [Env.adopt]; rw [if_neg (by omega)]⟩)⟩, hx'⟩
  · intro nm ty' cells hb
    obtain ⟨cs, a1, a2, a3, a4⟩ := hr.blk nm ty' cells hb
    have hlt := hr.own _ _ a4
    exact ⟨cs, (hold _ hlt).trans a1, a2.ext hx', a3, by simp only [Env.adopt]; rw [if_neg (by omega)]; exact a4⟩
  · intro id ver ty' sz' n' f' hv
    simp only [getV_snoc] at hv
    split at hv
    · rename_i e
      cases hv
      have e' : id = E.nv := e.trans hr.nv.symm
      refine ⟨hsz, ⟨some ⟨g, o, none⟩, cap, by simp [Env.adopt, e'], .inr ⟨g, o, cur, rfl, hn, hc, hcur, hs, by simp [Env.adopt, e'], h1, fun i j u hi hj hu => hd i j u hi hj hu⟩⟩, fun v' hv' => ?_⟩
      simp only [Env.adopt, e', if_true]
      rw [if_neg (by omega)]
    · rename_i e
      have e' : id ≠ E.nv := fun e' => e (e'.trans hr.nv)
      obtain ⟨h0, ⟨a, cap, k1, k2⟩, k3⟩ := hr.vec id ver ty' sz' n' f' hv
      refine ⟨h0, ⟨a, cap, by simp only [Env.adopt, e', if_false]; exact k1, k2.ext hx' (fun g hg => ⟨hold g (hr.own _ _ hg), by have := hr.own _ _ hg; simp only [Env.adopt]; rw [if_neg (by omega)]⟩)⟩, fun v' hv' => by simp only [Env.adopt, e', if_false]; exact k3 v' hv'⟩
  · intro b t hb
    simp only [Env.adopt] at hb
    split at hb
    · rename_i e; subst e; exact hg2
    · have := hr.own b t hb; have := hx.size; omega
theorem RelH.adopt {E : Env} {h : HS} {w w' : World} (hr : RelH E h w) (hx : Ext E w E w') (hold : ∀ b, b < w.heap.size → w'.heap[b]? = w.heap[b]?) {g n cap : Nat} {ty : TypeId} {sz : Nat} (hsz : 0 < sz) {f : Nat → Nat → SV} {cur : Array Value}
    (hg : w.heap.size ≤ g) (hg2 : g < w'.heap.size) (hn : n ≤ cap) (hc : cap ≤ maxLen) (hcur : w'.heap[g]? = some (.cells cur ty (0, 0))) (hs : cap * sz ≤ cur.size)
    (h1 : ∀ (k : Nat) (u : Value), k < n * sz → cur[k]? = some u → u.oneCell' = true) (hd : ∀ i j u, i < n → j < sz → cur[i * sz + j]? = some u → Den (E.adopt g n cap) w' (f i j) u) :
    RelH (E.adopt g n cap) { h with vecs := snocV h.vecs (.live 0 ty sz n f) } w' ∧ Ext E w (E.adopt g n cap) w' :=
  hr.adoptO hx hold (o := 0) hsz hg hg2 hn hc hcur (by rw [Nat.zero_add]; exact hs) (fun k u hk hu => h1 k u hk (by rw [Nat.zero_add] at hu; exact hu)) (fun i j u hi hj hu => hd i j u hi hj (by rw [Nat.zero_add] at hu; exact hu))
/-- An own slice without room, wherever it points. -/
def Env.newVA (E : Env) (a : Option Addr) : Env :=
  { E with nv := E.nv + 1, val := fun id ver => if id = E.nv then (if ver = 0 then some (a, 0, 0) else none) else E.val id ver }
theorem ext_newVA (E : Env) (w : World) (a : Option Addr) : Ext E w (E.newVA a) w :=
  ⟨rfl, rfl, rfl, Nat.le_refl _, Nat.le_refl _, by simp [Env.newVA], fun _ _ => rfl, fun id ver x hi hv => by simp only [Env.newVA]; rw [if_neg (by omega)]; exact hv, fun _ _ h => ⟨h, rfl⟩, fun _ h => ⟨h, rfl⟩⟩
theorem RelH.newVecA {E : Env} {h : HS} {w : World} (hr : RelH E h w) (ty : TypeId) (sz : Nat) (hsz : 0 < sz) (f : Nat → Nat → SV) (a : Option Addr) (ha : ∀ A, a = some A → ∃ b o, A = ⟨b, o, none⟩) :
    RelH (E.newVA a) { h with vecs := snocV h.vecs (.live 0 ty sz 0 f) } w := by
  have hx := ext_newVA E w a
  refine ⟨hr.nb, by simp [Env.newVA, lenV_snoc, hr.nv], ?_, ?_, hr.own, fun nm st pend fid t params assign body hb => (hr.lp _ _ _ _ _ _ _ _ hb).ext hx (fun _ => ⟨rfl, rfl, rfl⟩), fun nm m hb => (hr.mp _ _ hb).ext hx (fun _ => ⟨rfl, rfl, rfl⟩)⟩
  · intro nm ty' cells hb
    obtain ⟨cs, a1, a2, a3, a4⟩ := hr.blk nm ty' cells hb
    exact ⟨cs, a1, a2.ext hx, a3, a4⟩
  · intro id ver ty' sz' n f' hv
    simp only [getV_snoc] at hv
    split at hv
    · rename_i e
      cases hv
      have e' : id = E.nv := e.trans hr.nv.symm
      refine ⟨hsz, ⟨a, 0, by simp [Env.newVA, e'], .inl ⟨ha, rfl, rfl⟩⟩, fun v' hv' => ?_⟩
      simp only [Env.newVA, e', if_true]
      rw [if_neg (by omega)]
    · rename_i e
      have e' : id ≠ E.nv := fun e' => e (e'.trans hr.nv)
      obtain ⟨h0, ⟨b, cap, k1, k2⟩, k3⟩ := hr.vec id ver ty' sz' n f' hv
      refine ⟨h0, ⟨b, cap, by simp only [Env.newVA, e', if_false]; exact k1, k2.ext hx (fun g hg => ⟨rfl, rfl⟩)⟩, fun v' hv' => by simp only [Env.newVA, e', if_false]; exact k3 v' hv'⟩

def repZ (z : List SV) : Nat → List SV
  | 0 => []
  | n + 1 => z ++ repZ z n
def cellAt (cells : List SV) (sz : Nat) : Nat → Nat → SV := fun i j => nth cells (i * sz + j)
def oneF (cells : List SV) : Nat → Nat → SV := fun _ j => nth cells j
def fin3 (r : Option (Prop × List SV)) (e len sz : Nat) (h : HS) : Res :=
  match r with
  | some (p, c) => .val (p ∧ 0 < sz ∧ 0 < len ∧ len * sz ≤ 16777216) (.vec (lenV h.vecs) 0) { h with vecs := snocV h.vecs (.live 0 e sz len (if len = 1 then oneF c else cellAt c sz)) }
  | none => .bad
def rBuildSlice (e : TypeId) (te : TI) (len : Nat) (ps : List (Nat × SV)) (h : HS) : Res :=
  match len, ps with
  | 0, [] => .val (0 < te.size) (.vec (lenV h.vecs) 0) { h with vecs := snocV h.vecs (.live 0 e te.size 0 (fun _ _ => .any)) }
  | _, _ => fin3 (fillS (placeA te.size) ps (repZ (zcs te.zero) len)) e len te.size h

theorem fillS_len {place : Nat → Option (Nat × Nat)} : ∀ (ps : List (Nat × SV)) (cells : List SV) (p : Prop) (c : List SV), fillS place ps cells = some (p, c) → c.length = cells.length
  | [], cells, p, c, h => by simp [fillS] at h; rw [h.2]
  | (i, x) :: ps, cells, p, c, h => by
    simp only [fillS] at h
    cases hpl : place i with
    | none => simp [hpl] at h
    | some os =>
      obtain ⟨off, size⟩ := os
      cases hcl : cellsOf x with
      | none => simp [hpl, hcl] at h
      | some l =>
        simp only [hpl, hcl] at h
        cases hff : fillS place ps (over cells off l) with
        | none => simp [hff] at h
        | some pc =>
          obtain ⟨p', c'⟩ := pc
          simp only [hff, Option.some.injEq, Prod.mk.injEq] at h
          obtain ⟨_, rfl⟩ := h
          rw [fillS_len ps _ _ _ hff, over_len]

def Env.newVO (E : Env) (g : Nat) : Env :=
  { E with nv := E.nv + 1, val := fun id ver => if id = E.nv then (if ver = 0 then some (some ⟨g, 0, none⟩, 0, 0) else none) else E.val id ver, own := fun k => if k = g then some (.vec E.nv) else E.own k }
theorem RelH.newVecO {E : Env} {h : HS} {w : World} (hr : RelH E h w) (ty : TypeId) (sz : Nat) (hsz : 0 < sz) (f : Nat → Nat → SV) :
    RelH (E.newVO w.heap.size) { h with vecs := snocV h.vecs (.live 0 ty sz 0 f) } (w.alloc (.cells #[] ty)) ∧ Ext E w (E.newVO w.heap.size) (w.alloc (.cells #[] ty)) := by
  have hx : Ext E w (E.newVO w.heap.size) (w.alloc (.cells #[] ty)) :=
    ⟨rfl, rfl, rfl, by simp, Nat.le_refl _, by simp [Env.newVO], fun _ _ => rfl, fun id ver x hi hv => by simp only [Env.newVO]; rw [if_neg (by omega)]; exact hv,
      fun b hb h => ⟨by simp only [Env.newVO]; rw [if_neg (by omega)]; exact h, Below.heap_alloc w _ b hb⟩,
      fun b h => ⟨by have := hr.own b _ h; simp only [Env.newVO]; rw [if_neg (by omega)]; exact h, Below.heap_alloc w _ b (hr.own b _ h)⟩⟩
  have hold : ∀ b, b < w.heap.size → (w.alloc (.cells #[] ty)).heap[b]? = w.heap[b]? := fun b hb => Below.heap_alloc w _ b hb
  refine ⟨⟨hr.nb, by simp [Env.newVO, lenV_snoc, hr.nv], ?_, ?_, ?_, fun nm st pend fid t params assign body hb => (hr.lp _ _ _ _ _ _ _ _ hb).ext hx (fun ho => ⟨rfl, hold _ (hr.own _ _ ho), by have := hr.own _ _ ho; simp only [Env.newVO]; rw [if_neg (by omega)]⟩), fun nm m hb => (hr.mp _ _ hb).ext hx (fun ho => ⟨rfl, hold _ (hr.own _ _ ho), by have := hr.own _ _ ho; simp only [Env.newVO]; rw [if_neg (by omega)]⟩)⟩, hx⟩
  · intro nm ty' cells hb
    obtain ⟨cs, a1, a2, a3, a4⟩ := hr.blk nm ty' cells hb
    have hlt := hr.own _ _ a4
    exact ⟨cs, (hold _ hlt).trans a1, a2.ext hx, a3, by simp only [Env.newVO]; rw [if_neg (by omega)]; exact a4⟩
  · intro id ver ty' sz' n f' hv
    simp only [getV_snoc] at hv
    split at hv
    · rename_i e
      cases hv
      have e' : id = E.nv := e.trans hr.nv.symm
      refine ⟨hsz, ⟨some ⟨w.heap.size, 0, none⟩, 0, by simp [Env.newVO, e'], .inr ⟨w.heap.size, 0, #[], rfl, Nat.le_refl _, by simp [maxLen], heap_alloc_new w _, by simp, by simp [Env.newVO, e'], fun k u hk => by simp at hk, fun i j u hi => by omega⟩⟩, fun v' hv' => ?_⟩
      simp only [Env.newVO, e', if_true]
      rw [if_neg (by omega)]
    · rename_i e
      have e' : id ≠ E.nv := fun e' => e (e'.trans hr.nv)
      obtain ⟨h0, ⟨a, cap, k1, k2⟩, k3⟩ := hr.vec id ver ty' sz' n f' hv
      refine ⟨h0, ⟨a, cap, by simp only [Env.newVO, e', if_false]; exact k1, k2.ext hx (fun g hg => ⟨hold g (hr.own _ _ hg), by have := hr.own _ _ hg; simp only [Env.newVO]; rw [if_neg (by omega)]⟩)⟩, fun v' hv' => by simp only [Env.newVO, e', if_false]; exact k3 v' hv'⟩
  · intro b t hb
    simp only [Env.newVO] at hb
    split at hb
    · rename_i e; subst e; simp
    · have := hr.own b t hb; simp; omega

theorem repZ_get (z : List SV) (hz : 0 < z.length) : ∀ (n k : Nat), k < n * z.length → (repZ z n)[k]? = z[k % z.length]?
  | 0, k, h => by simp at h
  | n + 1, k, h => by
    simp only [repZ]
    by_cases hk : k < z.length
    · rw [List.getElem?_append_left hk, Nat.mod_eq_of_lt hk]
    · have h2 : (n + 1) * z.length = n * z.length + z.length := by rw [Nat.add_mul, Nat.one_mul]
      rw [List.getElem?_append_right (by omega), repZ_get z hz n _ (by omega), ← Nat.mod_eq_sub_mod (by omega)]
theorem repZ_len (z : List SV) : ∀ n, (repZ z n).length = n * z.length
  | 0 => by simp [repZ]
  | n + 1 => by simp [repZ, repZ_len z n, Nat.add_mul, Nat.add_comm]

theorem rBuildSlice_ok {P : Program} {E : Env} {h : HS} {w : World} (hr : RelH E h w) {t e : TypeId} {te : TI} (ht : P.underlying t = some (.slice e)) (hE : TIOk P e te) (len : Nat)
    {ps : List (Nat × SV)} {vs : Array (Nat × Value)} (hl : ps.length = vs.toList.length) (hd : ∀ (k : Nat) (x : Nat × SV) (y : Nat × Value), ps[k]? = some x → vs.toList[k]? = some y → x.1 = y.1 ∧ Den E w x.2 y.2) :
    ResOk P E h w ((Instr.buildSlice t len vs >>= fun v => pure (Next.value v)).run P w) (rBuildSlice e te len ps h) := by
  obtain ⟨i, z, hi, hs, hb, hz, hzs, hzl, hzc⟩ := hE.info
  have hS : (sizeOf e).run P w = .ok te.size w := by simp [sizeOf, typeInfo, hi, hs]
  unfold rBuildSlice
  split
  · -- an empty literal
    intro hsz
    obtain ⟨vl⟩ := vs
    have hv : vl = [] := by simpa using hl.symm
    subst hv
    obtain ⟨h1, h2⟩ := hr.newVecO e te.size hsz (fun _ _ => .any)
    refine ⟨.slice (some ⟨w.heap.size, 0, none⟩) 0 0, _, _, ?_, .vec (by simp only [Env.newVO, hr.nv]; omega) (by simp [Env.newVO, hr.nv]), h1, h2⟩
    have hr0 : Array.range 0 = #[] := by apply Array.ext'; simp
    simp [Instr.buildSlice, run_underlying ht, hS, Instr.fill, newRow, hr0]
  unfold fin3
  split
  · rename_i p c hf
    rintro ⟨hp, hsz, hlen, hbig⟩
    have h0 : len * te.size ≠ 0 := by have := Nat.mul_pos hlen hsz; omega
    obtain ⟨z1, z2⟩ := zcs_ok (E := E) (w := w) te.zero z.cells.toList (by simp [hzl, hzs]) (fun k u hk => (hzc k u (by simpa using hk)).2)
    have hzlen : (zcs te.zero).length = te.size := by rw [z1]; simp [hzs]
    have key : ∀ (k : Nat) (u : Value), ((Array.range (len * te.size)).map (fun k => z.cells[k % z.cells.size]!))[k]? = some u → k < len * te.size ∧ z.cells[k % te.size]? = some u := by
      intro k u hu
      rw [Array.getElem?_map, Array.getElem?_range] at hu
      by_cases hk : k < len * te.size
      · rw [if_pos hk] at hu
        simp only [Option.map_some, Option.some.injEq] at hu
        refine ⟨hk, ?_⟩
        rw [← hu, hzs]
        have : k % te.size < z.cells.size := by rw [hzs]; exact Nat.mod_lt _ hsz
        rw [Array.getElem?_eq_getElem this, getElem!_pos z.cells _ this]
      · rw [if_neg hk] at hu; simp at hu
    have b1 : DenA E w (repZ (zcs te.zero) len) ((Array.range (len * te.size)).map (fun k => z.cells[k % z.cells.size]!)) := by
      refine ⟨by simp [repZ_len, hzlen], fun k x u hx hu => ?_⟩
      obtain ⟨hk, hu'⟩ := key k u hu
      rw [repZ_get _ (by omega) _ _ (by rw [hzlen]; exact hk), hzlen] at hx
      exact z2 _ x u hx (by simpa using hu')
    obtain ⟨cs', r1, r2, r3⟩ := fillS_ok (place' := fun k => some (k * te.size, te.size)) (fun k x hx => by simpa [placeA] using hx) ps vs.toList _ _ hl hd b1 (fun k u hu => (hzc _ u (key k u hu).2).1) p c hf hp
    have hrun : (Instr.buildSlice t len vs).run P w = .ok (.slice (some ⟨w.heap.size, 0, none⟩) len len) (w.alloc (.cells cs' e)) := by
      have hbig' : ¬ (16777216 < len * te.size) := by omega
      have hz0 : (zeroValue e).run P w = .ok z w := by simp [zeroValue, typeInfo, hi, hz]
      simp only [Instr.buildSlice, Sem.run_bind, run_underlying ht, Result.andThen_ok, hS]
      rw [if_neg (by simpa using hbig'), if_neg h0]
      simp only [Sem.run_bind, Sem.run_pure, hz0, Result.andThen_ok, r1]
      simp [newRow]
    have hx : Ext E w E (w.alloc (.cells cs' e)) := ext_of_grow hr.own rfl rfl rfl (by simp) (fun b hb => Below.heap_alloc w _ b hb)
    have hcl : c.length = len * te.size := by rw [fillS_len _ _ _ _ hf, repZ_len, hzlen]
    have hcsz : cs'.size = len * te.size := r2.1.trans hcl
    have hll : len ≤ maxLen := by
      have := Nat.le_mul_of_pos_right len hsz
      simp only [maxLen]; omega
    obtain ⟨q1, q2⟩ := hr.adopt hx (fun b hb => Below.heap_alloc w _ b hb) (g := w.heap.size) (n := len) (cap := len) (ty := e) (sz := te.size) hsz (f := if len = 1 then oneF c else cellAt c te.size) (cur := cs') (Nat.le_refl _) (by simp) (Nat.le_refl _) hll (heap_alloc_new w _) (by omega)
      (fun k u hk hu => r3 k u hu)
      (fun i j u hi' hj hu => by
        have hx' := adopt_ext hr.own hx (fun b hb => Below.heap_alloc w _ b hb) (Nat.le_refl w.heap.size) len len
        have hk := idx_lt hi' hj
        have hden : Den (E.adopt w.heap.size len len) (w.alloc (.cells cs' e)) (nth c (i * te.size + j)) u := by
          have := (r2.nth (i * te.size + j)).ext hx'
          have e1 : cs'.getD (i * te.size + j) undef = u := by rw [Array.getD_eq_getD_getElem?, hu]; rfl
          rwa [e1] at this
        split
        · rename_i e1
          subst e1
          have : i = 0 := by omega
          subst this
          simpa [oneF] using hden
        · exact hden)
    exact ⟨.slice (some ⟨w.heap.size, 0, none⟩) len len, _, _, by simp [hrun], .vec (a := some ⟨w.heap.size, 0, none⟩) (n := len) (cap := len) (by simp only [Env.adopt, hr.nv]; omega) (by simp [Env.adopt, hr.nv]), q1, q2⟩
  · trivial
end Go.Eng
end

/- One operation of any kind. -/
section
namespace Go.Eng
open Go.RowKit
set_option linter.unusedVariables false

def rIface (ti : TI) (t : TypeId) (x : SV) (h : HS) : Res := if ti.ifc then .bad else .val True (.iface t x) h
theorem rIface_ok {P : Program} {E : Env} {h : HS} {w : World} (hr : RelH E h w) {t : TypeId} {ti : TI} (hT : TIOk P t ti) {x : SV} {v : Value} (hx : Den E w x v) :
    ResOk P E h w ((Instr.makeInterface t v >>= fun v => pure (Next.value v)).run P w) (rIface ti t x h) := by
  obtain ⟨d, hd, hifc, _⟩ := hT.desc
  unfold rIface
  split
  · trivial
  · rename_i hn
    refine ResOk.pure hr (fun _ => ?_) (.iface hx)
    cases d <;> simp at hifc <;> first | (simp [Instr.makeInterface, run_underlying hd]; done) | (exact absurd hifc hn)

def rExtract (x : SV) (i : Nat) (h : HS) : Res :=
  match x with
  | .tup l => .val (i < lenS l) (nth l i) h
  | _ => .bad
theorem rExtract_ok {P : Program} {E : Env} {h : HS} {w : World} (hr : RelH E h w) {x : SV} {v : Value} (hx : Den E w x v) (i : Nat) :
    ResOk P E h w ((Instr.extract v i >>= fun v => pure (Next.value v)).run P w) (rExtract x i h) := by
  unfold rExtract
  split
  · cases hx
    rename_i l vs hs hd
    intro hi
    rw [lenS_eq] at hi
    have hi' : i < vs.size := by omega
    refine ⟨vs[i], w, E, by simp [Instr.extract, hi'], ?_, hr, Ext.refl E w⟩
    rw [nth_eq]
    simpa [List.getD, List.getElem?_eq_getElem hi] using hd i l[i] vs[i] (List.getElem?_eq_getElem hi) (Array.getElem?_eq_getElem hi')
  · trivial

def zeroV (ti : TI) : SV := if ti.agg then .agg (zcs ti.zero) else nth (zcs ti.zero) 0
def rAssert (ti : TI) (t : TypeId) (x : SV) (ok : Bool) (h : HS) : Res :=
  if ti.ifc then .bad else
  match x with
  | .iface t' v => if t' = t then .val True (if ok then .tup [v, .bool true] else v) h else if ok then .val True (.tup [.any, .bool false]) h else .bad
  | .nili => if ok then .val True (.tup [.any, .bool false]) h else .bad
  | _ => .bad
theorem rAssert_ok {P : Program} {E : Env} {h : HS} {w : World} (hr : RelH E h w) {t : TypeId} {ti : TI} (hT : TIOk P t ti) {x : SV} {v : Value} (hx : Den E w x v) (xt : TypeId) (ok : Bool) :
    ResOk P E h w ((Instr.typeAssert v xt t ok >>= fun v => pure (Next.value v)).run P w) (rAssert ti t x ok h) := by
  obtain ⟨d, hd, hifc, _⟩ := hT.desc
  obtain ⟨i0, z, hi0, _, _, hz, _⟩ := hT.info
  have hz0 : (zeroValue t).run P w = .ok z w := by simp [zeroValue, typeInfo, hi0, hz]
  unfold rAssert
  split
  · trivial
  · rename_i hn
    split
    · cases hx
      rename_i t' y u hy
      split
      · rename_i e
        subst e
        cases ok with
        | true =>
          refine ResOk.pure (val := .tuple #[u, .bool true]) hr (fun _ => ?_) (.tup _ rfl (fun i a b ha hb => ?_))
          · cases d <;> simp at hifc <;> first | (simp [Instr.typeAssert, run_underlying hd]; done) | (exact absurd hifc hn)
          · match i, ha, hb with
            | 0, ha, hb => simp at ha hb; subst ha hb; exact hy
            | 1, ha, hb => simp at ha hb; subst ha hb; exact .bool _
            | i + 2, ha, hb => simp at ha
        | false =>
          refine ResOk.pure hr (fun _ => ?_) hy
          cases d <;> simp at hifc <;> first | (simp [Instr.typeAssert, run_underlying hd]; done) | (exact absurd hifc hn)
      · rename_i ne
        cases ok with
        | true =>
          refine ResOk.pure (val := .tuple #[z, .bool false]) hr (fun _ => ?_) (.tup _ rfl (fun i a b ha hb => ?_))
          · cases d <;> simp at hifc <;> first | (simp [Instr.typeAssert, run_underlying hd, ne, hz0]; done) | (exact absurd hifc hn)
          · match i, ha, hb with
            | 0, ha, hb => simp at ha hb; subst ha hb; exact .any _
            | 1, ha, hb => simp at ha hb; subst ha hb; exact .bool _
            | i + 2, ha, hb => simp at ha
        | false => trivial
    · cases hx
      cases ok with
      | true =>
        refine ResOk.pure (val := .tuple #[z, .bool false]) hr (fun _ => ?_) (.tup _ rfl (fun i a b ha hb => ?_))
        · cases d <;> simp at hifc <;> first | (simp [Instr.typeAssert, run_underlying hd, hz0]; done) | (exact absurd hifc hn)
        · match i, ha, hb with
          | 0, ha, hb => simp at ha hb; subst ha hb; exact .any _
          | 1, ha, hb => simp at ha hb; subst ha hb; exact .bool _
          | i + 2, ha, hb => simp at ha
      | false => trivial
    · trivial

/-- x[lo:hi] of a row. -/
def rSlice (ti : TI) (x : SV) (lo hi : Option SV) (h : HS) : Res :=
  match ti.kind, x, lo, hi with
  | .slice _, .row n sz f, some (.int _ l), some (.int _ u) => .val (0 ≤ l ∧ l ≤ u ∧ u ≤ (n : Int)) (.row (u.toNat - l.toNat) sz (fun i j => f (l.toNat + i) j)) h
  | .slice _, .row n sz f, some (.int _ l), none => .val (0 ≤ l ∧ l ≤ (n : Int)) (.row (n - l.toNat) sz (fun i j => f (l.toNat + i) j)) h
  | .slice _, .row n sz f, none, some (.int _ u) => .val (0 ≤ u ∧ u ≤ (n : Int)) (.row u.toNat sz f) h
  | _, _, _, _ => .bad
theorem row_cut {E : Env} {w : World} {n sz : Nat} {f : Nat → Nat → SV} {v : Value} (hx : Den E w (.row n sz f) v) (l u : Nat) (hlu : l ≤ u) (hun : u ≤ n) :
    ∃ a cap, v = .slice a n cap ∧ n ≤ cap ∧ Den E w (.row (u - l) sz (fun i j => f (l + i) j)) (.slice (if cap = l then a else a.map (·.add (l * sz))) (u - l) (cap - l)) := by
  cases hx
  · rename_i A cap g hA ho hn hc h1 hd
    refine ⟨some A, cap, rfl, hn, ?_⟩
    by_cases e : cap = l
    · have : u - l = 0 := by omega
      rw [this]
      exact .rowZ _ _
    · rw [if_neg e]
      refine .row (A.add (l * sz)) (cap - l) (fun i j => g (l + i) j) (by rw [add_block]; exact hA) (by rw [add_block]; exact ho) (by omega) (fun i j hi hj => ?_) (fun i j hi hj => h1 _ _ (by omega) hj) (fun i j hi hj => hd _ _ (by omega) hj)
      rw [Addr.add_add]
      have := hc (l + i) j (by omega) hj
      rwa [Nat.add_mul, Nat.add_assoc] at this
  · rename_i a cap
    refine ⟨a, cap, rfl, Nat.zero_le _, ?_⟩
    have : u - l = 0 := by omega
    rw [this]
    exact .rowZ _ _

theorem rSlice_ok {P : Program} {E : Env} {h : HS} {w : World} (hr : RelH E h w) {t e : TypeId} {ti te : TI} (hT : TIOk P t ti) (hk : ti.kind = .slice e) (hE : TIOk P e te) {x : SV} {v : Value} (hx : Den E w x v)
    {lo hi : Option SV} {vlo vhi : Option Value} (hlo : match lo, vlo with | some a, some b => Den E w a b | none, none => True | _, _ => False) (hhi : match hi, vhi with | some a, some b => Den E w a b | none, none => True | _, _ => False)
    (hsz : ∀ n sz f, x = .row n sz f → te.size = sz) :
    ResOk P E h w ((Instr.sliceAt t v vlo vhi none >>= fun v => pure (Next.value v)).run P w) (rSlice ti x lo hi h) := by
  obtain ⟨d, hd, _, _, hkd⟩ := hT.desc
  rw [hk] at hkd
  simp only at hkd
  subst hkd
  obtain ⟨i0, z0, hi0, hs0, _⟩ := hE.info
  have hS : (sizeOf e).run P w = .ok te.size w := by simp [sizeOf, typeInfo, hi0, hs0]
  unfold rSlice
  split
  · rename_i e' n sz f k l k' u _ 
    rintro ⟨p1, p2, p3⟩
    cases vlo with
    | none => exact hlo.elim
    | some vl =>
      cases vhi with
      | none => exact hhi.elim
      | some vu =>
        simp only at hlo hhi
        cases hlo
        cases hhi
        obtain ⟨a, cap, rfl, hcap, hden⟩ := row_cut hx l.toNat u.toNat (by omega) (by omega)
        refine ⟨_, w, E, ?_, hden, hr, Ext.refl E w⟩
        have q1 : 0 ≤ u := by omega
        have q2 : u ≤ (cap : Int) := by omega
        simp [Instr.sliceAt, Instr.slice, run_underlying hd, Instr.sliceBounds, Instr.sliceBound, asIntOf, p1, q1, q2, p2, hS, hsz n sz f rfl]
        intro hc; omega
  · rename_i e' n sz f k l _
    rintro ⟨p1, p2⟩
    cases vlo with
    | none => exact hlo.elim
    | some vl =>
      cases vhi with
      | some vu => exact hhi.elim
      | none =>
        simp only at hlo
        cases hlo
        obtain ⟨a, cap, rfl, hcap, hden⟩ := row_cut hx l.toNat n (by omega) (by omega)
        refine ⟨_, w, E, ?_, hden, hr, Ext.refl E w⟩
        simp [Instr.sliceAt, Instr.slice, run_underlying hd, Instr.sliceBounds, Instr.sliceBound, asIntOf, p1, p2, hS, hsz n sz f rfl]
  · rename_i e' n sz f k u _
    rintro ⟨p1, p2⟩
    cases vlo with
    | some vl => exact hlo.elim
    | none =>
      cases vhi with
      | none => exact hhi.elim
      | some vu =>
        simp only at hhi
        cases hhi
        obtain ⟨a, cap, rfl, hcap, hden⟩ := row_cut hx 0 u.toNat (by omega) (by omega)
        have q2 : u ≤ (cap : Int) := by omega
        refine ⟨_, w, E, ?_, by simpa using hden, hr, Ext.refl E w⟩
        cases a <;> simp [Instr.sliceAt, Instr.slice, run_underlying hd, Instr.sliceBounds, Instr.sliceBound, asIntOf, p1, q2, hS, hsz n sz f rfl]
  · trivial

/-- What is appended: whether its name is fresh, how many, of how many cells, which. -/
def srcV (ver : Nat) : Vc → Option (Prop × Nat × Nat × (Nat → Nat → SV))
  | .live ver' _ sz m g => some (ver = ver', m, sz, g)
  | .dead => none
def srcC (ver sz lo n : Nat) : Vc → Option (Prop × Nat × Nat × (Nat → Nat → SV))
  | .live ver' _ sz' _ g => some (ver = ver' ∧ sz = sz', n, sz, fun i j => g (lo + i) j)
  | .dead => none
def srcB (off n : Nat) : Blk → Option (Prop × Nat × Nat × (Nat → Nat → SV))
  | .live _ cells => some (off + n ≤ lenS cells, n, 1, fun i _ => nth cells (off + i))
  | _ => none
def srcOf (h : HS) : SV → Option (Prop × Nat × Nat × (Nat → Nat → SV))
  | .row m sz g => some (True, m, sz, g)
  | .vec id ver => srcV ver (getV h.vecs id)
  | .vcut id ver sz lo n _ => srcC ver sz lo n (getV h.vecs id)
  | .bsl nm off n => srcB off n (getB h.blks nm)
  | .nils _ sz => some (True, 0, sz, fun _ _ => .any)
  | _ => none
theorem cutSrc {E : Env} {w : World} {id : Nat} {ty : TypeId} {sz N : Nat} {f : Nat → Nat → SV} {a a' : Option Addr} {cap : Nat} (h : VecAt E w id ty sz N f a cap) {lo n M : Nat} (hn : lo + n ≤ N) (hM : lo + n ≤ M) (ha : M ≠ lo → a' = a.map (·.add (lo * sz))) :
    (∃ A c, (.slice a' n (M - lo) : Value) = .slice (some A) n c ∧ SrcAt E w A n sz (fun i j => f (lo + i) j)) ∨ (n = 0 ∧ ∃ b c, (.slice a' n (M - lo) : Value) = .slice b 0 c) := by
  by_cases h0 : n = 0
  · subst h0; exact .inr ⟨rfl, _, _, rfl⟩
  rcases h with ⟨_, hN, _⟩ | ⟨g, o, cur, h1, h2, h3, h4, h5, h6, h7, h8⟩
  · omega
  · subst h1
    refine .inl ⟨⟨g, o + lo * sz, none⟩, M - lo, ?_, ?_⟩
    · rw [ha (by omega)]
      simp [Addr.add_lit]
    · have hle : o + N * sz ≤ cur.size := Nat.le_trans (Nat.add_le_add_left (Nat.mul_le_mul_right _ h2) _) h5
      have hln : (lo + n) * sz ≤ N * sz := Nat.mul_le_mul_right _ hn
      rw [Nat.add_mul] at hln
      refine ⟨(cur.toList.drop (o + lo * sz)).take (n * sz), by simp; omega, ?_, ?_, ?_⟩
      · intro k u hu
        rw [List.getElem?_take] at hu
        split at hu
        · rw [List.getElem?_drop] at hu
          rw [Addr.add_lit]
          simp only [World.cell?, h4]
          simpa using hu
        · cases hu
      · intro u hu
        obtain ⟨k, hk⟩ := List.getElem?_of_mem hu
        rw [List.getElem?_take] at hk
        split at hk
        · rename_i hlt
          rw [List.getElem?_drop] at hk
          exact h7 (lo * sz + k) u (by omega) (by rw [← Nat.add_assoc]; simpa using hk)
        · cases hk
      · intro i j u hi hj hu
        rw [List.getElem?_take, if_pos (idx_lt hi hj), List.getElem?_drop] at hu
        refine h8 (lo + i) j u (by omega) hj ?_
        rw [show o + ((lo + i) * sz + j) = o + lo * sz + (i * sz + j) by rw [Nat.add_mul]; omega]
        simpa using hu
theorem srcOf_ok {E : Env} {h : HS} {w : World} (hr : RelH E h w) {x : SV} {vx : Value} (hx : Den E w x vx) {p : Prop} {m sz : Nat} {g : Nat → Nat → SV} (hs : srcOf h x = some (p, m, sz, g)) (hp : p) (hsz : 0 < sz) :
    (∃ A c, vx = .slice (some A) m c ∧ SrcAt E w A m sz g) ∨ (m = 0 ∧ ∃ a' c, vx = .slice a' 0 c) := by
  unfold srcOf at hs
  split at hs
  · cases hs
    cases hx
    · rename_i A c g' hA ho hn hc h1 hd
      exact .inl ⟨A, c, rfl, srcAt_row hsz g' hc h1 hd⟩
    · exact .inr ⟨rfl, _, _, rfl⟩
  · rename_i id2 ver2
    unfold srcV at hs
    split at hs
    · rename_i ver2' e2 sz' m g hv2
      cases hs
      subst hp
      obtain ⟨_, ⟨a2, cap2, l1, l2⟩, _⟩ := hr.vec _ _ _ _ _ _ hv2
      cases hx
      rename_i a3 n3 cap3 hid3 hval3
      rw [l1] at hval3
      simp only [Option.some.injEq, Prod.mk.injEq] at hval3
      obtain ⟨rfl, rfl, rfl⟩ := hval3
      cases a2 with
      | none =>
        rcases l2 with ⟨_, h0, _⟩ | ⟨_, _, _, h0, _⟩
        · exact .inr ⟨h0, none, cap2, by rw [h0]⟩
        · cases h0
      | some A => exact .inl ⟨A, cap2, rfl, l2.src⟩
    · cases hs
  · rename_i id2 ver2 sz2 lo n2 x2
    unfold srcC at hs
    split at hs
    · rename_i ver2' e2 sz' N g hv2
      cases hs
      obtain ⟨rfl, rfl⟩ := hp
      obtain ⟨_, ⟨a2, cap2, l1, l2⟩, _⟩ := hr.vec _ _ _ _ _ _ hv2
      obtain ⟨a3, a4, N3, cap3, rfl, hid3, hval3, hn3, hc3, ha3, h03, hA3, hB3⟩ := hx.vcut_inv
      rw [l1] at hval3
      simp only [Option.some.injEq, Prod.mk.injEq] at hval3
      obtain ⟨rfl, rfl, rfl⟩ := hval3
      exact cutSrc l2 hn3 (by cases x2 <;> simp <;> omega) ha3
    · cases hs
  · rename_i nm off n
    unfold srcB at hs
    split at hs
    · rename_i ty cells hb
      cases hs
      obtain ⟨cs, b1, b2, b3, b4⟩ := hr.blk _ _ _ hb
      rw [lenS_eq] at hp
      have hsz := b2.1
      cases hx
      rename_i cap hn hc
      refine .inl ⟨⟨E.rho nm, off, none⟩, cap, rfl, (cs.toList.drop off).take m, by simp; omega, ?_, ?_, ?_⟩
      · intro k u hu
        rw [List.getElem?_take] at hu
        split at hu
        · rw [List.getElem?_drop] at hu
          rw [Addr.add_lit]
          simp only [World.cell?, b1]
          simpa using hu
        · cases hu
      · intro u hu
        obtain ⟨k, hk⟩ := List.getElem?_of_mem hu
        rw [List.getElem?_take] at hk
        split at hk
        · rw [List.getElem?_drop] at hk
          exact b3 (off + k) u (by simpa using hk)
        · cases hk
      · intro i j u hi hj hu
        obtain rfl : j = 0 := by omega
        simp only [Nat.mul_one, Nat.add_zero] at hu
        rw [List.getElem?_take, if_pos hi] at hu
        · rw [List.getElem?_drop] at hu
          have hl : off + i < cells.length := by omega
          show Den E w (nth cells (off + i)) u
          rw [nth_eq]
          have := b2.2 (off + i) (cells[off + i]) u (List.getElem?_eq_getElem hl) (by simpa using hu)
          simpa [List.getD, List.getElem?_eq_getElem hl] using this
    · cases hs
  · cases hs
    cases hx
    exact .inr ⟨rfl, _, _, rfl⟩
  · cases hs

def apV (e : TypeId) (te : TI) (id ver : Nat) (h : HS) (v : Vc) (s : Option (Prop × Nat × Nat × (Nat → Nat → SV))) : Res :=
  match v, s with
  | .live ver' e' sz n f, some (p, m, sz', g) => .val (p ∧ ver = ver' ∧ e = e' ∧ sz = te.size ∧ sz' = sz ∧ ((n + m : Nat) : Int) * (te.bytes : Int) ≤ 140737488355328 ∧ ((n + m : Nat) : Int) ≤ 9223372036854775807) (.vec id (ver + 1)) { h with vecs := setV h.vecs id (.live (ver' + 1) e' sz (n + m) (catF n f g)) }
  | _, _ => .bad
def apC (e : TypeId) (te : TI) (id ver sz lo n : Nat) (h : HS) (v : Vc) (s : Option (Prop × Nat × Nat × (Nat → Nat → SV))) : Res :=
  match v, s with
  | .live ver' e' sz2 _ f, some (p, m, sz', g) => .val (p ∧ ver = ver' ∧ e = e' ∧ sz = te.size ∧ sz2 = sz ∧ sz' = sz ∧ lo = 0 ∧ ((n + m : Nat) : Int) * (te.bytes : Int) ≤ 140737488355328 ∧ ((n + m : Nat) : Int) ≤ 9223372036854775807) (.vec id (ver + 2)) { h with vecs := setV h.vecs id (.live (ver' + 2) e' sz2 (n + m) (catF n f g)) }
  | _, _ => .bad
/-- Onto a nil slice: an own slice. -/
def apN (e : TypeId) (te : TI) (e' sz : Nat) (h : HS) (s : Option (Prop × Nat × Nat × (Nat → Nat → SV))) : Res :=
  match s with
  | some (p, m, sz', g) => .val (p ∧ e = e' ∧ sz = te.size ∧ sz' = sz ∧ ((0 + m : Nat) : Int) * (te.bytes : Int) ≤ 140737488355328 ∧ ((0 + m : Nat) : Int) ≤ 9223372036854775807) (.vec (lenV h.vecs) 1) { h with vecs := snocV h.vecs (.live 1 e' sz (0 + m) (catF 0 (fun _ _ => .any) g)) }
  | none => .bad
theorem setV_last : ∀ (l : List Vc) (a b : Vc), setV (snocV l a) (lenV l) b = snocV l b
  | [], _, _ => rfl
  | x :: l, a, b => by simp [setV, snocV, lenV, setV_last l a b]
/-- Onto a part whose room ends with it: a new slice. -/
def apX (e : TypeId) (te : TI) (ver sz lo n : Nat) (h : HS) (v : Vc) (s : Option (Prop × Nat × Nat × (Nat → Nat → SV))) : Res :=
  match v, s with
  | .live ver' e' sz2 _ f, some (p, m, sz', g) => .val (p ∧ 0 < m ∧ ver = ver' ∧ e = e' ∧ sz = te.size ∧ sz2 = sz ∧ sz' = sz ∧ ((n + m : Nat) : Int) * (te.bytes : Int) ≤ 140737488355328 ∧ ((n + m : Nat) : Int) ≤ 9223372036854775807) (.vec (lenV h.vecs) 0) { h with vecs := snocV h.vecs (.live 0 e' sz2 (n + m) (catF n (fun i j => f (lo + i) j) g)) }
  | _, _ => .bad
def apCX (e : TypeId) (te : TI) (id ver sz n : Nat) (h : HS) (v : Vc) (s : Option (Prop × Nat × Nat × (Nat → Nat → SV))) : Nat → Bool → Res
  | lo + 1, true => apX e te ver sz (lo + 1) n h v s
  | lo, _ => apC e te id ver sz lo n h v s
def rAppend (e : TypeId) (te : TI) (s x : SV) (h : HS) : Res :=
  match s with
  | .vec id ver => apV e te id ver h (getV h.vecs id) (srcOf h x)
  | .vcut id ver sz lo n x' => apCX e te id ver sz n h (getV h.vecs id) (srcOf h x) lo x'
  | .nils e' sz => apN e te e' sz h (srcOf h x)
  | _ => .bad

theorem setV_setV : ∀ (l : List Vc) (n : Nat) (a b : Vc), setV (setV l n a) n b = setV l n b
  | [], _, _, _ => rfl
  | _ :: _, 0, _, _ => rfl
  | x :: l, n + 1, a, b => by simp only [setV, setV_setV l n a b]
theorem SrcAt.ext {E E' : Env} {w w' : World} (hx : Ext E w E' w') (hw : w' = w) {A : Addr} {m sz : Nat} {g : Nat → Nat → SV} (h : SrcAt E w A m sz g) : SrcAt E' w' A m sz g := by
  subst hw
  obtain ⟨news, h1, h2, h3, h4⟩ := h
  exact ⟨news, h1, h2, h3, fun i j u hi hj hu => (h4 i j u hi hj hu).ext hx⟩
/-- An own slice goes on as its first part. -/
theorem cut_ok {E : Env} {h : HS} {w : World} (hr : RelH E h w) {id ver : Nat} {ty : TypeId} {sz N : Nat} {f : Nat → Nat → SV} (hv : getV h.vecs id = .live ver ty sz N f) {a : Option Addr} {cap : Nat} (hval : E.val id ver = some (a, N, cap)) {n c : Nat} (hn : n ≤ N) (hc1 : n ≤ c) (hc2 : c ≤ cap) :
    Ext E w (E.bump id (ver + 1) (a, n, c)) w ∧ RelH (E.bump id (ver + 1) (a, n, c)) { h with vecs := setV h.vecs id (.live (ver + 1) ty sz n f) } w := by
  obtain ⟨hsz, ⟨a2, cap2, k1, k2⟩, k3⟩ := hr.vec _ _ _ _ _ _ hv
  rw [hval] at k1
  simp only [Option.some.injEq, Prod.mk.injEq, true_and] at k1
  obtain ⟨rfl, rfl⟩ := k1
  have hxx := bump_ext hr hv (Ext.refl E w) (a, n, c)
  refine ⟨hxx, hr.moved hv hxx rfl rfl rfl (fun i v hi => by simp [Env.bump, hi]) (fun b t hb _ => ⟨rfl, rfl⟩) hr.own (a := a) (cap := c) (by simp [Env.bump]) ?_ (bump_none k3)⟩
  rcases k2 with h1 | ⟨g1, o, cur, h1, h2, h3, h4, h5, h6, h7, h8⟩
  · exact .inl ⟨h1.1, by omega, by omega⟩
  · have := Nat.mul_le_mul_right sz hn
    exact .inr ⟨g1, o, cur, h1, hc1, by omega, h4, Nat.le_trans (Nat.add_le_add_left (Nat.mul_le_mul_right _ hc2) _) h5, h6, fun k u hk hu => h7 k u (by omega) hu, fun i j u hi hj hu => (h8 i j u (by omega) hj hu).ext hxx⟩

theorem apX_ok {P : Program} {E : Env} {h : HS} {w : World} (hr : RelH E h w) {t e : TypeId} {te : TI} (ht : P.underlying t = some (.slice e)) (hE : TIOk P e te) (tr : TypeId) {id ver sz lo n : Nat} {x : SV} {vs vx : Value} (hs : Den E w (.vcut id ver sz lo n true) vs) (hx : Den E w x vx) :
    ResOk P E h w ((Builtin.append_ #[t, t] tr #[vs, vx] >>= fun v => pure (Next.value v)).run P w) (apX e te ver sz lo n h (getV h.vecs id) (srcOf h x)) := by
  obtain ⟨i, z, hi, hsz, hby, hz, hzs, _⟩ := hE.info
  unfold apX
  split
  rotate_left
  · trivial
  rename_i ver' e' sz2 N f p m sz' g hv hsr
  obtain ⟨hz', ⟨a0, cap0, k1, k2⟩, k3⟩ := hr.vec _ _ _ _ _ _ hv
  rintro ⟨hp, hm, rfl, rfl, hs', e2, rfl, hb, hl⟩
  subst e2
  subst hs'
  obtain ⟨a, a', N', cap, rfl, hid, hval, hn, hc, ha9, h09, hA9, hB9⟩ := hs.vcut_inv
  simp only [if_true] at ha9 ⊢
  rw [show lo + n - lo = n by omega]
  rw [k1] at hval
  simp only [Option.some.injEq, Prod.mk.injEq] at hval
  obtain ⟨rfl, rfl, rfl⟩ := hval
  have hsrc := srcOf_ok hr hx hsr hp hz'
  obtain ⟨A, c, rfl, news, hln, hnews, hone, hden⟩ : ∃ A c, vx = .slice (some A) m c ∧ SrcAt E w A m te.size g := by
    rcases hsrc with hx | ⟨h0, _⟩
    · exact hx
    · omega
  rw [← hby] at hb
  have h63 : ((n + m : Nat) : Int) ≤ 9223372036854775807 := hl
  have hby2 : (n + m) * i.bytes ≤ 140737488355328 := by rw [← Int.natCast_mul] at hb; omega
  -- what was there
  have old : ∃ olds : List Value, olds.length = n * te.size ∧ (∀ j u, olds[j]? = some u → ∀ A, a' = some A → w.cell? (A.add j) = some u) ∧ (∀ (k : Nat) (u : Value), olds[k]? = some u → u.oneCell' = true) ∧
      (∀ i' j u, i' < n → j < te.size → olds[i' * te.size + j]? = some u → Den E w (f (lo + i') j) u) ∧ (a' = none → n = 0) := by
    by_cases hn0 : n = 0
    · exact ⟨[], by simp [hn0], fun j u hu => by simp at hu, fun k u hu => by simp at hu, fun i' j u hi' => by omega, fun _ => hn0⟩
    · rcases k2 with ⟨_, h1, _⟩ | ⟨g1, o, cur, rfl, h2, h3, h4, h5, h6, h7, h8⟩
      · omega
      · have ha' := ha9 (by omega)
        simp only [Option.map_some] at ha'
        subst ha'
        have hle : o + N * te.size ≤ cur.size := Nat.le_trans (Nat.add_le_add_left (Nat.mul_le_mul_right _ h2) _) h5
        have hin : (lo + n) * te.size ≤ N * te.size := Nat.mul_le_mul_right _ hn
        rw [Nat.add_mul] at hin
        have hg : ∀ j, j < n * te.size → ((cur.toList.drop (o + lo * te.size)).take (n * te.size))[j]? = cur[o + lo * te.size + j]? := fun j hj => by
          rw [List.getElem?_take, if_pos hj, List.getElem?_drop]
          simp
        have hlen : ((cur.toList.drop (o + lo * te.size)).take (n * te.size)).length = n * te.size := by simp; omega
        have hlt : ∀ j u, ((cur.toList.drop (o + lo * te.size)).take (n * te.size))[j]? = some u → j < n * te.size := fun j u hu => by
          rw [← hlen]; exact (List.getElem?_eq_some_iff.1 hu).1
        refine ⟨(cur.toList.drop (o + lo * te.size)).take (n * te.size), hlen, fun j u hu A hA => ?_, fun k u hu => ?_, fun i' j u hi' hj hu => ?_, fun h => by cases h⟩
        · cases hA
          have hj := hlt j u hu
          rw [hg j hj] at hu
          rw [Addr.add_lit, Addr.add_lit]
          simp only [World.cell?, h4]
          simpa using hu
        · have hk := hlt k u hu
          rw [hg k hk] at hu
          exact h7 (lo * te.size + k) u (by omega) (by rw [← Nat.add_assoc]; exact hu)
        · have hk := hlt _ u hu
          rw [hg _ hk] at hu
          exact h8 (lo + i') j u (by omega) hj (by rw [show o + ((lo + i') * te.size + j) = o + lo * te.size + (i' * te.size + j) by rw [Nat.add_mul]; omega]; exact hu)
  obtain ⟨olds, ho1, ho2, ho3, ho4, ho5⟩ := old
  have fin : ∀ (cap' : Nat) (zs : Array Value), n + m ≤ cap' → cap' ≤ maxLen → zs.size = (cap' - (n + m)) * te.size →
      (Builtin.append_ #[t, t] tr #[.slice a' n n, .slice (some A) m c]).run P w = .ok (.slice (some ⟨w.heap.size, 0, none⟩) (n + m) cap') (w.drew.alloc (.cells (olds.toArray ++ news.toArray ++ zs) e)) →
      ∃ val w' E', (Builtin.append_ #[t, t] tr #[.slice a' n n, .slice (some A) m c] >>= fun v => pure (Next.value v)).run P w = .ok (.value val) w' ∧ Den E' w' (.vec (lenV h.vecs) 0) val ∧
        RelH E' { h with vecs := snocV h.vecs (.live 0 e te.size (n + m) (catF n (fun i j => f (lo + i) j) g)) } w' ∧ Ext E w E' w' := by
    intro cap' zs hc1 hc2 hzl hrun
    have hxx : Ext E w E (w.drew.alloc (.cells (olds.toArray ++ news.toArray ++ zs) e)) := ext_of_grow hr.own rfl rfl rfl (by simp) (fun b hb => Below.heap_alloc w.drew _ b hb)
    have hxa := adopt_ext (n := n + m) (cap := cap') hr.own hxx (fun b hb => Below.heap_alloc w.drew _ b hb) (Nat.le_refl w.heap.size)
    have hcat : ∀ k : Nat, (olds.toArray ++ news.toArray ++ zs)[k]? = (olds ++ news ++ zs.toList)[k]? := fun k => by
      rw [← Array.getElem?_toList]; congr 1; simp
    obtain ⟨q1, q2⟩ := hr.adopt (n := n + m) (cap := cap') (ty := e) (f := catF n (fun i j => f (lo + i) j) g) hxx (fun b hb => Below.heap_alloc w.drew _ b hb) hz' (Nat.le_refl w.heap.size) (by simp) hc1 hc2 (heap_alloc_new w.drew _) (by
        simp only [Array.size_append, List.size_toArray, ho1, hln, hzl, ← Nat.add_mul]
        refine Nat.le_of_eq ?_
        congr 1
        omega) (fun k u hk hu => by
        rw [hcat] at hu
        have hk2 : k < (olds ++ news).length := by rw [List.length_append, ho1, hln, ← Nat.add_mul]; exact hk
        rw [List.getElem?_append_left hk2] at hu
        by_cases hk3 : k < olds.length
        · rw [List.getElem?_append_left hk3] at hu; exact ho3 k u hu
        · rw [List.getElem?_append_right (by omega)] at hu; exact hone u (List.mem_of_getElem? hu)) (fun i' j u hi' hj hu => by
        rw [hcat] at hu
        have hk2 : i' * te.size + j < (olds ++ news).length := by rw [List.length_append, ho1, hln, ← Nat.add_mul]; exact idx_lt hi' hj
        rw [List.getElem?_append_left hk2] at hu
        by_cases hin : i' < n
        · rw [List.getElem?_append_left (by rw [ho1]; exact idx_lt hin hj)] at hu
          simp only [catF, hin, if_true]
          exact (ho4 i' j u hin hj hu).ext hxa
        · obtain ⟨q, rfl⟩ : ∃ q, i' = n + q := ⟨i' - n, by omega⟩
          have e1 : (n + q) * te.size + j = olds.length + (q * te.size + j) := by rw [ho1, Nat.add_mul]; omega
          rw [e1, List.getElem?_append_right (by omega), Nat.add_sub_cancel_left] at hu
          simp only [catF]
          rw [if_neg hin, Nat.add_sub_cancel_left]
          exact (hden q j u (by omega) hj hu).ext hxa)
    refine ⟨_, _, _, by rw [Sem.run_bind, hrun]; rfl, ?_, q1, q2⟩
    rw [← hr.nv]
    exact .vec (by simp [Env.adopt]) (by simp [Env.adopt])
  have hsz2 : ∀ q : Nat, q * i.size = q * te.size := fun q => by rw [hsz]
  cases a' with
  | none =>
    have hn0 := ho5 rfl
    subst hn0
    have hold0 : olds = [] := List.length_eq_zero_iff.1 (by rw [ho1]; simp)
    have hrun := run_append_nil (P := P) w t tr e i z ht hi hz A m c news (by rw [hsz2]; exact hln) hnews (by omega) (by simpa using h63) (by simp only [Nat.zero_add] at hby2; omega)
    refine fin (grownCap w m 0 e) (Builtin.zeroCells z.cells (grownCap w m 0 e - m)) (by have := grownCap_ge w m 0 e; omega) (by simpa using grownCap_le_maxLen w m 0 e (by simp only [maxLen]; omega)) (by rw [size_zeroCells', hzs]; simp) ?_
    rw [hold0]
    simpa using hrun
  | some B =>
    have hrun := run_append_grow (P := P) w t tr e i z ht hi hz B n n olds (by rw [hsz2]; exact ho1) (fun j u hu => ho2 j u hu B rfl) A m c news (by rw [hsz2]; exact hln) hnews (by omega) h63 (growslice_fits (by omega) hby2)
    exact fin (grownCap w (n + m) n e) (Builtin.zeroCells z.cells (grownCap w (n + m) n e - (n + m))) (grownCap_ge w (n + m) n e) (grownCap_le_maxLen w (n + m) n e (by simp only [maxLen]; omega)) (by rw [size_zeroCells', hzs]) hrun
theorem rAppend_ok {P : Program} {E : Env} {h : HS} {w : World} (hr : RelH E h w) {t e : TypeId} {te : TI} (ht : P.underlying t = some (.slice e)) (hE : TIOk P e te) (tr : TypeId) {s x : SV} {vs vx : Value} (hs : Den E w s vs) (hx : Den E w x vx) :
    ResOk P E h w ((Builtin.append_ #[t, t] tr #[vs, vx] >>= fun v => pure (Next.value v)).run P w) (rAppend e te s x h) := by
  obtain ⟨i, z, hi, hsz, hby, hz, hzs, _⟩ := hE.info
  have go : ∀ {E : Env} {h : HS} {id ver e' sz n f a cap m g}, RelH E h w → getV h.vecs id = .live ver e' sz n f → E.val id ver = some (a, n, cap) → e = e' → sz = te.size →
      ((∃ A c, vx = .slice (some A) m c ∧ SrcAt E w A m sz g) ∨ (m = 0 ∧ ∃ a' c, vx = .slice a' 0 c)) → ((n + m : Nat) : Int) * (te.bytes : Int) ≤ 140737488355328 → ((n + m : Nat) : Int) ≤ 9223372036854775807 →
      ∃ val w' E', (Builtin.append_ #[t, t] tr #[.slice a n cap, vx] >>= fun v => pure (Next.value v)).run P w = .ok (.value val) w' ∧ Den E' w' (.vec id (ver + 1)) val ∧
        RelH E' { h with vecs := setV h.vecs id (.live (ver + 1) e' sz (n + m) (catF n f g)) } w' ∧ Ext E w E' w' := by
    intro E h id ver e' sz n f a cap m g hr hv hval he hs' hsrc hb hl
    subst he
    subst hs'
    obtain ⟨a', cap', w', E', r1, r2, r3, r4, r5⟩ := append_ok hr hv t tr i z ht hi hz hsz hzs hval vx m g hsrc (by simp only [maxLen]; omega) (by rw [hby]; rw [← Int.natCast_mul] at hb; omega)
    exact ⟨_, w', E', by simp [r1], .vec r5 r4, r3, r2⟩
  unfold rAppend
  split
  · rename_i id ver
    unfold apV
    split
    · rename_i ver' e' sz n f p m sz' g hv hsr
      obtain ⟨hz', ⟨a0, cap0, k1, k2⟩, k3⟩ := hr.vec _ _ _ _ _ _ hv
      rintro ⟨hp, rfl, he, hs', rfl, hb, hl⟩
      cases hs
      rename_i a n' cap hid hval
      have hval' := hval
      rw [k1] at hval
      simp only [Option.some.injEq, Prod.mk.injEq] at hval
      obtain ⟨rfl, rfl, rfl⟩ := hval
      exact go hr hv hval' he hs' (srcOf_ok hr hx hsr hp hz') hb hl
    · trivial
  · rename_i id ver sz lo n x1
    unfold apCX
    split
    · exact apX_ok hr ht hE tr hs hx
    unfold apC
    split
    · rename_i ver' e' sz2 N f p m sz' g hv hsr
      obtain ⟨hz', ⟨a0, cap0, k1, k2⟩, k3⟩ := hr.vec _ _ _ _ _ _ hv
      rintro ⟨hp, rfl, he, hs', e1, e2, rfl, hb, hl⟩
      subst e2
      subst e1
      obtain ⟨a, a', N', cap, rfl, hid, hval, hn, hc, ha9, h09, hA9, hB9⟩ := hs.vcut_inv
      obtain rfl := h09 rfl
      have hval' := hval
      rw [k1] at hval
      simp only [Option.some.injEq, Prod.mk.injEq] at hval
      obtain ⟨rfl, rfl, rfl⟩ := hval
      simp only [Nat.zero_add] at hn
      have hsrc := srcOf_ok hr hx hsr hp hz'
      obtain ⟨hxx, hr2⟩ := cut_ok hr hv hval' hn (c := if x1 then n else cap0) (by cases x1 <;> simp <;> omega) (by cases x1 <;> simp <;> omega)
      have hsrc2 : (∃ A c, vx = .slice (some A) m c ∧ SrcAt (E.bump id (ver + 1) (a0, n, if x1 then n else cap0)) w A m sz2 g) ∨ (m = 0 ∧ ∃ a' c, vx = .slice a' 0 c) := by
        rcases hsrc with ⟨A, c, h1, h2⟩ | h1
        · exact .inl ⟨A, c, h1, h2.ext hxx rfl⟩
        · exact .inr h1
      have hv2 : getV (setV h.vecs id (.live (ver + 1) e' sz2 n f)) id = .live (ver + 1) e' sz2 n f := by rw [getV_set, if_pos ⟨rfl, getV_lt hv⟩]
      obtain ⟨val, w', E', r1, r2, r3, r4⟩ := go hr2 hv2 (a := a0) (n := n) (cap := if x1 then n else cap0) (by simp [Env.bump]) he hs' hsrc2 hb hl
      refine ⟨val, w', E', ?_, r2, ?_, hxx.trans r4⟩
      · cases x1 <;> simpa using r1
      · simpa [setV_setV] using r3
    · trivial
  · rename_i e1 sz
    unfold apN
    split
    · rename_i p m sz' g hsr
      rintro ⟨hp, rfl, hs', rfl, hb, hl⟩
      cases hs
      rename_i hz'
      have hsrc := srcOf_ok hr hx hsr hp hz'
      have hxn := ext_newV E w
      have hrn := hr.newVec e sz' hz' (fun _ _ => .any)
      have hvn : getV (snocV h.vecs (.live 0 e sz' 0 (fun _ _ => .any))) (lenV h.vecs) = .live 0 e sz' 0 (fun _ _ => .any) := by rw [getV_snoc, if_pos rfl]
      have hsrc2 : (∃ A c, vx = .slice (some A) m c ∧ SrcAt E.newV w A m sz' g) ∨ (m = 0 ∧ ∃ a' c, vx = .slice a' 0 c) := by
        rcases hsrc with ⟨A, c, h1, h2⟩ | h1
        · exact .inl ⟨A, c, h1, h2.ext hxn rfl⟩
        · exact .inr h1
      obtain ⟨val, w', E', r1, r2, r3, r4⟩ := go hrn hvn (a := none) (n := 0) (cap := 0) (by simp [Env.newV, hr.nv]) rfl hs' hsrc2 hb hl
      refine ⟨val, w', E', r1, r2, ?_, hxn.trans r4⟩
      simpa [setV_last] using r3
    · trivial
  · trivial

/- ### parts of own slices -/
def intO (d : Int) : Option SV → Option Int
  | none => some d
  | some (.int _ l) => some l
  | _ => none
/-- Without a third bound, or with one that is the second. -/
def maxO (u : Int) : Option SV → Option (Prop × Bool)
  | none => some (True, false)
  | some (.int _ m) => some (m = u, true)
  | _ => none
def cutR (p : Prop) (id ver sz lo n : Nat) (h : HS) (l u : Option Int) (mx : Option SV) : Res :=
  match l, u with
  | some l, some u => match maxO u mx with
    | some (q, x) => .val (p ∧ q ∧ 0 ≤ l ∧ l ≤ u ∧ u ≤ (n : Int)) (.vcut id ver sz (lo + l.toNat) (u.toNat - l.toNat) x) h
    | none => .bad
  | _, _ => .bad
def sliV (se id ver : Nat) (lo hi mx : Option SV) (h : HS) : Vc → Res
  | .live ver' _ sz n _ => cutR (ver = ver' ∧ se = sz) id ver sz 0 n h (intO 0 lo) (intO (n : Int) hi) mx
  | .dead => .bad
def sliC (se id ver sz lo0 n : Nat) (x : Bool) (lo hi mx : Option SV) (h : HS) : Res :=
  match x, mx with
  | true, none => .bad
  | _, mx => cutR (se = sz) id ver sz lo0 n h (intO 0 lo) (intO (n : Int) hi) mx
def rSliceV (se : Nat) (x : SV) (lo hi mx : Option SV) (h : HS) : Res :=
  match x with
  | .vec id ver => sliV se id ver lo hi mx h (getV h.vecs id)
  | .vcut id ver sz lo0 n x => sliC se id ver sz lo0 n x lo hi mx h
  | _ => .bad
def DenO (E : Env) (w : World) : Option SV → Option Value → Prop
  | some a, some b => Den E w a b
  | none, none => True
  | _, _ => False
theorem run_cut {P : Program} {w : World} {t e : TypeId} (hd : P.underlying t = some (.slice e)) {sz : Nat} (hS : (sizeOf e).run P w = .ok sz w) (a : Option Addr) (n cap : Nat) {vlo vhi vmx : Option Value} {l u : Int}
    (h1 : (vlo = none ∧ l = 0) ∨ ∃ k, vlo = some (.int k l)) (h2 : (vhi = none ∧ u = n) ∨ ∃ k, vhi = some (.int k u)) (x : Bool) (h3 : (vmx = none ∧ x = false) ∨ ∃ k m, vmx = some (.int k m) ∧ m = u ∧ x = true ∧ vhi ≠ none)
    (p1 : 0 ≤ l) (p2 : l ≤ u) (p3 : u ≤ (cap : Int)) :
    (Instr.sliceAt t (.slice a n cap) vlo vhi vmx >>= fun v => pure (Next.value v)).run P w = .ok (.value (.slice (if (if x then u.toNat else cap) = l.toNat then a else a.map (·.add (l.toNat * sz))) (u.toNat - l.toNat) ((if x then u.toNat else cap) - l.toNat))) w := by
  have q1 : 0 ≤ u := by omega
  have q3 : u ≤ max u 0 := by omega
  have q4 : l ≤ max u 0 := by omega
  rcases h3 with ⟨rfl, rfl⟩ | ⟨k3, m, rfl, rfl, rfl, h4⟩
  · rcases h1 with ⟨rfl, rfl⟩ | ⟨k1, rfl⟩ <;> rcases h2 with ⟨rfl, rfl⟩ | ⟨k2, rfl⟩ <;>
      (simp [Instr.sliceAt, Instr.slice, run_underlying hd, Instr.sliceBounds, Instr.sliceBound, asIntOf, p1, q1, p2, p3, q3, q4, hS]; try (intros; omega))
  · rcases h2 with ⟨rfl, _⟩ | ⟨k2, rfl⟩
    · exact absurd rfl h4
    · rcases h1 with ⟨rfl, rfl⟩ | ⟨k1, rfl⟩ <;>
        (simp [Instr.sliceAt, Instr.slice, run_underlying hd, Instr.sliceBounds, Instr.sliceBound, asIntOf, p1, q1, p2, p3, q3, q4, hS]; try (intros; omega))
theorem intO_den {E : Env} {w : World} {d l : Int} {o : Option SV} {v : Option Value} (h : DenO E w o v) (hl : intO d o = some l) : (v = none ∧ l = d) ∨ ∃ k, v = some (.int k l) := by
  unfold intO at hl
  split at hl
  · cases hl
    cases v with
    | none => exact .inl ⟨rfl, rfl⟩
    | some _ => exact h.elim
  · cases hl
    cases v with
    | none => exact h.elim
    | some b => simp only [DenO] at h; cases h; exact .inr ⟨_, rfl⟩
  · cases hl
theorem cutR_ok {P : Program} {E : Env} {h : HS} {w : World} (hr : RelH E h w) {t e : TypeId} (hd : P.underlying t = some (.slice e)) {id ver sz lo n : Nat} {p : Prop} (hS : p → (sizeOf e).run P w = .ok sz w) {v : Value} {lo' hi mx : Option SV} {vlo vhi vmx : Option Value}
    (hlo : DenO E w lo' vlo) (hhi : DenO E w hi vhi) (hmx : DenO E w mx vmx) (hmh : vmx ≠ none → vhi ≠ none)
    (hv : p → ∃ a a' N cap c, id < E.nv ∧ E.val id ver = some (a, N, cap) ∧ N ≤ cap ∧ lo + n ≤ N ∧ v = .slice a' n (c - lo) ∧ lo + n ≤ c ∧ c ≤ cap ∧ (vmx = none → c = cap) ∧ (∀ A, a = some A → ∃ b o, A = ⟨b, o, none⟩) ∧ (c ≠ lo → a' = a.map (·.add (lo * sz))) ∧ (lo = 0 → a' = a) ∧ ∀ A, a' = some A → ∃ b o, A = ⟨b, o, none⟩) :
    ResOk P E h w ((Instr.sliceAt t v vlo vhi vmx >>= fun v => pure (Next.value v)).run P w) (cutR p id ver sz lo n h (intO 0 lo') (intO (n : Int) hi) mx) := by
  unfold cutR
  split
  · rename_i l u hl hu
    split
    · rename_i q x hq
      rintro ⟨hp, hq', p1, p2, p3⟩
      obtain ⟨a, a', N, cap, c, c1, c2, c3, c4, rfl, c5, c6, c7, c8, c9, c10, c11⟩ := hv hp
      have h1 := intO_den hlo hl
      have h2 := intO_den hhi hu
      have h3 : (vmx = none ∧ x = false) ∨ ∃ k m, vmx = some (.int k m) ∧ m = u ∧ x = true ∧ vhi ≠ none := by
        unfold maxO at hq
        split at hq
        · cases hq
          cases vmx with
          | none => exact .inl ⟨rfl, rfl⟩
          | some _ => exact hmx.elim
        · cases hq
          cases vmx with
          | none => exact hmx.elim
          | some b => simp only [DenO] at hmx; cases hmx; exact .inr ⟨_, _, rfl, hq', rfl, hmh (by simp)⟩
        · cases hq
      have hcx : x = false → c = cap := fun hx => c7 (by
        rcases h3 with ⟨h, _⟩ | ⟨_, _, _, _, h, _⟩
        · exact h
        · rw [hx] at h; cases h)
      have hrun := run_cut (P := P) (w := w) hd (hS hp) a' n (c - lo) h1 h2 x h3 p1 p2 (by omega)
      refine ⟨_, w, E, hrun, ?_, hr, Ext.refl E w⟩
      have e2 : (if x then u.toNat else c - lo) - l.toNat = (if x then lo + l.toNat + (u.toNat - l.toNat) else cap) - (lo + l.toNat) := by
        cases x with
        | true => simp <;> omega
        | false => have := hcx rfl; simp <;> omega
      rw [e2]
      have h8' : ∀ A, (if (if x then u.toNat else c - lo) = l.toNat then a' else a'.map (·.add (l.toNat * sz))) = some A → ∃ b o, A = ⟨b, o, none⟩ := fun A hA => by
        by_cases hq : (if x then u.toNat else c - lo) = l.toNat
        · rw [if_pos hq] at hA; exact c11 A hA
        · rw [if_neg hq] at hA
          cases a' with
          | none => cases hA
          | some B =>
            obtain ⟨b, o, rfl⟩ := c11 B rfl
            simp only [Option.map_some, Addr.add_lit, Option.some.injEq] at hA
            exact ⟨_, _, hA.symm⟩
      refine .vcut c1 c2 (by omega) c3 (fun hne => ?_) (fun h0 => ?_) c8 h8'
      · have hx1 : ¬ ((if x = true then u.toNat else c - lo) = l.toNat) := by
          cases x with
          | true => simp at hne ⊢; omega
          | false => have := hcx rfl; simp at hne ⊢; omega
        have hcl : c ≠ lo := by
          cases x with
          | true => simp at hne; omega
          | false => have := hcx rfl; simp at hne; omega
        rw [if_neg hx1, c9 hcl]
        cases a with
        | none => rfl
        | some A =>
          obtain ⟨b, o, rfl⟩ := c8 A rfl
          simp [Addr.add_lit, Nat.add_mul, Nat.add_assoc]
      · have hl0 : lo = 0 := by omega
        have hl1 : l.toNat = 0 := by omega
        have hm : a.map (fun x => x.add (0 * sz)) = a := by
          cases a with
          | none => rfl
          | some A =>
            obtain ⟨b, o, rfl⟩ := c8 A rfl
            simp [Addr.add_lit]
        rw [hl1, c10 hl0, hm]
        exact ite_self _
    · trivial
  · trivial
theorem rSliceV_ok {P : Program} {E : Env} {h : HS} {w : World} (hr : RelH E h w) {t e : TypeId} {te : TI} (hd : P.underlying t = some (.slice e)) (hE : TIOk P e te) {x : SV} {v : Value} (hx : Den E w x v) {lo hi mx : Option SV} {vlo vhi vmx : Option Value}
    (hlo : DenO E w lo vlo) (hhi : DenO E w hi vhi) (hmx : DenO E w mx vmx) (hmh : vmx ≠ none → vhi ≠ none) :
    ResOk P E h w ((Instr.sliceAt t v vlo vhi vmx >>= fun v => pure (Next.value v)).run P w) (rSliceV te.size x lo hi mx h) := by
  obtain ⟨i0, z0, hi0, hs0, _⟩ := hE.info
  have hS : (sizeOf e).run P w = .ok te.size w := by simp [sizeOf, typeInfo, hi0, hs0]
  unfold rSliceV
  split
  · rename_i id ver
    unfold sliV
    split
    · rename_i ver' ty sz n f hv
      obtain ⟨hz', ⟨a0, cap0, k1, k2⟩, k3⟩ := hr.vec _ _ _ _ _ _ hv
      have hb : n ≤ cap0 ∧ ∀ A, a0 = some A → ∃ b o, A = ⟨b, o, none⟩ := by
        rcases k2 with ⟨hA, rfl, rfl⟩ | ⟨g1, o, cur, rfl, h2, _⟩
        · exact ⟨Nat.le_refl _, hA⟩
        · exact ⟨h2, fun A h => by cases h; exact ⟨_, _, rfl⟩⟩
      refine cutR_ok hr hd (fun hp => by rw [← hp.2]; exact hS) hlo hhi hmx hmh (fun ⟨h1, h2⟩ => ?_)
      subst h1
      cases hx
      rename_i a n' cap hid hval
      have hval' := hval
      rw [k1] at hval
      simp only [Option.some.injEq, Prod.mk.injEq] at hval
      obtain ⟨rfl, rfl, rfl⟩ := hval
      refine ⟨a0, a0, n, cap0, cap0, hid, hval', hb.1, by omega, by simp, by omega, Nat.le_refl _, fun _ => rfl, hb.2, fun _ => ?_, fun _ => rfl, hb.2⟩
      cases a0 with
      | none => rfl
      | some A => obtain ⟨b, o, rfl⟩ := hb.2 A rfl; simp [Addr.add_lit]
    · trivial
  · rename_i id ver sz lo0 n x1
    have main : (x1 = false ∨ vmx ≠ none) → ResOk P E h w ((Instr.sliceAt t v vlo vhi vmx >>= fun v => pure (Next.value v)).run P w) (cutR (te.size = sz) id ver sz lo0 n h (intO 0 lo) (intO (n : Int) hi) mx) := fun hxm => by
      obtain ⟨a, a', N, cap, rfl, hid, hval, hn, hc, ha, h0, hA, hB⟩ := hx.vcut_inv
      refine cutR_ok hr hd (fun hp => by rw [← hp]; exact hS) hlo hhi hmx hmh (fun h1 => ?_)
      subst h1
      refine ⟨a, a', N, cap, if x1 then lo0 + n else cap, hid, hval, hc, hn, rfl, by cases x1 <;> simp <;> omega, by cases x1 <;> simp <;> omega, fun hm => ?_, hA, ha, h0, hB⟩
      rcases hxm with h | h
      · rw [h]; rfl
      · exact absurd hm h
    unfold sliC
    split
    · trivial
    · rename_i hne
      refine main ?_
      cases x1 with
      | false => exact .inl rfl
      | true =>
        right
        intro h
        cases mx with
        | none => exact hne rfl rfl
        | some m => rw [h] at hmx; exact hmx.elim
  · trivial
end Go.Eng
end

/- Own slices that are made whole, and cleared. -/
section
namespace Go.Eng
open Go.RowKit
set_option linter.unusedVariables false

theorem setV_same : ∀ {l : List Vc} {n : Nat} {a b c d e}, getV l n = .live a b c d e → setV l n (.live a b c d e) = l
  | [], _, _, _, _, _, _, h => by simp [getV] at h
  | x :: l, 0, _, _, _, _, _, h => by simp only [getV] at h; subst h; rfl
  | x :: l, n + 1, _, _, _, _, _, h => by simp only [getV] at h; simp only [setV, setV_same (l := l) (n := n) h]

/-- Elements lo, lo + 1, .. are zero now. -/
def clrF (f : Nat → Nat → SV) (lo n : Nat) (z : List SV) : Nat → Nat → SV := fun i j => if lo ≤ i ∧ i < lo + n then nth z j else f i j
def clrV (te : TI) (id ver sz lo n : Nat) (h : HS) : Vc → Res
  | .live ver' ty sz' N f => .val (ver = ver' ∧ sz = sz' ∧ te.size = sz) (.tup []) { h with vecs := setV h.vecs id (.live ver' ty sz' N (clrF f lo n (zcs te.zero))) }
  | .dead => .bad
def clrW (te : TI) (id ver : Nat) (h : HS) : Vc → Res
  | .live ver' ty sz N f => .val (ver = ver' ∧ te.size = sz) (.tup []) { h with vecs := setV h.vecs id (.live ver' ty sz N (clrF f 0 N (zcs te.zero))) }
  | .dead => .bad
def rClear (te : TI) (x : SV) (h : HS) : Res :=
  match x with
  | .vec id ver => clrW te id ver h (getV h.vecs id)
  | .vcut id ver sz lo n _ => clrV te id ver sz lo n h (getV h.vecs id)
  | _ => .bad
theorem zeroCells_get (z : Array Value) (hz : 0 < z.size) (n k : Nat) (hk : k < n * z.size) : (Builtin.zeroCells z n)[k]? = z[k % z.size]? := by
  have hm := Nat.mod_lt k hz
  simp [Builtin.zeroCells, hk, Array.getElem?_eq_getElem hm, getElem!_pos z (k % z.size) hm]
theorem clr_core {P : Program} {E : Env} {h : HS} {w : World} (hr : RelH E h w) {e : TypeId} {te : TI} (hE : TIOk P e te) {id ver : Nat} {ty : TypeId} {N : Nat} {f : Nat → Nat → SV} (hv : getV h.vecs id = .live ver ty te.size N f) {a : Option Addr} {cap : Nat}
    (hval : E.val id ver = some (a, N, cap)) {lo n : Nat} (hn : lo + n ≤ N) (h0 : 0 < n) {z : Value} {i : TypeInfo} (hi : P.info? e = some i) (hz : i.zero = some z) :
    ∃ g o w', a = some ⟨g, o, none⟩ ∧ (storeCells ⟨g, o + lo * te.size, none⟩ (Builtin.zeroCells z.cells n).toList).run P w = .ok () w' ∧ RelH E { h with vecs := setV h.vecs id (.live ver ty te.size N (clrF f lo n (zcs te.zero))) } w' ∧ Ext E w E w' := by
  obtain ⟨i', z', hi', hsz, hby, hz', hzs, hzl, hzc⟩ := hE.info
  rw [hi] at hi'
  cases hi'
  rw [hz] at hz'
  cases hz'
  obtain ⟨hs0, ⟨a2, cap2, k1, k2⟩, k3⟩ := hr.vec _ _ _ _ _ _ hv
  have hval' := hval
  rw [k1] at hval
  simp only [Option.some.injEq, Prod.mk.injEq, true_and] at hval
  obtain ⟨rfl, rfl⟩ := hval
  rcases k2 with ⟨_, h1, _⟩ | ⟨g, o, cur, rfl, h2, h3, h4, h5, h6, h7, h8⟩
  · omega
  obtain ⟨zl, zd⟩ := zcs_ok (E := E) (w := w) te.zero z.cells.toList (by simp [hzs, hzl]) (fun k u hu => (hzc k u (by simpa using hu)).2)
  have hzlen : (Builtin.zeroCells z.cells n).toList.length = n * te.size := by simp [Builtin.zeroCells, hzs]
  have hle : o + N * te.size ≤ cur.size := Nat.le_trans (Nat.add_le_add_left (Nat.mul_le_mul_right _ h2) _) h5
  have hln : (lo + n) * te.size ≤ N * te.size := Nat.mul_le_mul_right _ hn
  rw [Nat.add_mul] at hln
  have hzg : ∀ k, k < n * te.size → (Builtin.zeroCells z.cells n).toList[k]? = z.cells[k % te.size]? := fun k hk => by
    have := zeroCells_get z.cells (by omega) n k (by rw [hzs]; exact hk)
    rw [hzs] at this
    simpa using this
  have h1c : ∀ v ∈ (Builtin.zeroCells z.cells n).toList, v.oneCell' = true := fun v hv => by
    obtain ⟨k, hk⟩ := List.getElem?_of_mem hv
    have hkl : k < n * te.size := by rw [← hzlen]; exact (List.getElem?_eq_some_iff.1 hk).1
    rw [hzg k hkl] at hk
    exact (hzc _ _ hk).1
  have hst := run_storeCells_at P g (o + lo * te.size) ty (Builtin.zeroCells z.cells n).toList 0 cur w h4 (by rw [hzlen]; omega) h1c
  simp only [Nat.add_zero] at hst
  have hget : ∀ k, (cur.toList.take (o + lo * te.size) ++ (Builtin.zeroCells z.cells n).toList ++ cur.toList.drop (o + lo * te.size + (Builtin.zeroCells z.cells n).toList.length)).toArray[k]? =
      if o + lo * te.size ≤ k ∧ k < o + lo * te.size + n * te.size then z.cells[(k - (o + lo * te.size)) % te.size]? else cur[k]? := fun k => by
    simp only [List.getElem?_toArray]
    by_cases c1 : k < o + lo * te.size
    · rw [List.append_assoc, List.getElem?_append_left (by simp; omega), List.getElem?_take, if_pos c1, if_neg (by omega)]; simp
    · by_cases c2 : k < o + lo * te.size + n * te.size
      · rw [List.append_assoc, List.getElem?_append_right (by simp; omega), List.getElem?_append_left (by rw [hzlen]; simp only [List.length_take, Array.length_toList]; omega), if_pos (by omega)]
        simp only [List.length_take, Array.length_toList]
        rw [Nat.min_eq_left (by omega), hzg _ (by omega)]
      · rw [List.getElem?_append_right (by simp only [List.length_append, hzlen]; simp; omega), if_neg (by omega), List.getElem?_drop]
        simp only [List.length_append, List.length_take, hzlen, Array.length_toList]
        rw [Nat.min_eq_left (by omega)]
        have : o + lo * te.size + n * te.size + (k - (o + lo * te.size + n * te.size)) = k := by omega
        rw [this]; simp
  obtain ⟨r1, r2⟩ := hr.vwrite hv hval' h4 h6 (cur.toList.take (o + lo * te.size) ++ (Builtin.zeroCells z.cells n).toList ++ cur.toList.drop (o + lo * te.size + (Builtin.zeroCells z.cells n).toList.length)).toArray (clrF f lo n (zcs te.zero)) (by simp only [List.size_toArray, List.length_append, List.length_take, List.length_drop, hzlen, Array.length_toList]; omega)
    (fun k u hk hu => by
      rw [hget] at hu
      split at hu
      · exact (hzc _ _ hu).1
      · exact h7 k u hk hu)
    (fun i' j u hi' hj hu => by
      rw [hget] at hu
      simp only [clrF]
      have m1 : ∀ a b : Nat, a < b → a * te.size + te.size ≤ b * te.size := fun a b hab => by
        have := Nat.mul_le_mul_right te.size (Nat.succ_le_of_lt hab)
        rwa [Nat.succ_mul] at this
      by_cases c : lo ≤ i' ∧ i' < lo + n
      · have q1 := Nat.mul_le_mul_right te.size c.1
        have q2 := m1 _ _ c.2
        rw [Nat.add_mul] at q2
        rw [if_pos c]
        rw [if_pos (by omega)] at hu
        have e : (o + (i' * te.size + j) - (o + lo * te.size)) % te.size = j := by
          have : o + (i' * te.size + j) - (o + lo * te.size) = j + te.size * (i' - lo) := by
            rw [Nat.mul_comm te.size, Nat.sub_mul]; omega
          rw [this, Nat.add_mul_mod_self_left, Nat.mod_eq_of_lt hj]
        rw [e] at hu
        rw [nth_eq]
        have hjl : j < (zcs te.zero).length := by rw [zl]; simp; omega
        have := zd j (zcs te.zero)[j] u (List.getElem?_eq_getElem hjl) (by simpa using hu)
        simpa [List.getD, List.getElem?_eq_getElem hjl] using this
      · rw [if_neg c]
        rw [if_neg ?_] at hu
        · exact h8 i' j u hi' hj hu
        · rintro ⟨c1, c2⟩
          apply c
          constructor
          · rcases Nat.lt_or_ge i' lo with hh | hh
            · have := m1 _ _ hh; omega
            · exact hh
          · rcases Nat.lt_or_ge i' (lo + n) with hh | hh
            · exact hh
            · have := Nat.mul_le_mul_right te.size hh
              rw [Nat.add_mul] at this
              omega)
  exact ⟨g, o, _, rfl, hst, r1, r2⟩
theorem clrF_0 (f : Nat → Nat → SV) (lo : Nat) (z : List SV) : clrF f lo 0 z = f := by
  funext i j
  simp only [clrF]
  rw [if_neg (by omega)]
theorem rClear_ok {P : Program} {E : Env} {h : HS} {w : World} (hr : RelH E h w) {t e : TypeId} {te : TI} (ht : P.underlying t = some (.slice e)) (hE : TIOk P e te) (tr : TypeId) {x : SV} {v : Value} (hx : Den E w x v) :
    ResOk P E h w ((Builtin.clear_ #[t] tr #[v] >>= fun v => pure (Next.value v)).run P w) (rClear te x h) := by
  obtain ⟨i, z, hi, hsz, hby, hz, hzs, hzl, hzc⟩ := hE.info
  have dtup : ∀ {E : Env} {w : World}, Den E w (.tup []) (.tuple #[]) := .tup #[] rfl (fun i x u hx => by simp at hx)
  unfold rClear
  split
  · rename_i id ver
    unfold clrW
    split
    · rename_i ver' ty sz N f hv
      rintro ⟨rfl, rfl⟩
      obtain ⟨hz', ⟨a0, cap0, k1, k2⟩, k3⟩ := hr.vec _ _ _ _ _ _ hv
      cases hx
      rename_i a n' cap hid hval
      have hval' := hval
      rw [k1] at hval
      simp only [Option.some.injEq, Prod.mk.injEq] at hval
      obtain ⟨rfl, rfl, rfl⟩ := hval
      rcases Nat.eq_zero_or_pos N with h0 | h0
      · subst h0
        refine ⟨_, w, E, ?_, dtup, by rw [clrF_0, setV_same hv]; exact hr, Ext.refl E w⟩
        cases a0 <;> simp [Builtin.clear_, run_underlying ht]
      · obtain ⟨g, o, w', rfl, q1, q2, q3⟩ := clr_core hr hE hv hval' (lo := 0) (n := N) (by omega) h0 hi hz
        refine ⟨_, w', E, ?_, dtup, q2, q3⟩
        have hN : N ≠ 0 := by omega
        simp only [Nat.zero_mul, Nat.add_zero] at q1
        simp [Builtin.clear_, run_underlying ht, hN, zeroValue, typeInfo, hi, hz, q1]
    · trivial
  · rename_i id ver sz lo n x1
    unfold clrV
    split
    · rename_i ver' ty sz' N f hv
      rintro ⟨rfl, rfl, rfl⟩
      obtain ⟨hz', ⟨a0, cap0, k1, k2⟩, k3⟩ := hr.vec _ _ _ _ _ _ hv
      obtain ⟨a, a1, n', cap, rfl, hid, hval, hn, hc, ha, h00, hA, hB⟩ := hx.vcut_inv
      have hval' := hval
      rw [k1] at hval
      simp only [Option.some.injEq, Prod.mk.injEq] at hval
      obtain ⟨rfl, rfl, rfl⟩ := hval
      rcases Nat.eq_zero_or_pos n with h0 | h0
      · subst h0
        refine ⟨_, w, E, ?_, dtup, by rw [clrF_0, setV_same hv]; exact hr, Ext.refl E w⟩
        cases a1 <;> simp [Builtin.clear_, run_underlying ht]
      · obtain ⟨g, o, w', rfl, q1, q2, q3⟩ := clr_core hr hE hv hval' hn h0 hi hz
        refine ⟨_, w', E, ?_, dtup, q2, q3⟩
        have hN : n ≠ 0 := by omega
        have ha' := ha (by cases x1 <;> simp <;> omega)
        simp only [Option.map_some, Addr.add_lit] at ha'
        subst ha'
        simp [Builtin.clear_, run_underlying ht, hN, zeroValue, typeInfo, hi, hz, q1]
    · trivial
  · trivial

/-- A slice that is made with n zero elements. -/
def rMake (e : TypeId) (te : TI) (l c : SV) (h : HS) : Res :=
  match l, c with
  | .int _ l, .int _ c => .val ((l = c ∨ l ≤ c) ∧ 0 < te.size ∧ 0 ≤ l ∧ (te.bytes : Int) * c ≤ 281474976710656 ∧ c ≤ 9223372036854775807) (.vec (lenV h.vecs) 0) { h with vecs := snocV h.vecs (.live 0 e te.size l.toNat (fun _ j => nth (zcs te.zero) j)) }
  | _, _ => .bad
theorem rMake_ok {P : Program} {E : Env} {h : HS} {w : World} (hr : RelH E h w) {t e : TypeId} {te : TI} (ht : P.underlying t = some (.slice e)) (hE : TIOk P e te) {l c : SV} {vl vc : Value} (hl : Den E w l vl) (hc : Den E w c vc) :
    ResOk P E h w ((Instr.makeSlice t vl vc >>= fun v => pure (Next.value v)).run P w) (rMake e te l c h) := by
  obtain ⟨i, z, hi, hsz, hby, hz, hzs, hzl, hzc⟩ := hE.info
  unfold rMake
  split
  · rename_i k1 l k2 c
    rintro ⟨hlc, hs0, p1, p2, p3⟩
    have hlc : l ≤ c := by omega
    cases hl
    cases hc
    have hrun := run_make (P := P) w t e i z ht hi hz k1 k2 l c p1 hlc (by rw [hby]; exact p2) p3
    obtain ⟨zl, zd⟩ := zcs_ok (E := E) (w := w) te.zero z.cells.toList (by simp [hzs, hzl]) (fun k u hu => (hzc k u (by simpa using hu)).2)
    have hold : ∀ b, b < w.heap.size → (w.alloc (.cells (madeCells z.cells (c.toNat * i.size)) e)).heap[b]? = w.heap[b]? := fun b hb => Below.heap_alloc w _ b hb
    have hx : Ext E w E (w.alloc (.cells (madeCells z.cells (c.toNat * i.size)) e)) := ext_of_grow hr.own rfl rfl rfl (by simp) hold
    have hzg : ∀ k, k < c.toNat * te.size → (madeCells z.cells (c.toNat * i.size))[k]? = z.cells[k % te.size]? := fun k hk => by
      have hm := Nat.mod_lt k (show 0 < z.cells.size by omega)
      rw [hzs] at hm
      have hm' : k % te.size < z.cells.size := by omega
      simp [madeCells, hsz, hk, hzs, Array.getElem?_eq_getElem hm', getElem!_pos z.cells (k % te.size) hm']
    obtain ⟨r1, r2⟩ := hr.adopt hx hold (g := w.heap.size) (n := l.toNat) (cap := c.toNat) (ty := e) (sz := te.size) hs0 (f := fun _ j => nth (zcs te.zero) j) (cur := madeCells z.cells (c.toNat * i.size)) (Nat.le_refl _) (by simp) (by omega) (by simp only [maxLen]; omega)
      (heap_alloc_new w _) (by rw [size_madeCells, hsz]; exact Nat.le_refl _)
      (fun k u hk hu => by rw [hzg k (Nat.lt_of_lt_of_le hk (Nat.mul_le_mul_right _ (by omega)))] at hu; exact (hzc _ _ hu).1)
      (fun a j u ha hj hu => by
        have := idx_lt ha hj
        rw [hzg _ (Nat.lt_of_lt_of_le this (Nat.mul_le_mul_right _ (by omega)))] at hu
        rw [Nat.add_comm, Nat.add_mul_mod_self_right, Nat.mod_eq_of_lt hj] at hu
        rw [nth_eq]
        obtain ⟨zl', zd'⟩ := zcs_ok (E := E.adopt w.heap.size l.toNat c.toNat) (w := w.alloc (.cells (madeCells z.cells (c.toNat * i.size)) e)) te.zero z.cells.toList (by simp [hzs, hzl]) (fun k u hu => (hzc k u (by simpa using hu)).2)
        have hjl : j < (zcs te.zero).length := by rw [zl]; simp; omega
        have := zd' j (zcs te.zero)[j] u (List.getElem?_eq_getElem hjl) (by simpa using hu)
        simpa [List.getD, List.getElem?_eq_getElem hjl] using this)
    refine ⟨.slice (some ⟨w.heap.size, 0, none⟩) l.toNat c.toNat, _, _, by simp [hrun], .vec (a := some ⟨w.heap.size, 0, none⟩) (n := l.toNat) (cap := c.toNat) ?_ ?_, r1, r2⟩
    · simp only [Env.adopt, hr.nv]; omega
    · simp [Env.adopt, hr.nv]
  · trivial
end Go.Eng
end
