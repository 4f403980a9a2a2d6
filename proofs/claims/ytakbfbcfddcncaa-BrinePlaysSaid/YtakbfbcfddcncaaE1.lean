/-
  A part of the symbolic machine, of its soundness, and of what functions compute. No condition.
-/
import Derived.AtR
import Derived.Below
import Derived.DataElems
import Derived.Laws.Cells
import Derived.Laws.CopyRow
import Derived.Laws.Entries
import Derived.Laws.Rows
import Derived.OrdersIn
import Derived.Laws.AppendOwn
import Derived.Laws.Append
import Derived.Laws.Tables
import Derived.Laws.StructEq
import Derived.ChangeKeysEq
set_option linter.unusedSimpArgs false
set_option linter.unusedVariables false
/- Symbolic values, a symbolic heap, and what they say of the machine's values and memory. No program in sight. -/
section
namespace Go.Eng
open Go.RowKit

/-- A symbolic value: its leaves (numbers, bools, functions of an index) are any terms. -/
inductive SV where
  | any
  | int (k : IntKind) (n : Int)
  | bool (b : Bool)
  | str (s : ByteArray)
  | ptr (nm off : Nat)
  | nilp
  /-- A nil slice. -/
  | nils (e sz : Nat)
  | rptr (sz : Nat) (f : Nat → SV)
  | row (n sz : Nat) (f : Nat → Nat → SV)
  | vec (id ver : Nat)
  | vptr (id ver sz i off : Nat)
  /-- A part of an own slice, from lo on, n elements; x: its room ends with it. -/
  | vcut (id ver sz lo n : Nat) (x : Bool)
  /-- A slice of an own block's cells. -/
  | bsl (nm off n : Nat)
  /-- An own map. -/
  | mapp (nm : Nat)
  | func (g : Nat) (caps : List SV)
  | nilf
  | iface (t : TypeId) (v : SV)
  | nili
  | agg (l : List SV)
  | tup (l : List SV)
  | yield (nm : Nat)
  | meth (g : Nat) (first : List SV)

instance : Inhabited SV := ⟨.any⟩

def nth : List SV → Nat → SV
  | [], _ => .any
  | x :: _, 0 => x
  | _ :: l, n + 1 => nth l n
def upd : List SV → Nat → SV → List SV
  | [], _, _ => []
  | _ :: l, 0, v => v :: l
  | x :: l, n + 1, v => x :: upd l n v
def takeN : Nat → List SV → List SV
  | 0, _ => []
  | _ + 1, [] => []
  | n + 1, x :: l => x :: takeN n l
def dropN : Nat → List SV → List SV
  | 0, l => l
  | _ + 1, [] => []
  | n + 1, _ :: l => dropN n l
/-- Writing ys over l from place n on. -/
def over : List SV → Nat → List SV → List SV
  | l, _, [] => l
  | l, n, y :: ys => over (upd l n y) (n + 1) ys

theorem nth_eq (l : List SV) (i : Nat) : nth l i = l.getD i .any := by
  induction l generalizing i with
  | nil => simp [nth]
  | cons x l ih => cases i <;> simp [nth, ih]
theorem upd_eq (l : List SV) (i : Nat) (v : SV) : upd l i v = l.set i v := by
  induction l generalizing i with
  | nil => simp [upd]
  | cons x l ih => cases i <;> simp [upd, ih]
theorem takeN_eq (n : Nat) (l : List SV) : takeN n l = l.take n := by
  induction l generalizing n with
  | nil => cases n <;> simp [takeN]
  | cons x l ih => cases n <;> simp [takeN, ih]
theorem dropN_eq (n : Nat) (l : List SV) : dropN n l = l.drop n := by
  induction l generalizing n with
  | nil => cases n <;> simp [dropN]
  | cons x l ih => cases n <;> simp [dropN, ih]

inductive Tag where
  | blk (nm : Nat)
  | vec (id : Nat)
  | other

/-- The ghost: which block bears which name; what each version of an own slice is; which blocks are owned. -/
structure Env where
  nb : Nat
  rho : Nat → Nat
  nv : Nat
  val : Nat → Nat → Option (Option Addr × Nat × Nat)
  own : Nat → Option Tag

inductive Den (E : Env) (w : World) : SV → Value → Prop
  | any (v : Value) : Den E w .any v
  | int (k : IntKind) (n : Int) : Den E w (.int k n) (.int k n)
  | bool (b : Bool) : Den E w (.bool b) (.bool b)
  | str (s : ByteArray) : Den E w (.str s) (.string s)
  | ptr {nm off : Nat} (h : nm < E.nb) : Den E w (.ptr nm off) (.pointer (some ⟨E.rho nm, off, none⟩))
  | nilp : Den E w .nilp (.pointer none)
  | nils {e sz : Nat} (h : 0 < sz) : Den E w (.nils e sz) (.slice none 0 0)
  | rptr {sz : Nat} {f : Nat → SV} (A : Addr) (g : Nat → Value) (hA : A.block < w.heap.size) (ho : E.own A.block = none)
      (hc : ∀ j, j < sz → w.cell? (A.add j) = some (g j)) (h1 : ∀ j, j < sz → (g j).oneCell' = true) (hd : ∀ j, j < sz → Den E w (f j) (g j)) : Den E w (.rptr sz f) (.pointer (some A))
  | row {n sz : Nat} {f : Nat → Nat → SV} (A : Addr) (cap : Nat) (g : Nat → Nat → Value) (hA : A.block < w.heap.size) (ho : E.own A.block = none) (hn : n ≤ cap)
      (hc : ∀ i j, i < n → j < sz → w.cell? (A.add (i * sz + j)) = some (g i j)) (h1 : ∀ i j, i < n → j < sz → (g i j).oneCell' = true) (hd : ∀ i j, i < n → j < sz → Den E w (f i j) (g i j)) : Den E w (.row n sz f) (.slice (some A) n cap)
  | rowZ {sz : Nat} {f : Nat → Nat → SV} (a : Option Addr) (cap : Nat) : Den E w (.row 0 sz f) (.slice a 0 cap)
  | vec {id ver : Nat} {a : Option Addr} {n cap : Nat} (hi : id < E.nv) (h : E.val id ver = some (a, n, cap)) : Den E w (.vec id ver) (.slice a n cap)
  | vptr {id ver sz i off b o n cap : Nat} (hi : id < E.nv) (h : E.val id ver = some (some ⟨b, o, none⟩, n, cap)) : Den E w (.vptr id ver sz i off) (.pointer (some ⟨b, o + (i * sz + off), none⟩))
  | vcut {id ver sz lo n : Nat} {x : Bool} {a a' : Option Addr} {N cap : Nat} (hi : id < E.nv) (h : E.val id ver = some (a, N, cap)) (hn : lo + n ≤ N) (hc : N ≤ cap) (ha : (if x then lo + n else cap) ≠ lo → a' = a.map (·.add (lo * sz))) (h0 : lo = 0 → a' = a) (hA : ∀ A, a = some A → ∃ b o, A = ⟨b, o, none⟩) (hB : ∀ A, a' = some A → ∃ b o, A = ⟨b, o, none⟩) :
      Den E w (.vcut id ver sz lo n x) (.slice a' n ((if x then lo + n else cap) - lo))
  | bsl {nm off n cap : Nat} (h : nm < E.nb) (hn : n ≤ cap) : Den E w (.bsl nm off n) (.slice (some ⟨E.rho nm, off, none⟩) n cap)
  | mapp {nm : Nat} (h : nm < E.nb) : Den E w (.mapp nm) (.map (some (E.rho nm)))
  | func {g : Nat} {caps : List SV} (vs : Array Value) (hs : vs.size = caps.length) (hd : ∀ (i : Nat) (x : SV) (u : Value), caps[i]? = some x → vs[i]? = some u → Den E w x u) : Den E w (.func g caps) (.func (.func g) #[] vs)
  | meth {g : Nat} {first : List SV} (vs : Array Value) (hs : vs.size = first.length) (hd : ∀ (i : Nat) (x : SV) (u : Value), first[i]? = some x → vs[i]? = some u → Den E w x u) : Den E w (.meth g first) (.func (.func g) vs #[])
  | nilf : Den E w .nilf .nilFunc
  | iface {t : TypeId} {x : SV} {v : Value} (h : Den E w x v) : Den E w (.iface t x) (.iface t v)
  | nili : Den E w .nili .nilIface
  | agg {l : List SV} (vs : Array Value) (hs : vs.size = l.length) (h1 : ∀ (i : Nat) (u : Value), vs[i]? = some u → u.oneCell' = true) (hd : ∀ (i : Nat) (x : SV) (u : Value), l[i]? = some x → vs[i]? = some u → Den E w x u) : Den E w (.agg l) (.agg vs)
  | tup {l : List SV} (vs : Array Value) (hs : vs.size = l.length) (hd : ∀ (i : Nat) (x : SV) (u : Value), l[i]? = some x → vs[i]? = some u → Den E w x u) : Den E w (.tup l) (.tuple vs)
  | yield {nm : Nat} (h : nm < E.nb) : Den E w (.yield nm) (.func (.yield (E.rho nm)) #[] #[])

theorem Den.vcut_inv {E : Env} {w : World} {id ver sz lo n : Nat} {x : Bool} {v : Value} (h : Den E w (.vcut id ver sz lo n x) v) : ∃ a a' N cap, v = .slice a' n ((if x then lo + n else cap) - lo) ∧ id < E.nv ∧ E.val id ver = some (a, N, cap) ∧ lo + n ≤ N ∧ N ≤ cap ∧
    ((if x then lo + n else cap) ≠ lo → a' = a.map (·.add (lo * sz))) ∧ (lo = 0 → a' = a) ∧ (∀ A, a = some A → ∃ b o, A = ⟨b, o, none⟩) ∧ ∀ A, a' = some A → ∃ b o, A = ⟨b, o, none⟩ := by
  cases h with
  | vcut hi hv hn hc ha h0 hA hB => exact ⟨_, _, _, _, rfl, hi, hv, hn, hc, ha, h0, hA, hB⟩
/-- A list of symbolic values and an array of values. -/
def DenA (E : Env) (w : World) (l : List SV) (vs : Array Value) : Prop :=
  vs.size = l.length ∧ ∀ (i : Nat) (x : SV) (u : Value), l[i]? = some x → vs[i]? = some u → Den E w x u

/-- From one world to a later one: the streams stay; names and versions keep what they bear; what is not owned is not touched. -/
structure Ext (E : Env) (w : World) (E' : Env) (w' : World) : Prop where
  os : w'.os = w.os
  tape : w'.tape = w.tape
  output : w'.output = w.output
  size : w.heap.size ≤ w'.heap.size
  nb : E.nb ≤ E'.nb
  nv : E.nv ≤ E'.nv
  rho : ∀ nm, nm < E.nb → E'.rho nm = E.rho nm
  val : ∀ id ver x, id < E.nv → E.val id ver = some x → E'.val id ver = some x
  keep : ∀ b, b < w.heap.size → E.own b = none → E'.own b = none ∧ w'.heap[b]? = w.heap[b]?
  oth : ∀ b, E.own b = some .other → E'.own b = some .other ∧ w'.heap[b]? = w.heap[b]?

theorem Ext.refl (E : Env) (w : World) : Ext E w E w :=
  ⟨rfl, rfl, rfl, Nat.le_refl _, Nat.le_refl _, Nat.le_refl _, fun _ _ => rfl, fun _ _ _ _ h => h, fun _ _ h => ⟨h, rfl⟩, fun _ h => ⟨h, rfl⟩⟩
theorem Ext.trans {E E' E'' : Env} {w w' w'' : World} (h : Ext E w E' w') (k : Ext E' w' E'' w'') : Ext E w E'' w'' :=
  ⟨k.os.trans h.os, k.tape.trans h.tape, k.output.trans h.output, Nat.le_trans h.size k.size, Nat.le_trans h.nb k.nb, Nat.le_trans h.nv k.nv,
   fun nm hn => (k.rho nm (Nat.lt_of_lt_of_le hn h.nb)).trans (h.rho nm hn),
   fun id ver x hi hv => k.val id ver x (Nat.lt_of_lt_of_le hi h.nv) (h.val id ver x hi hv),
   fun b hb ho => let ⟨h1, h2⟩ := h.keep b hb ho; let ⟨k1, k2⟩ := k.keep b (Nat.lt_of_lt_of_le hb h.size) h1; ⟨k1, k2.trans h2⟩,
   fun b ho => let ⟨h1, h2⟩ := h.oth b ho; let ⟨k1, k2⟩ := k.oth b h1; ⟨k1, k2.trans h2⟩⟩

theorem block_of_cell {w : World} {a : Addr} {v : Value} (h : w.cell? a = some v) : a.block < w.heap.size := by
  unfold World.cell? at h
  cases ho : w.heap[a.block]? with
  | none => simp [ho] at h
  | some o => exact (Array.getElem?_eq_some_iff.1 ho).1
theorem add_block (A : Addr) (k : Nat) : (A.add k).block = A.block := by unfold Addr.add; split <;> rfl
theorem Ext.cell {E E' : Env} {w w' : World} (h : Ext E w E' w') {a : Addr} {v : Value} (ho : E.own a.block = none) (hc : w.cell? a = some v) : w'.cell? a = some v :=
  (World.cell?_of_block (h.keep _ (block_of_cell hc) ho).2).trans hc

theorem Den.ext {E E' : Env} {w w' : World} (h : Ext E w E' w') {x : SV} {v : Value} (hd : Den E w x v) : Den E' w' x v := by
  induction hd with
  | any v => exact .any v
  | int k n => exact .int k n
  | bool b => exact .bool b
  | str s => exact .str s
  | @ptr nm off hn => rw [← h.rho nm hn]; exact .ptr (Nat.lt_of_lt_of_le hn h.nb)
  | nilp => exact .nilp
  | nils h => exact .nils h
  | @rptr sz f A g hA ho hc h1 hd ih => exact .rptr A g (Nat.lt_of_lt_of_le hA h.size) (h.keep _ hA ho).1 (fun j hj => h.cell (by rw [add_block]; exact ho) (hc j hj)) h1 ih
  | @row n sz f A cap g hA ho hn hc h1 hd ih => exact .row A cap g (Nat.lt_of_lt_of_le hA h.size) (h.keep _ hA ho).1 hn (fun i j hi hj => h.cell (by rw [add_block]; exact ho) (hc i j hi hj)) h1 ih
  | rowZ a cap => exact .rowZ a cap
  | vec hi hv => exact .vec (Nat.lt_of_lt_of_le hi h.nv) (h.val _ _ _ hi hv)
  | vptr hi hv => exact .vptr (Nat.lt_of_lt_of_le hi h.nv) (h.val _ _ _ hi hv)
  | vcut hi hv hn hc ha h0 hA hB => exact .vcut (Nat.lt_of_lt_of_le hi h.nv) (h.val _ _ _ hi hv) hn hc ha h0 hA hB
  | @bsl nm off n cap hb hn => rw [← h.rho nm hb]; exact .bsl (Nat.lt_of_lt_of_le hb h.nb) hn
  | @mapp nm hb => rw [← h.rho nm hb]; exact .mapp (Nat.lt_of_lt_of_le hb h.nb)
  | func vs hs hd ih => exact .func vs hs ih
  | meth vs hs hd ih => exact .meth vs hs ih
  | nilf => exact .nilf
  | iface _ ih => exact .iface ih
  | nili => exact .nili
  | agg vs hs h1 hd ih => exact .agg vs hs h1 ih
  | tup vs hs hd ih => exact .tup vs hs ih
  | @yield nm hn => rw [← h.rho nm hn]; exact .yield (Nat.lt_of_lt_of_le hn h.nb)
end Go.Eng
end

/- The symbolic heap: own blocks by name, own slices by number and version. -/
section
namespace Go.Eng
open Go.RowKit

/-- A cell that is told by a number. -/
inductive LK where
  | i | b
deriving DecidableEq
def cellN : LK → Int → Value
  | .i, x => .int .i64 x
  | .b, x => .bool (decide (x ≠ 0))
def cellsN : List LK → List Int → List Value
  | [], _ => []
  | k :: ks, [] => cellN k 0 :: cellsN ks []
  | k :: ks, x :: l => cellN k x :: cellsN ks l
/-- A value of one cell, or of several. -/
def valN (agg : Bool) (ks : List LK) (l : List Int) : Value := if agg then .agg (cellsN ks l).toArray else (cellsN ks l).headD undef
/-- A map from numbers to numbers: its entries, in the order in which they lie. -/
structure MapS where
  kty : TypeId
  vty : TypeId
  ka : Bool
  ks : List LK
  va : Bool
  vs : List LK
  es : List (List Int × List Int)
  /-- An iterator over a map: which, how many entries it had, which of them were handed out. -/
  it : Option (Nat × Nat × List Nat) := none
inductive Blk where
  | mp (m : MapS)
  | live (ty : TypeId) (cells : List SV)
  | dead
  | loop (st : LoopState) (pend : Option Code) (fid : Nat) (t : List SV) (params : Array Nat) (assign body : Code)
inductive Vc where
  | live (ver : Nat) (ty : TypeId) (sz n : Nat) (f : Nat → Nat → SV)
  | dead
structure HS where
  blks : List Blk
  vecs : List Vc

def getB : List Blk → Nat → Blk
  | [], _ => .dead
  | x :: _, 0 => x
  | _ :: l, n + 1 => getB l n
def setB : List Blk → Nat → Blk → List Blk
  | [], _, _ => []
  | _ :: l, 0, v => v :: l
  | x :: l, n + 1, v => x :: setB l n v
def snocB : List Blk → Blk → List Blk
  | [], v => [v]
  | x :: l, v => x :: snocB l v
def lenB : List Blk → Nat
  | [] => 0
  | _ :: l => lenB l + 1
def getV : List Vc → Nat → Vc
  | [], _ => .dead
  | x :: _, 0 => x
  | _ :: l, n + 1 => getV l n
def setV : List Vc → Nat → Vc → List Vc
  | [], _, _ => []
  | _ :: l, 0, v => v :: l
  | x :: l, n + 1, v => x :: setV l n v
def snocV : List Vc → Vc → List Vc
  | [], v => [v]
  | x :: l, v => x :: snocV l v
def lenV : List Vc → Nat
  | [] => 0
  | _ :: l => lenV l + 1

theorem getB_lt : ∀ {l : List Blk} {n : Nat} {ty cells}, getB l n = .live ty cells → n < lenB l
  | [], _, _, _, h => by simp [getB] at h
  | _ :: _, 0, _, _, _ => by simp [lenB]
  | _ :: l, n + 1, _, _, h => by have := getB_lt (l := l) (n := n) h; simp [lenB]; omega
theorem getB_ltL : ∀ {l : List Blk} {n : Nat} {a b c d e f g}, getB l n = .loop a b c d e f g → n < lenB l
  | [], _, _, _, _, _, _, _, _, h => by simp [getB] at h
  | _ :: _, 0, _, _, _, _, _, _, _, _ => by simp [lenB]
  | _ :: l, n + 1, _, _, _, _, _, _, _, h => by have := getB_ltL (l := l) (n := n) h; simp [lenB]; omega
theorem getB_ltM : ∀ {l : List Blk} {n : Nat} {m}, getB l n = .mp m → n < lenB l
  | [], _, _, h => by simp [getB] at h
  | _ :: _, 0, _, _ => by simp [lenB]
  | _ :: l, n + 1, _, h => by have := getB_ltM (l := l) (n := n) h; simp [lenB]; omega
theorem getV_lt : ∀ {l : List Vc} {n : Nat} {a b c d e}, getV l n = .live a b c d e → n < lenV l
  | [], _, _, _, _, _, _, h => by simp [getV] at h
  | _ :: _, 0, _, _, _, _, _, _ => by simp [lenV]
  | _ :: l, n + 1, _, _, _, _, _, h => by have := getV_lt (l := l) (n := n) h; simp [lenV]; omega
theorem getB_snoc : ∀ (l : List Blk) (v : Blk) (n : Nat), getB (snocB l v) n = if n = lenB l then v else getB l n
  | [], v, 0 => by simp [snocB, getB, lenB]
  | [], v, n + 1 => by simp [snocB, getB, lenB]
  | x :: l, v, 0 => by simp [snocB, getB, lenB]
  | x :: l, v, n + 1 => by simp [snocB, getB, lenB, getB_snoc l v n]
theorem lenB_snoc : ∀ (l : List Blk) (v : Blk), lenB (snocB l v) = lenB l + 1
  | [], _ => rfl
  | _ :: l, v => by simp [snocB, lenB, lenB_snoc l v]
theorem getB_set : ∀ (l : List Blk) (m : Nat) (v : Blk) (n : Nat), getB (setB l m v) n = if n = m ∧ m < lenB l then v else getB l n
  | [], m, v, n => by simp [setB, getB, lenB]
  | x :: l, 0, v, 0 => by simp [setB, getB, lenB]
  | x :: l, 0, v, n + 1 => by simp [setB, getB]
  | x :: l, m + 1, v, 0 => by simp [setB, getB]
  | x :: l, m + 1, v, n + 1 => by simp [setB, getB, lenB, getB_set l m v n]
theorem lenB_set : ∀ (l : List Blk) (m : Nat) (v : Blk), lenB (setB l m v) = lenB l
  | [], _, _ => rfl
  | _ :: _, 0, _ => rfl
  | _ :: l, m + 1, v => by simp [setB, lenB, lenB_set l m v]
theorem getV_snoc : ∀ (l : List Vc) (v : Vc) (n : Nat), getV (snocV l v) n = if n = lenV l then v else getV l n
  | [], v, 0 => by simp [snocV, getV, lenV]
  | [], v, n + 1 => by simp [snocV, getV, lenV]
  | x :: l, v, 0 => by simp [snocV, getV, lenV]
  | x :: l, v, n + 1 => by simp [snocV, getV, lenV, getV_snoc l v n]
theorem lenV_snoc : ∀ (l : List Vc) (v : Vc), lenV (snocV l v) = lenV l + 1
  | [], _ => rfl
  | _ :: l, v => by simp [snocV, lenV, lenV_snoc l v]
theorem getV_set : ∀ (l : List Vc) (m : Nat) (v : Vc) (n : Nat), getV (setV l m v) n = if n = m ∧ m < lenV l then v else getV l n
  | [], m, v, n => by simp [setV, getV, lenV]
  | x :: l, 0, v, 0 => by simp [setV, getV, lenV]
  | x :: l, 0, v, n + 1 => by simp [setV, getV]
  | x :: l, m + 1, v, 0 => by simp [setV, getV]
  | x :: l, m + 1, v, n + 1 => by simp [setV, getV, lenV, getV_set l m v n]
theorem lenV_set : ∀ (l : List Vc) (m : Nat) (v : Vc), lenV (setV l m v) = lenV l
  | [], _, _ => rfl
  | _ :: _, 0, _ => rfl
  | _ :: l, m + 1, v => by simp [setV, lenV, lenV_set l m v]

theorem DenA.ext {E E' : Env} {w w' : World} (h : Ext E w E' w') {l : List SV} {vs : Array Value} (hd : DenA E w l vs) : DenA E' w' l vs :=
  ⟨hd.1, fun i x u hx hu => (hd.2 i x u hx hu).ext h⟩
theorem DenA.nth {E : Env} {w : World} {l : List SV} {vs : Array Value} (hd : DenA E w l vs) (i : Nat) : Den E w (nth l i) (vs.getD i undef) := by
  rw [nth_eq]
  by_cases h : i < l.length
  · have hv : i < vs.size := by rw [hd.1]; exact h
    have := hd.2 i l[i] vs[i] (List.getElem?_eq_getElem h) (Array.getElem?_eq_getElem hv)
    simpa [List.getD, List.getElem?_eq_getElem h, Array.getD, hv] using this
  · have : l[i]? = none := List.getElem?_eq_none (by omega)
    simp only [List.getD, this, Option.getD_none]
    exact .any _
theorem DenA.set {E : Env} {w : World} {l : List SV} {vs : Array Value} (hd : DenA E w l vs) (i : Nat) {x : SV} {v : Value} (hx : Den E w x v) : DenA E w (upd l i x) (vs.setIfInBounds i v) := by
  refine ⟨by simp [upd_eq, hd.1], fun j y u hy hu => ?_⟩
  rw [upd_eq, List.getElem?_set] at hy
  rw [Array.getElem?_setIfInBounds] at hu
  by_cases e : i = j
  · subst e
    simp only [if_true] at hy hu
    split at hy
    · simp only [Option.some.injEq] at hy
      subst hy
      split at hu
      · simp only [Option.some.injEq] at hu; subst hu; exact hx
      · cases hu
    · cases hy
  · simp only [e, if_false] at hy hu
    exact hd.2 j y u hy hu

/-- What an own slice is in memory. -/
def VecAt (E : Env) (w : World) (id : Nat) (ty : TypeId) (sz n : Nat) (f : Nat → Nat → SV) (a : Option Addr) (cap : Nat) : Prop :=
  ((∀ A, a = some A → ∃ b o, A = ⟨b, o, none⟩) ∧ n = 0 ∧ cap = 0) ∨
  ∃ g o cur, a = some ⟨g, o, none⟩ ∧ n ≤ cap ∧ cap ≤ maxLen ∧ w.heap[g]? = some (.cells cur ty (0, 0)) ∧ o + cap * sz ≤ cur.size ∧ E.own g = some (.vec id) ∧
    (∀ (k : Nat) (u : Value), k < n * sz → cur[o + k]? = some u → u.oneCell' = true) ∧ ∀ i j u, i < n → j < sz → cur[o + (i * sz + j)]? = some u → Den E w (f i j) u

/-- What the record of a range over a function is in memory. -/
def LpAt (E : Env) (w : World) (nm : Nat) (st : LoopState) (pend : Option Code) (fid : Nat) (t : List SV) (params : Array Nat) (assign body : Code) : Prop :=
  ∃ tmps db, w.heap[E.rho nm]? = some (.loop { state := st, pending := pend, fn := fid, tmps, params, assign, body, defers := db }) ∧ DenA E w t tmps ∧ E.own (E.rho nm) = some (.blk nm)
theorem LpAt.ext {E E' : Env} {w w' : World} (h : Ext E w E' w') {nm : Nat} {st pend fid t params assign body} (hl : LpAt E w nm st pend fid t params assign body)
    (hk : E.own (E.rho nm) = some (.blk nm) → E'.rho nm = E.rho nm ∧ w'.heap[E.rho nm]? = w.heap[E.rho nm]? ∧ E'.own (E.rho nm) = E.own (E.rho nm)) : LpAt E' w' nm st pend fid t params assign body := by
  obtain ⟨tmps, db, h1, h2, h3⟩ := hl
  obtain ⟨k1, k2, k3⟩ := hk h3
  exact ⟨tmps, db, by rw [k1, k2]; exact h1, h2.ext h, by rw [k1, k3]; exact h3⟩

/-- What a map is in memory. -/
def MpIn (w : World) (b : Nat) (m : MapS) : Prop :=
  ∃ es, w.heap[b]? = some (.map es es.size) ∧ es.size = m.es.length ∧
    (∀ (i : Nat) (e : MapEntry) (k v : List Int), es[i]? = some e → m.es[i]? = some (k, v) → e.key = valN m.ka m.ks k ∧ e.val = valN m.va m.vs v ∧ k.length = m.ks.length ∧ v.length = m.vs.length) ∧
    ∀ (i : Nat) (e : MapEntry), es[i]? = some e → e.born = i
def MpAt (E : Env) (w : World) (nm : Nat) (m : MapS) : Prop :=
  E.own (E.rho nm) = some (.blk nm) ∧ match m.it with
    | none => MpIn w (E.rho nm) m
    | some (mnm, since, seen) => w.heap[E.rho nm]? = some (.mapIter (some (E.rho mnm)) since seen.reverse.toArray since) ∧ mnm < E.nb
theorem MpAt.ext' {E E' : Env} {w w' : World} {nm : Nat} {m : MapS} (hl : MpAt E w nm m) (hnb : E.nb ≤ E'.nb) (hrho : ∀ n, n < E.nb → E'.rho n = E.rho n)
    (hk : E.own (E.rho nm) = some (.blk nm) → E'.rho nm = E.rho nm ∧ w'.heap[E.rho nm]? = w.heap[E.rho nm]? ∧ E'.own (E.rho nm) = E.own (E.rho nm)) : MpAt E' w' nm m := by
  obtain ⟨h2, h3⟩ := hl
  obtain ⟨k1, k2, k3⟩ := hk h2
  refine ⟨by rw [k1, k3]; exact h2, ?_⟩
  cases hi : m.it with
  | none =>
    rw [hi] at h3
    obtain ⟨es, a1, a2⟩ := h3
    exact ⟨es, by rw [k1, k2]; exact a1, a2⟩
  | some x =>
    obtain ⟨mnm, since, seen⟩ := x
    rw [hi] at h3
    obtain ⟨a1, a2⟩ := h3
    exact ⟨by rw [k1, k2, hrho _ a2]; exact a1, Nat.lt_of_lt_of_le a2 hnb⟩
theorem MpAt.ext {E E' : Env} {w w' : World} {nm : Nat} {m : MapS} (hl : MpAt E w nm m) (hx : Ext E w E' w')
    (hk : E.own (E.rho nm) = some (.blk nm) → E'.rho nm = E.rho nm ∧ w'.heap[E.rho nm]? = w.heap[E.rho nm]? ∧ E'.own (E.rho nm) = E.own (E.rho nm)) : MpAt E' w' nm m := hl.ext' hx.nb hx.rho hk

structure RelH (E : Env) (h : HS) (w : World) : Prop where
  nb : E.nb = lenB h.blks
  nv : E.nv = lenV h.vecs
  blk : ∀ nm ty cells, getB h.blks nm = .live ty cells → ∃ cs, w.heap[E.rho nm]? = some (.cells cs ty (0, 0)) ∧ DenA E w cells cs ∧
    (∀ (k : Nat) (u : Value), cs[k]? = some u → u.oneCell' = true) ∧ E.own (E.rho nm) = some (.blk nm)
  vec : ∀ id ver ty sz n f, getV h.vecs id = .live ver ty sz n f → 0 < sz ∧ (∃ a cap, E.val id ver = some (a, n, cap) ∧ VecAt E w id ty sz n f a cap) ∧ ∀ v', ver < v' → E.val id v' = none
  own : ∀ b t, E.own b = some t → b < w.heap.size
  lp : ∀ nm st pend fid t params assign body, getB h.blks nm = .loop st pend fid t params assign body → LpAt E w nm st pend fid t params assign body
  mp : ∀ nm m, getB h.blks nm = .mp m → MpAt E w nm m

theorem VecAt.ext {E E' : Env} {w w' : World} (h : Ext E w E' w') {id : Nat} {ty : TypeId} {sz n : Nat} {f : Nat → Nat → SV} {a : Option Addr} {cap : Nat} (hv : VecAt E w id ty sz n f a cap)
    (hk : ∀ g, E.own g = some (.vec id) → w'.heap[g]? = w.heap[g]? ∧ E'.own g = E.own g) : VecAt E' w' id ty sz n f a cap := by
  rcases hv with hv | ⟨g, o, cur, h1, h2, h3, h4, h5, h6, h7, h8⟩
  · exact .inl hv
  · obtain ⟨k1, k2⟩ := hk g h6
    exact .inr ⟨g, o, cur, h1, h2, h3, k1.trans h4, h5, k2.trans h6, h7, fun i j u hi hj hu => (h8 i j u hi hj hu).ext h⟩

/-- A step that changes nothing that is owned, and no names. -/
theorem RelH.quiet {E : Env} {h : HS} {w w' : World} (hr : RelH E h w) (hx : Ext E w E w') (hk : ∀ b, b < w.heap.size → w'.heap[b]? = w.heap[b]?) : RelH E h w' where
  nb := hr.nb
  nv := hr.nv
  blk := fun nm ty cells hb => by
    obtain ⟨cs, h1, h2, h3, h4⟩ := hr.blk nm ty cells hb
    exact ⟨cs, (hk _ (hr.own _ _ h4)).trans h1, h2.ext hx, h3, h4⟩
  vec := fun id ver ty sz n f hv => by
    obtain ⟨h0, ⟨a, cap, h1, h2⟩, h3⟩ := hr.vec id ver ty sz n f hv
    exact ⟨h0, ⟨a, cap, h1, h2.ext hx (fun g hg => ⟨hk g (hr.own _ _ hg), rfl⟩)⟩, h3⟩
  own := fun b t hb => Nat.lt_of_lt_of_le (hr.own b t hb) hx.size
  lp := fun nm st pend fid t params assign body hb => (hr.lp _ _ _ _ _ _ _ _ hb).ext hx (fun ho => ⟨rfl, hk _ (hr.own _ _ ho), rfl⟩)
  mp := fun nm m hb => (hr.mp _ _ hb).ext hx (fun ho => ⟨rfl, hk _ (hr.own _ _ ho), rfl⟩)

theorem ext_of_grow {E : Env} {w w' : World} (hb : ∀ b t, E.own b = some t → b < w.heap.size) (ho : w'.os = w.os) (ht : w'.tape = w.tape) (hu : w'.output = w.output) (hs : w.heap.size ≤ w'.heap.size) (hk : ∀ b, b < w.heap.size → w'.heap[b]? = w.heap[b]?) : Ext E w E w' :=
  ⟨ho, ht, hu, hs, Nat.le_refl _, Nat.le_refl _, fun _ _ => rfl, fun _ _ _ _ h => h, fun b hb h => ⟨h, hk b hb⟩, fun b h => ⟨h, hk b (hb b _ h)⟩⟩

/-- A new own block. -/
def Env.newB (E : Env) (b : Nat) : Env :=
  { E with nb := E.nb + 1, rho := fun nm => if nm = E.nb then b else E.rho nm, own := fun k => if k = b then some (.blk E.nb) else E.own k }

theorem ext_alloc {E : Env} {w : World} (hb : ∀ b t, E.own b = some t → b < w.heap.size) (o : Obj) (x : World) (hx : x = w.alloc o) : Ext E w (E.newB w.heap.size) x := by
  subst hx
  refine ⟨rfl, rfl, rfl, by simp, by simp [Env.newB], Nat.le_refl _, fun nm hn => ?_, fun _ _ _ _ h => h, fun b hb h => ⟨?_, Below.heap_alloc w o b hb⟩, fun b h => ⟨?_, Below.heap_alloc w o b (hb b _ h)⟩⟩
  · simp only [Env.newB]; rw [if_neg (by omega)]
  · simp only [Env.newB]; rw [if_neg (by omega)]; exact h
  · have := hb b _ h; simp only [Env.newB]; rw [if_neg (by omega)]; exact h

theorem RelH.alloc {E : Env} {h : HS} {w : World} (hr : RelH E h w) (ty : TypeId) (cells : List SV) (cs : Array Value) (hd : DenA E w cells cs)
    (h1 : ∀ (k : Nat) (u : Value), cs[k]? = some u → u.oneCell' = true) :
    RelH (E.newB w.heap.size) { h with blks := snocB h.blks (.live ty cells) } (w.alloc (.cells cs ty)) := by
  have hx : Ext E w (E.newB w.heap.size) (w.alloc (.cells cs ty)) := ext_alloc hr.own _ _ rfl
  have hold : ∀ b, b < w.heap.size → (w.alloc (.cells cs ty)).heap[b]? = w.heap[b]? := fun b hb => Below.heap_alloc w _ b hb
  refine ⟨by simp [Env.newB, lenB_snoc, hr.nb], hr.nv, ?_, ?_, ?_, ?_, ?_⟩
  · intro nm ty' cells' hb
    simp only [getB_snoc] at hb
    split at hb
    · rename_i e
      have e' : nm = E.nb := e.trans hr.nb.symm
      cases hb
      refine ⟨cs, ?_, hd.ext hx, h1, ?_⟩
      · simp only [Env.newB, e', if_true]; exact heap_alloc_new w _
      · simp only [Env.newB, e', if_true]
    · rename_i e
      have e' : nm ≠ E.nb := fun e' => e (e'.trans hr.nb)
      obtain ⟨cs', k1, k2, k3, k4⟩ := hr.blk nm ty' cells' hb
      have hlt := hr.own _ _ k4
      refine ⟨cs', ?_, k2.ext hx, k3, ?_⟩
      · simp only [Env.newB, e', if_false]; exact (hold _ hlt).trans k1
      · simp only [Env.newB, e', if_false]; rw [if_neg (by omega)]; exact k4
  · intro id ver ty' sz n f hv
    obtain ⟨h0, ⟨a, cap, k1, k2⟩, k3⟩ := hr.vec id ver ty' sz n f hv
    refine ⟨h0, ⟨a, cap, k1, k2.ext hx (fun g hg => ?_)⟩, k3⟩
    have hlt := hr.own _ _ hg
    exact ⟨hold g hlt, by simp only [Env.newB]; rw [if_neg (by omega)]⟩
  · intro b t hb
    simp only [Env.newB] at hb
    split at hb
    · rename_i e; subst e; simp
    · have := hr.own b t hb; simp; omega
  · intro nm st pend fid t params assign body hb
    simp only [getB_snoc] at hb
    split at hb
    · cases hb
    · rename_i e
      have e' : nm ≠ E.nb := fun e' => e (e'.trans hr.nb)
      refine (hr.lp _ _ _ _ _ _ _ _ hb).ext hx (fun ho => ?_)
      have hlt := hr.own _ _ ho
      exact ⟨by simp only [Env.newB, e', if_false], hold _ hlt, by simp only [Env.newB]; rw [if_neg (by omega)]⟩
  · intro nm m hb
    simp only [getB_snoc] at hb
    split at hb
    · cases hb
    · rename_i e
      have e' : nm ≠ E.nb := fun e' => e (e'.trans hr.nb)
      refine (hr.mp _ _ hb).ext hx (fun ho => ?_)
      have hlt := hr.own _ _ ho
      exact ⟨by simp only [Env.newB, e', if_false], hold _ hlt, by simp only [Env.newB]; rw [if_neg (by omega)]⟩

/-- A write into an own block. -/
theorem ext_setRow {E : Env} {w : World} {g : Nat} {t : Tag} (hg : E.own g = some t) (hto : t ≠ .other) (cs : Array Value) : Ext E w E (w.setRow g cs) :=
  ⟨rfl, rfl, rfl, by simp, Nat.le_refl _, Nat.le_refl _, fun _ _ => rfl, fun _ _ _ _ h => h, fun b _ h => ⟨h, setRow_other w g b cs (fun e => by subst e; rw [hg] at h; cases h)⟩, fun b h => ⟨h, setRow_other w g b cs (fun e => by subst e; rw [hg] at h; cases h; exact hto rfl)⟩⟩

theorem RelH.write {E : Env} {h : HS} {w : World} (hr : RelH E h w) {nm : Nat} {ty : TypeId} {cells : List SV} (hb : getB h.blks nm = .live ty cells) (cells' : List SV) (cs' : Array Value)
    (hd : DenA E w cells' cs') (h1 : ∀ (k : Nat) (u : Value), cs'[k]? = some u → u.oneCell' = true) :
    RelH E { h with blks := setB h.blks nm (.live ty cells') } (w.setRow (E.rho nm) cs') := by
  obtain ⟨cs, a1, a2, a3, a4⟩ := hr.blk nm ty cells hb
  have hx : Ext E w E (w.setRow (E.rho nm) cs') := ext_setRow a4 (by intro e; cases e) cs'
  refine ⟨by simp [lenB_set, hr.nb], hr.nv, ?_, ?_, fun b t hb => by simpa using hr.own b t hb, ?_, ?_⟩
  · intro nm' ty' c' hb'
    simp only [getB_set] at hb'
    split at hb'
    · rename_i e
      obtain ⟨rfl, _⟩ := e
      cases hb'
      exact ⟨cs', setRow_heap w _ cs cs' ty (0, 0) a1, hd.ext hx, h1, a4⟩
    · rename_i e
      have hne : nm' ≠ nm := fun e' => e ⟨e', getB_lt hb⟩
      obtain ⟨c, b1, b2, b3, b4⟩ := hr.blk nm' ty' c' hb'
      refine ⟨c, ?_, b2.ext hx, b3, b4⟩
      rw [setRow_other]
      · exact b1
      · intro e'; rw [e', a4] at b4; injection b4 with b4; injection b4 with b4; exact hne b4.symm
  · intro id ver ty' sz n f hv
    obtain ⟨h0, ⟨a, cap, k1, k2⟩, k3⟩ := hr.vec id ver ty' sz n f hv
    refine ⟨h0, ⟨a, cap, k1, k2.ext hx (fun g hg => ⟨setRow_other w _ g cs' (fun e => ?_), rfl⟩)⟩, k3⟩
    rw [e, a4] at hg; injection hg with hg; cases hg
  · intro nm' st pend fid t params assign body hb'
    simp only [getB_set] at hb'
    split at hb'
    · cases hb'
    · rename_i e
      have hne : nm' ≠ nm := fun e' => e ⟨e', getB_lt hb⟩
      refine (hr.lp _ _ _ _ _ _ _ _ hb').ext hx (fun ho => ⟨rfl, setRow_other w _ _ cs' (fun e' => ?_), rfl⟩)
      rw [e', a4] at ho; injection ho with ho; injection ho with ho; exact hne ho.symm
  · intro nm' m hb'
    simp only [getB_set] at hb'
    split at hb'
    · cases hb'
    · rename_i e
      have hne : nm' ≠ nm := fun e' => e ⟨e', getB_lt hb⟩
      refine (hr.mp _ _ hb').ext hx (fun ho => ⟨rfl, setRow_other w _ _ cs' (fun e' => ?_), rfl⟩)
      rw [e', a4] at ho; injection ho with ho; injection ho with ho; exact hne ho.symm

/- ### records of ranges over functions -/
theorem RelH.newLoop {E : Env} {h : HS} {w : World} (hr : RelH E h w) (fid : Nat) (t : List SV) (tmps : Array Value) (hd : DenA E w t tmps) (params : Array Nat) (assign body : Code) (db : Nat) (st : LoopState) (pend : Option Code) :
    RelH (E.newB w.heap.size) { h with blks := snocB h.blks (.loop st pend fid t params assign body) } (w.alloc (.loop { state := st, pending := pend, fn := fid, tmps, params, assign, body, defers := db })) := by
  have hx : Ext E w (E.newB w.heap.size) (w.alloc (.loop { state := st, pending := pend, fn := fid, tmps, params, assign, body, defers := db })) := ext_alloc hr.own _ _ rfl
  have hold : ∀ b, b < w.heap.size → (w.alloc (.loop { state := st, pending := pend, fn := fid, tmps, params, assign, body, defers := db })).heap[b]? = w.heap[b]? := fun b hb => Below.heap_alloc w _ b hb
  refine ⟨by simp [Env.newB, lenB_snoc, hr.nb], hr.nv, ?_, ?_, ?_, ?_, ?_⟩
  · intro nm ty' cells' hb
    simp only [getB_snoc] at hb
    split at hb
    · cases hb
    · rename_i e
      have e' : nm ≠ E.nb := fun e' => e (e'.trans hr.nb)
      obtain ⟨cs', k1, k2, k3, k4⟩ := hr.blk nm ty' cells' hb
      have hlt := hr.own _ _ k4
      refine ⟨cs', ?_, k2.ext hx, k3, ?_⟩
      · simp only [Env.newB, e', if_false]; exact (hold _ hlt).trans k1
      · simp only [Env.newB, e', if_false]; rw [if_neg (by omega)]; exact k4
  · intro id ver ty' sz n f hv
    obtain ⟨h0, ⟨a, cap, k1, k2⟩, k3⟩ := hr.vec id ver ty' sz n f hv
    refine ⟨h0, ⟨a, cap, k1, k2.ext hx (fun g hg => ?_)⟩, k3⟩
    have hlt := hr.own _ _ hg
    exact ⟨hold g hlt, by simp only [Env.newB]; rw [if_neg (by omega)]⟩
  · intro b t hb
    simp only [Env.newB] at hb
    split at hb
    · rename_i e; subst e; simp
    · have := hr.own b t hb; simp; omega
  · intro nm st' pend' fid' t' params' assign' body' hb
    simp only [getB_snoc] at hb
    split at hb
    · rename_i e
      have e' : nm = E.nb := e.trans hr.nb.symm
      cases hb
      refine ⟨tmps, db, ?_, hd.ext hx, ?_⟩
      · simp only [Env.newB, e', if_true]; exact heap_alloc_new w _
      · simp only [Env.newB, e', if_true]
    · rename_i e
      have e' : nm ≠ E.nb := fun e' => e (e'.trans hr.nb)
      refine (hr.lp _ _ _ _ _ _ _ _ hb).ext hx (fun ho => ?_)
      have hlt := hr.own _ _ ho
      exact ⟨by simp only [Env.newB, e', if_false], hold _ hlt, by simp only [Env.newB]; rw [if_neg (by omega)]⟩
  · intro nm m hb
    simp only [getB_snoc] at hb
    split at hb
    · cases hb
    · rename_i e
      have e' : nm ≠ E.nb := fun e' => e (e'.trans hr.nb)
      refine (hr.mp _ _ hb).ext hx (fun ho => ?_)
      have hlt := hr.own _ _ ho
      exact ⟨by simp only [Env.newB, e', if_false], hold _ hlt, by simp only [Env.newB]; rw [if_neg (by omega)]⟩

/-- A record moves on. -/
theorem RelH.setLoop {E : Env} {h : HS} {w w' : World} (hr : RelH E h w) {nm : Nat} {st pend fid t params assign body} (hb : getB h.blks nm = .loop st pend fid t params assign body) (st' : LoopState) (pend' : Option Code)
    {tmps : Array Value} {db : Nat} (h0 : w.heap[E.rho nm]? = some (.loop { state := st, pending := pend, fn := fid, tmps, params, assign, body, defers := db }))
    (hx : Ext E w E w') (hsz : w'.heap.size = w.heap.size) (hoth : ∀ b, b ≠ E.rho nm → w'.heap[b]? = w.heap[b]?) (hnew : w'.heap[E.rho nm]? = some (.loop { state := st', pending := pend', fn := fid, tmps, params, assign, body, defers := db })) :
    RelH E { h with blks := setB h.blks nm (.loop st' pend' fid t params assign body) } w' := by
  obtain ⟨tmps', db', b1, b2, b3⟩ := hr.lp _ _ _ _ _ _ _ _ hb
  rw [h0] at b1
  cases b1
  have hne : ∀ b tg, E.own b = some tg → tg ≠ .blk nm → b ≠ E.rho nm := fun b tg ho ht e => by rw [e, b3] at ho; cases ho; exact ht rfl
  refine ⟨by simp [lenB_set, hr.nb], hr.nv, ?_, ?_, fun b t hb => by rw [hsz]; exact hr.own b t hb, ?_, ?_⟩
  · intro nm' ty' c' hb'
    simp only [getB_set] at hb'
    split at hb'
    · cases hb'
    · rename_i e
      have hn : nm' ≠ nm := fun e' => e ⟨e', getB_ltL hb⟩
      obtain ⟨c, k1, k2, k3, k4⟩ := hr.blk nm' ty' c' hb'
      exact ⟨c, (hoth _ (hne _ _ k4 (fun e => hn (by injection e)))).trans k1, k2.ext hx, k3, k4⟩
  · intro id ver ty' sz n f hv
    obtain ⟨h0, ⟨a, cap, k1, k2⟩, k3⟩ := hr.vec id ver ty' sz n f hv
    exact ⟨h0, ⟨a, cap, k1, k2.ext hx (fun g hg => ⟨hoth g (hne _ _ hg (by intro e; cases e)), rfl⟩)⟩, k3⟩
  · intro nm' st2 pend2 fid2 t2 params2 assign2 body2 hb'
    simp only [getB_set] at hb'
    split at hb'
    · rename_i e
      obtain ⟨rfl, _⟩ := e
      cases hb'
      exact ⟨tmps, db, hnew, b2.ext hx, b3⟩
    · rename_i e
      have hn : nm' ≠ nm := fun e' => e ⟨e', getB_ltL hb⟩
      exact (hr.lp _ _ _ _ _ _ _ _ hb').ext hx (fun ho => ⟨rfl, hoth _ (hne _ _ ho (fun e => hn (by injection e))), rfl⟩)
  · intro nm' m hb'
    simp only [getB_set] at hb'
    split at hb'
    · cases hb'
    · rename_i e
      have hn : nm' ≠ nm := fun e' => e ⟨e', getB_ltL hb⟩
      exact (hr.mp _ _ hb').ext hx (fun ho => ⟨rfl, hoth _ (hne _ _ ho (fun e => hn (by injection e))), rfl⟩)
end Go.Eng
end

/- Own slices: made, appended to, read and written. -/
section
namespace Go.Eng
open Go.RowKit

def Env.newV (E : Env) : Env :=
  { E with nv := E.nv + 1, val := fun id ver => if id = E.nv then (if ver = 0 then some (none, 0, 0) else none) else E.val id ver }

theorem ext_newV (E : Env) (w : World) : Ext E w E.newV w :=
  ⟨rfl, rfl, rfl, Nat.le_refl _, Nat.le_refl _, by simp [Env.newV], fun _ _ => rfl, fun id ver x hi hv => by simp only [Env.newV]; rw [if_neg (by omega)]; exact hv, fun _ _ h => ⟨h, rfl⟩, fun _ h => ⟨h, rfl⟩⟩

theorem RelH.newVec {E : Env} {h : HS} {w : World} (hr : RelH E h w) (ty : TypeId) (sz : Nat) (hsz : 0 < sz) (f : Nat → Nat → SV) :
    RelH E.newV { h with vecs := snocV h.vecs (.live 0 ty sz 0 f) } w := by
  have hx := ext_newV E w
  refine ⟨hr.nb, by simp [Env.newV, lenV_snoc, hr.nv], ?_, ?_, hr.own, fun nm st pend fid t params assign body hb => (hr.lp _ _ _ _ _ _ _ _ hb).ext hx (fun _ => ⟨rfl, rfl, rfl⟩), fun nm m hb => (hr.mp _ _ hb).ext hx (fun _ => ⟨rfl, rfl, rfl⟩)⟩
  · intro nm ty' cells hb
    obtain ⟨cs, a1, a2, a3, a4⟩ := hr.blk nm ty' cells hb
    exact ⟨cs, a1, a2.ext hx, a3, a4⟩
  · intro id ver ty' sz' n f' hv
    simp only [getV_snoc] at hv
    split at hv
    · rename_i e
      cases hv
      have e' : id = E.nv := e.trans hr.nv.symm
      refine ⟨hsz, ⟨none, 0, by simp [Env.newV, e'], .inl ⟨fun _ h => (by cases h), rfl, rfl⟩⟩, fun v' hv' => ?_⟩
      simp only [Env.newV, e', if_true]
      rw [if_neg (by omega)]
    · rename_i e
      have e' : id ≠ E.nv := fun e' => e (e'.trans hr.nv)
      obtain ⟨h0, ⟨a, cap, k1, k2⟩, k3⟩ := hr.vec id ver ty' sz' n f' hv
      refine ⟨h0, ⟨a, cap, by simp only [Env.newV, e', if_false]; exact k1, k2.ext hx (fun g hg => ⟨rfl, rfl⟩)⟩, fun v' hv' => by simp only [Env.newV, e', if_false]; exact k3 v' hv'⟩

/-- m elements of sz cells lie at A, and are g. -/
def SrcAt (E : Env) (w : World) (A : Addr) (m sz : Nat) (g : Nat → Nat → SV) : Prop :=
  ∃ news : List Value, news.length = m * sz ∧ (∀ k u, news[k]? = some u → w.cell? (A.add k) = some u) ∧ (∀ u ∈ news, u.oneCell' = true) ∧
    ∀ i j u, i < m → j < sz → news[i * sz + j]? = some u → Den E w (g i j) u

theorem idx_lt {i j n sz : Nat} (hi : i < n) (hj : j < sz) : i * sz + j < n * sz := by
  have : (i + 1) * sz ≤ n * sz := Nat.mul_le_mul_right _ hi
  rw [Nat.add_mul] at this
  omega

theorem srcAt_row {E : Env} {w : World} {n sz : Nat} {f : Nat → Nat → SV} {A : Addr} (hsz : 0 < sz) (g : Nat → Nat → Value)
    (hc : ∀ i j, i < n → j < sz → w.cell? (A.add (i * sz + j)) = some (g i j)) (h1 : ∀ i j, i < n → j < sz → (g i j).oneCell' = true) (hd : ∀ i j, i < n → j < sz → Den E w (f i j) (g i j)) :
    SrcAt E w A n sz f := by
  have key : ∀ k, k < n * sz → k / sz < n ∧ k % sz < sz ∧ k / sz * sz + k % sz = k := fun k hk =>
    ⟨(Nat.div_lt_iff_lt_mul hsz).2 hk, Nat.mod_lt _ hsz, Nat.div_add_mod' k sz⟩
  refine ⟨(List.range (n * sz)).map fun k => g (k / sz) (k % sz), by simp, ?_, ?_, ?_⟩
  · intro k u hu
    rw [List.getElem?_map] at hu
    by_cases hk : k < n * sz
    · rw [List.getElem?_range hk] at hu
      simp only [Option.map_some, Option.some.injEq] at hu
      obtain ⟨a, b, c⟩ := key k hk
      have := hc _ _ a b
      rw [c] at this
      rw [this, hu]
    · rw [List.getElem?_eq_none (by simp; omega)] at hu
      simp at hu
  · intro u hu
    simp only [List.mem_map, List.mem_range] at hu
    obtain ⟨k, hk, rfl⟩ := hu
    obtain ⟨a, b, c⟩ := key k hk
    exact h1 _ _ a b
  · intro i j u hi hj hu
    have hk := idx_lt hi hj
    rw [List.getElem?_map, List.getElem?_range hk] at hu
    simp only [Option.map_some, Option.some.injEq] at hu
    have e1 : (i * sz + j) / sz = i := by rw [Nat.add_comm, Nat.add_mul_div_right _ _ hsz, Nat.div_eq_of_lt hj]; omega
    have e2 : (i * sz + j) % sz = j := by rw [Nat.add_comm, Nat.add_mul_mod_self_right, Nat.mod_eq_of_lt hj]
    rw [e1, e2] at hu
    rw [← hu]
    exact hd i j hi hj

theorem srcAt_zero {E : Env} {w : World} {A : Addr} {sz : Nat} {f : Nat → Nat → SV} : SrcAt E w A 0 sz f :=
  ⟨[], by simp, fun k u hu => by simp at hu, fun u hu => by simp at hu, fun i j u hi => by omega⟩
theorem VecAt.src {E : Env} {w : World} {id : Nat} {ty : TypeId} {sz n : Nat} {f : Nat → Nat → SV} {A : Addr} {cap : Nat} (h : VecAt E w id ty sz n f (some A) cap) : SrcAt E w A n sz f := by
  rcases h with ⟨_, rfl, _⟩ | ⟨g, o, cur, h1, h2, h3, h4, h5, h6, h7, h8⟩
  · exact srcAt_zero
  · cases h1
    have hle : n * sz ≤ cap * sz := Nat.mul_le_mul_right _ h2
    refine ⟨(cur.toList.drop o).take (n * sz), by simp; omega, ?_, ?_, ?_⟩
    · intro k u hu
      rw [List.getElem?_take] at hu
      split at hu
      · rw [Addr.add_lit]
        simp only [World.cell?, h4]
        rw [List.getElem?_drop] at hu
        simpa using hu
      · cases hu
    · intro u hu
      obtain ⟨k, hk⟩ := List.getElem?_of_mem hu
      rw [List.getElem?_take] at hk
      split at hk
      · rename_i hlt; rw [List.getElem?_drop] at hk; exact h7 k u hlt (by simpa using hk)
      · cases hk
    · intro i j u hi hj hu
      rw [List.getElem?_take, if_pos (idx_lt hi hj), List.getElem?_drop] at hu
      exact h8 i j u hi hj (by simpa using hu)

def Env.bump (E : Env) (id ver : Nat) (x : Option Addr × Nat × Nat) : Env :=
  { E with val := fun i v => if i = id ∧ v = ver then some x else E.val i v }
def Env.bumpO (E : Env) (id ver : Nat) (x : Option Addr × Nat × Nat) (g : Nat) : Env :=
  { E with val := fun i v => if i = id ∧ v = ver then some x else E.val i v, own := fun k => if k = g then some (.vec id) else E.own k }

def catF (n : Nat) (f g : Nat → Nat → SV) : Nat → Nat → SV := fun i j => if i < n then f i j else g (i - n) j

/-- The heap when one vec has moved on to a new version, whatever the new world. -/
theorem RelH.moved {E E' : Env} {h : HS} {w w' : World} (hr : RelH E h w) {id ver : Nat} {ty : TypeId} {sz n : Nat} {f : Nat → Nat → SV} (hv : getV h.vecs id = .live ver ty sz n f)
    (hx : Ext E w E' w') (hnb : E'.nb = E.nb) (hnv : E'.nv = E.nv) (hrho : E'.rho = E.rho) (hval : ∀ i v, i ≠ id → E'.val i v = E.val i v)
    (hkeep : ∀ b t, E.own b = some t → t ≠ .vec id → w'.heap[b]? = w.heap[b]? ∧ E'.own b = E.own b)
    (hown : ∀ b t, E'.own b = some t → b < w'.heap.size)
    {ver' n' : Nat} {f' : Nat → Nat → SV} {a : Option Addr} {cap : Nat} (h1 : E'.val id ver' = some (a, n', cap)) (h2 : VecAt E' w' id ty sz n' f' a cap) (h3 : ∀ v', ver' < v' → E'.val id v' = none) :
    RelH E' { h with vecs := setV h.vecs id (.live ver' ty sz n' f') } w' := by
  refine ⟨hnb.trans hr.nb, by rw [hnv, hr.nv]; simp [lenV_set], ?_, ?_, hown, fun nm st pend fid t params assign body hb => (hr.lp _ _ _ _ _ _ _ _ hb).ext hx (fun ho => ⟨by rw [hrho], hkeep _ _ ho (by intro e; cases e)⟩), fun nm m hb => (hr.mp _ _ hb).ext hx (fun ho => ⟨by rw [hrho], hkeep _ _ ho (by intro e; cases e)⟩)⟩
  · intro nm ty' cells hb
    obtain ⟨cs, a1, a2, a3, a4⟩ := hr.blk nm ty' cells hb
    obtain ⟨k1, k2⟩ := hkeep _ _ a4 (by intro e; cases e)
    exact ⟨cs, by rw [hrho]; exact k1.trans a1, a2.ext hx, a3, by rw [hrho]; exact k2.trans a4⟩
  · intro id' v' ty' sz' m g hg
    simp only [getV_set] at hg
    split at hg
    · rename_i e
      obtain ⟨rfl, _⟩ := e
      cases hg
      exact ⟨(hr.vec _ _ _ _ _ _ hv).1, ⟨a, cap, h1, h2⟩, h3⟩
    · rename_i e
      have hne : id' ≠ id := fun e' => e ⟨e', getV_lt hv⟩
      obtain ⟨h0, ⟨b, c, k1, k2⟩, k3⟩ := hr.vec _ _ _ _ _ _ hg
      exact ⟨h0, ⟨b, c, (hval _ _ hne).trans k1, k2.ext hx (fun q hq => hkeep q _ hq (by intro e; injection e with e; exact hne e))⟩, fun v hv => (hval _ _ hne).trans (k3 v hv)⟩
end Go.Eng
end

/- append onto an own slice. -/
section
namespace Go.Eng
open Go.RowKit

theorem bump_ext {E : Env} {h : HS} {w w' : World} (hr : RelH E h w) {id ver : Nat} {ty : TypeId} {sz n : Nat} {f : Nat → Nat → SV} (hv : getV h.vecs id = .live ver ty sz n f)
    (hx : Ext E w E w') (x : Option Addr × Nat × Nat) : Ext E w (E.bump id (ver + 1) x) w' := by
  have hn := (hr.vec _ _ _ _ _ _ hv).2.2
  refine ⟨hx.os, hx.tape, hx.output, hx.size, Nat.le_refl _, Nat.le_refl _, fun _ _ => rfl, fun i v y hi hy => ?_, hx.keep, hx.oth⟩
  simp only [Env.bump]
  split
  · rename_i e
    obtain ⟨rfl, rfl⟩ := e
    rw [hn _ (by omega)] at hy
    cases hy
  · exact hy

theorem bumpO_ext {E : Env} {h : HS} {w : World} (hr : RelH E h w) {id ver : Nat} {ty : TypeId} {sz n : Nat} {f : Nat → Nat → SV} (hv : getV h.vecs id = .live ver ty sz n f)
    (x : Option Addr × Nat × Nat) (o : Obj) : Ext E w (E.bumpO id (ver + 1) x w.heap.size) (w.drew.alloc o) := by
  have hn := (hr.vec _ _ _ _ _ _ hv).2.2
  refine ⟨rfl, rfl, rfl, by simp, Nat.le_refl _, Nat.le_refl _, fun _ _ => rfl, fun i v y hi hy => ?_, fun b hb h => ⟨?_, Below.heap_alloc w.drew o b hb⟩, fun b h => ⟨?_, Below.heap_alloc w.drew o b (hr.own b _ h)⟩⟩
  · simp only [Env.bumpO]
    split
    · rename_i e
      obtain ⟨rfl, rfl⟩ := e
      rw [hn _ (by omega)] at hy
      cases hy
    · exact hy
  · simp only [Env.bumpO]; rw [if_neg (by omega)]; exact h
  · have := hr.own b _ h; simp only [Env.bumpO]; rw [if_neg (by omega)]; exact h

theorem bump_none {E : Env} {id ver : Nat} {x : Option Addr × Nat × Nat} (h : ∀ v', ver < v' → E.val id v' = none) : ∀ v', ver + 1 < v' → (E.bump id (ver + 1) x).val id v' = none := fun v' hv => by
  simp only [Env.bump]; rw [if_neg (by omega)]; exact h v' (by omega)

theorem size_zeroCells' (z : Array Value) (n : Nat) : (Builtin.zeroCells z n).size = n * z.size := by simp [Builtin.zeroCells]

theorem run_append_roomO {P : Program} (w : World) (t ty e : TypeId) (i : TypeInfo) (ht : P.underlying t = some (.slice e)) (hi : P.info? e = some i)
    (g o sLen sCap : Nat) (cur : Array Value) (hg : w.heap[g]? = some (.cells cur e (0, 0)))
    (a : Addr) (m c : Nat) (news : List Value) (hl : news.length = m * i.size) (hnews : ∀ j u, news[j]? = some u → w.cell? (a.add j) = some u) (h1 : ∀ u ∈ news, u.oneCell' = true)
    (hroom : sLen + m ≤ sCap) (hfit : o + sLen * i.size + news.length ≤ cur.size) :
    (Builtin.append_ #[t, t] ty #[.slice (some ⟨g, o, none⟩) sLen sCap, .slice (some a) m c]).run P w =
      .ok (.slice (some ⟨g, o, none⟩) (sLen + m) sCap) (w.setRow g (cur.toList.take (o + sLen * i.size) ++ news ++ cur.toList.drop (o + sLen * i.size + news.length)).toArray) := by
  have hf := run_firstCells_some (P := P) w i.size m a m c news hl hnews
  have hst := run_storeCells_at P g (o + sLen * i.size) e news 0 cur w hg (by simpa using hfit) h1
  simp only [Nat.add_zero] at hst
  simp [Builtin.append_, run_underlying ht, sizeOf, typeInfo, hi, Builtin.lenOf, hroom, hf, Addr.add_lit, hst]

theorem append_ok {P : Program} {E : Env} {h : HS} {w : World} (hr : RelH E h w) {id ver : Nat} {e : TypeId} {sz n : Nat} {f : Nat → Nat → SV} (hv : getV h.vecs id = .live ver e sz n f)
    (t tr : TypeId) (i : TypeInfo) (z : Value) (ht : P.underlying t = some (.slice e)) (hi : P.info? e = some i) (hz : i.zero = some z) (hs : i.size = sz) (hzs : z.cells.size = sz)
    {a : Option Addr} {cap : Nat} (hval : E.val id ver = some (a, n, cap)) (x : Value) (m : Nat) (g : Nat → Nat → SV)
    (hx : (∃ A c, x = .slice (some A) m c ∧ SrcAt E w A m sz g) ∨ (m = 0 ∧ ∃ a' c, x = .slice a' 0 c))
    (h63 : n + m ≤ maxLen) (hby : (n + m) * i.bytes ≤ 140737488355328) :
    ∃ a' cap' w' E', (Builtin.append_ #[t, t] tr #[.slice a n cap, x]).run P w = .ok (.slice a' (n + m) cap') w' ∧ Ext E w E' w' ∧
      RelH E' { h with vecs := setV h.vecs id (.live (ver + 1) e sz (n + m) (catF n f g)) } w' ∧ E'.val id (ver + 1) = some (a', n + m, cap') ∧ id < E'.nv := by
  obtain ⟨hsz, ⟨a2, cap2, k1, k2⟩, k3⟩ := hr.vec _ _ _ _ _ _ hv
  rw [hval] at k1
  simp only [Option.some.injEq, Prod.mk.injEq, true_and] at k1
  obtain ⟨rfl, rfl⟩ := k1
  have hid : id < E.nv := by rw [hr.nv]; exact getV_lt hv
  have hfeq : ∀ (g : Nat → Nat → SV) (i j : Nat), i < n → catF n f g i j = f i j := fun g i j hi => by simp [catF, hi]
  by_cases hm : m = 0
  · -- nothing is appended
    subst hm
    obtain ⟨a', c, rfl⟩ : ∃ a' c, x = .slice a' 0 c := by
      rcases hx with ⟨A, c, rfl, _⟩ | ⟨_, a', c, rfl⟩
      · exact ⟨_, _, rfl⟩
      · exact ⟨_, _, rfl⟩
    have hnc : n ≤ cap := by rcases k2 with ⟨_, h1, h2⟩ | ⟨_, _, _, _, h2, _⟩ <;> omega
    have hrun : (Builtin.append_ #[t, t] tr #[.slice a n cap, .slice a' 0 c]).run P w = .ok (.slice a (n + 0) cap) w := by
      cases a <;> cases a' <;> simp [Builtin.append_, run_underlying ht, sizeOf, typeInfo, hi, Builtin.lenOf, Builtin.firstCells, hnc, loadCells, loadCellsFrom, storeCells]
    have hxx := bump_ext hr hv (Ext.refl E w) (a, n + 0, cap)
    refine ⟨a, cap, w, E.bump id (ver + 1) (a, n + 0, cap), hrun, hxx, ?_, by simp [Env.bump], hid⟩
    refine hr.moved hv hxx rfl rfl rfl (fun i v hi => by simp [Env.bump, hi]) (fun b t hb _ => ⟨rfl, rfl⟩) hr.own (a := a) (cap := cap) (by simp [Env.bump]) ?_ (bump_none k3)
    rcases k2 with h1 | ⟨g1, o, cur, h1, h2, h3, h4, h5, h6, h7, h8⟩
    · exact .inl ⟨h1.1, by omega, h1.2.2⟩
    · exact .inr ⟨g1, o, cur, h1, h2, h3, h4, h5, h6, h7, fun i j u hi hj hu => by rw [hfeq g i j hi]; exact (h8 i j u hi hj hu).ext hxx⟩
  · obtain ⟨A, c, rfl, news, hl, hnews, hone, hden⟩ : ∃ A c, x = .slice (some A) m c ∧ SrcAt E w A m sz g := by
      rcases hx with hx | ⟨h0, _⟩
      · exact hx
      · exact absurd h0 hm
    subst hs
    have key : ∀ {w' : World} {E' : Env} (xs : List Value) (rest : List Value) (hxx : Ext E w E' w'), xs.length = n * i.size → (∀ (k : Nat) (u : Value), xs[k]? = some u → u.oneCell' = true) →
        (∀ i' j u, i' < n → j < i.size → xs[i' * i.size + j]? = some u → Den E w (f i' j) u) →
        (∀ (k : Nat) (u : Value), k < (n + m) * i.size → (xs ++ news ++ rest)[k]? = some u → u.oneCell' = true) ∧ ∀ i' j u, i' < n + m → j < i.size → (xs ++ news ++ rest)[i' * i.size + j]? = some u → Den E' w' (catF n f g i' j) u := by
      intro w' E' xs rest hxx hxl hx1 hxd
      refine ⟨fun k u hk hu => ?_, fun i' j u hi' hj hu => ?_⟩
      · have hk2 : k < (xs ++ news).length := by rw [List.length_append, hxl, hl, ← Nat.add_mul]; exact hk
        rw [List.getElem?_append_left hk2] at hu
        by_cases hk3 : k < xs.length
        · rw [List.getElem?_append_left hk3] at hu; exact hx1 k u hu
        · rw [List.getElem?_append_right (by omega)] at hu; exact hone u (List.mem_of_getElem? hu)
      · have hk2 : i' * i.size + j < (xs ++ news).length := by rw [List.length_append, hxl, hl, ← Nat.add_mul]; exact idx_lt hi' hj
        rw [List.getElem?_append_left hk2] at hu
        by_cases hin : i' < n
        · rw [List.getElem?_append_left (by rw [hxl]; exact idx_lt hin hj)] at hu
          rw [hfeq g i' j hin]
          exact (hxd i' j u hin hj hu).ext hxx
        · obtain ⟨q, rfl⟩ : ∃ q, i' = n + q := ⟨i' - n, by omega⟩
          have e1 : (n + q) * i.size + j = xs.length + (q * i.size + j) := by rw [hxl, Nat.add_mul]; omega
          rw [e1, List.getElem?_append_right (by omega), Nat.add_sub_cancel_left] at hu
          have e2 : catF n f g (n + q) j = g q j := by simp only [catF]; rw [if_neg hin, Nat.add_sub_cancel_left]
          rw [e2]
          exact (hden q j u (by omega) hj hu).ext hxx
    have fresh : ∀ (xs : List Value) (cap' : Nat) (zs : Array Value), xs.length = n * i.size → (∀ (k : Nat) (u : Value), xs[k]? = some u → u.oneCell' = true) → (∀ i' j u, i' < n → j < i.size → xs[i' * i.size + j]? = some u → Den E w (f i' j) u) →
        n + m ≤ cap' → cap' ≤ maxLen → zs.size = (cap' - (n + m)) * i.size →
        ∃ E', Ext E w E' (w.drew.alloc (.cells (xs.toArray ++ news.toArray ++ zs) e)) ∧
          RelH E' { h with vecs := setV h.vecs id (.live (ver + 1) e i.size (n + m) (catF n f g)) } (w.drew.alloc (.cells (xs.toArray ++ news.toArray ++ zs) e)) ∧ E'.val id (ver + 1) = some (some ⟨w.heap.size, 0, none⟩, n + m, cap') ∧ id < E'.nv := by
      intro xs cap' zs hxl hx1 hxd hc1 hc2 hzl
      have hxx := bumpO_ext hr hv (some ⟨w.heap.size, 0, none⟩, n + m, cap') (.cells (xs.toArray ++ news.toArray ++ zs) e)
      obtain ⟨q1, q2⟩ := key xs zs.toList hxx hxl hx1 hxd
      have hcat : ∀ k : Nat, (xs.toArray ++ news.toArray ++ zs)[k]? = (xs ++ news ++ zs.toList)[k]? := fun k => by
        rw [← Array.getElem?_toList]; congr 1; simp
      refine ⟨_, hxx, ?_, by simp [Env.bumpO], hid⟩
      refine hr.moved hv hxx rfl rfl rfl (fun i' v hi' => by simp [Env.bumpO, hi']) (fun b t hb _ => ?_) (fun b t hb => ?_) (a := some ⟨w.heap.size, 0, none⟩) (cap := cap') (by simp [Env.bumpO]) ?_ (fun v' hv' => ?_)
      · have hlt := hr.own b t hb
        exact ⟨Below.heap_alloc w.drew _ b hlt, by simp only [Env.bumpO]; rw [if_neg (by omega)]⟩
      · simp only [Env.bumpO] at hb
        split at hb
        · rename_i e'; subst e'; simp
        · have := hr.own b t hb; simp; omega
      · refine .inr ⟨w.heap.size, 0, _, rfl, hc1, hc2, heap_alloc_new w.drew _, ?_, by simp [Env.bumpO], fun k u hk hu => q1 k u hk (by rw [Nat.zero_add] at hu; rw [← hcat]; exact hu), fun i' j u hi' hj hu => q2 i' j u hi' hj (by rw [Nat.zero_add] at hu; rw [← hcat]; exact hu)⟩
        simp only [Nat.zero_add, Array.size_append, List.size_toArray, hxl, hl, hzl, ← Nat.add_mul]
        refine Nat.le_of_eq ?_
        congr 1
        omega
      · simp only [Env.bumpO]; rw [if_neg (by omega)]; exact k3 v' (by omega)
    rcases k2 with ⟨hA0, rfl, rfl⟩ | ⟨g1, o, cur, rfl, h2, h3, h4, h5, h6, h7, h8⟩
    · cases a with
      | none =>
        -- from nil
        have hrun := run_append_nil (P := P) w t tr e i z ht hi hz A m c news hl hnews (by omega) (by simp only [maxLen] at h63; omega) (by simp only [Nat.zero_add] at hby; omega)
        have hge := grownCap_ge w m 0 e
        have hle := grownCap_le_maxLen w m 0 e (by simpa using h63)
        obtain ⟨E', q1, q2, q3, q4⟩ := fresh [] (grownCap w m 0 e) (Builtin.zeroCells z.cells (grownCap w m 0 e - m)) (by simp) (by simp) (by simp) (by omega) hle (by rw [size_zeroCells', hzs]; simp)
        simp only [Nat.zero_add, Array.empty_append] at q1 q2 q3 q4 ⊢
        exact ⟨_, _, _, E', hrun, q1, q2, q3, q4⟩
      | some B =>
        -- from no room at all
        have hrun := run_append_grow (P := P) w t tr e i z ht hi hz B 0 0 [] (by simp) (fun j u hu => by simp at hu) A m c news hl hnews (by omega) (by simp only [maxLen] at h63; omega) (growslice_fits (by omega) hby)
        have hge := grownCap_ge w (0 + m) 0 e
        have hle2 := grownCap_le_maxLen w (0 + m) 0 e h63
        obtain ⟨E', q1, q2, q3, q4⟩ := fresh [] (grownCap w (0 + m) 0 e) (Builtin.zeroCells z.cells (grownCap w (0 + m) 0 e - (0 + m))) (by simp) (by simp) (by simp) hge hle2 (by rw [size_zeroCells', hzs])
        exact ⟨_, _, _, E', hrun, q1, q2, q3, q4⟩
    · have hle : n * i.size ≤ cap * i.size := Nat.mul_le_mul_right _ h2
      have hcl : ((cur.toList.drop o).take (n * i.size)).length = n * i.size := by simp; omega
      have hc1 : ∀ (k : Nat) (u : Value), ((cur.toList.drop o).take (n * i.size))[k]? = some u → u.oneCell' = true := fun k u hu => by
        rw [List.getElem?_take] at hu
        split at hu
        · rename_i hk; rw [List.getElem?_drop] at hu; exact h7 k u hk (by simpa using hu)
        · cases hu
      have hcd : ∀ i' j u, i' < n → j < i.size → ((cur.toList.drop o).take (n * i.size))[i' * i.size + j]? = some u → Den E w (f i' j) u := fun i' j u hi' hj hu => by
        rw [List.getElem?_take, if_pos (idx_lt hi' hj), List.getElem?_drop] at hu
        exact h8 i' j u hi' hj (by simpa using hu)
      by_cases hroom : n + m ≤ cap
      · -- there is room
        have hfit : o + n * i.size + news.length ≤ cur.size := by rw [hl, Nat.add_assoc, ← Nat.add_mul]; exact Nat.le_trans (Nat.add_le_add_left (Nat.mul_le_mul_right _ hroom) _) h5
        have hrun := run_append_roomO (P := P) w t tr e i ht hi g1 o n cap cur h4 A m c news hl hnews hone hroom hfit
        have hx0 : Ext E w E (w.setRow g1 (cur.toList.take (o + n * i.size) ++ news ++ cur.toList.drop (o + n * i.size + news.length)).toArray) := ext_setRow h6 (by intro e; cases e) _
        have hxx := bump_ext hr hv hx0 (some ⟨g1, o, none⟩, n + m, cap)
        obtain ⟨q1, q2⟩ := key ((cur.toList.drop o).take (n * i.size)) (cur.toList.drop (o + n * i.size + news.length)) hxx hcl hc1 hcd
        have hsh : ∀ k : Nat, (cur.toList.take (o + n * i.size) ++ news ++ cur.toList.drop (o + n * i.size + news.length)).toArray[o + k]? = ((cur.toList.drop o).take (n * i.size) ++ news ++ cur.toList.drop (o + n * i.size + news.length))[k]? := fun k => by
          rw [List.getElem?_toArray, List.take_add, List.append_assoc, List.append_assoc, List.append_assoc, List.getElem?_append_right (by simp; omega)]
          congr 1
          simp; omega
        refine ⟨_, _, _, _, hrun, hxx, ?_, by simp [Env.bump], hid⟩
        refine hr.moved hv hxx rfl rfl rfl (fun i' v hi' => by simp [Env.bump, hi']) (fun b t hb ht => ⟨setRow_other _ _ _ _ (fun e' => ?_), rfl⟩) (fun b t hb => by simpa using hr.own b t hb) (a := some ⟨g1, o, none⟩) (cap := cap) (by simp [Env.bump]) ?_ (bump_none k3)
        · subst e'; rw [h6] at hb; cases hb; exact ht rfl
        · refine .inr ⟨g1, o, _, rfl, hroom, h3, setRow_heap w g1 cur _ e (0, 0) h4, ?_, h6, fun k u hk hu => q1 k u hk (by rw [← hsh]; exact hu), fun i' j u hi' hj hu => q2 i' j u hi' hj (by rw [← hsh]; exact hu)⟩
          simp only [List.size_toArray, List.length_append, List.length_take, List.length_drop, Array.length_toList]
          omega
      · -- a new array
        have holds : ∀ j u, ((cur.toList.drop o).take (n * i.size))[j]? = some u → w.cell? ((⟨g1, o, none⟩ : Addr).add j) = some u := fun j u hu => by
          rw [List.getElem?_take] at hu
          split at hu
          · rw [List.getElem?_drop] at hu; rw [Addr.add_lit]; simp only [World.cell?, h4]; simpa using hu
          · cases hu
        have hrun := run_append_grow (P := P) w t tr e i z ht hi hz ⟨g1, o, none⟩ n cap ((cur.toList.drop o).take (n * i.size)) hcl holds A m c news hl hnews (by omega) (by simp only [maxLen] at h63; omega) (growslice_fits (by omega) hby)
        have hge := grownCap_ge w (n + m) cap e
        have hle2 := grownCap_le_maxLen w (n + m) cap e h63
        obtain ⟨E', q1, q2, q3, q4⟩ := fresh _ (grownCap w (n + m) cap e) (Builtin.zeroCells z.cells (grownCap w (n + m) cap e - (n + m))) hcl hc1 hcd hge hle2 (by rw [size_zeroCells', hzs])
        exact ⟨_, _, _, E', hrun, q1, q2, q3, q4⟩
end Go.Eng
end

/- One operation on symbolic values. -/
section
namespace Go.Eng
set_option linter.unusedVariables false
open Go.RowKit

/-- A zero cell: a plain value, or a nil slice (whose elements are to be of type e, sz cells each). -/
inductive ZC where
  | c (x : SV)
  | sl (e sz : Nat)
inductive TK where
  | slice (e : Nat) | array (n e : Nat) | struct (offs : List (Nat × Nat)) | int (k : IntKind) | bool | func | map (k v : Nat) | other
structure TI where
  kind : TK
  agg : Bool
  ifc : Bool
  size : Nat
  bytes : Nat
  zero : List ZC
  eq : Option (List LK)
  /-- Which fields are structs or arrays. -/
  fag : List Bool

/-- The cells of a type that is compared cell by cell. -/
def goF (P : Program) (rec : Nat → Option (List LK)) : List Field → List LK → Option (List LK)
  | [], acc => some acc
  | f :: fs, acc => if f.name ≠ "_" then if f.offset = acc.length then match rec f.type with
    | some ks => goF P rec fs (acc ++ ks)
    | none => none
    else none else none
def repK (ks : List LK) : Nat → List LK
  | 0 => []
  | n + 1 => ks ++ repK ks n
def flatK (P : Program) : Nat → Nat → Option (List LK)
  | 0, _ => none
  | d + 1, t => match P.underlying t with
    | some (.int _) => some [.i]
    | some .bool => some [.b]
    | some (.struct fs) => if P.stoodInHeld t = false then match goF P (flatK P d) fs.toList [] with
      | some ks => match P.info? t with
        | some i => if i.size = ks.length then some ks else none
        | none => none
      | none => none
      else none
    | some (.array n e) => match flatK P d e with
      | some ks => match P.info? t with
        | some i => match P.info? e with
          | some ie => if ie.size = ks.length ∧ i.size = n * ks.length ∧ P.cellsOf e = ks.length then some (repK ks n) else none
          | none => none
        | none => none
      | none => none
    | _ => none

def svS : Value → SV
  | .int k n => .int k n
  | .bool b => .bool b
  | .string s => .str s
  | .pointer none => .nilp
  | .slice none 0 _ => .row 0 1 (fun _ _ => .any)
  | .nilFunc => .nilf
  | .nilIface => .nili
  | _ => .any
def svL : List Value → List SV
  | [] => []
  | v :: l => svS v :: svL l
def svC : Value → SV
  | .agg cs => if cs.all (·.oneCell') then .agg (svL cs.toList) else .any
  | v => svS v
def ev (t : List SV) : Operand → SV
  | .tmp i => nth t i
  | .const v => svC v
  | .global _ => .any
  | .func f => .func f []

theorem svS_den (E : Env) (w : World) (v : Value) : Den E w (svS v) v := by
  unfold svS
  split
  · exact .int _ _
  · exact .bool _
  · exact .str _
  · exact .nilp
  · exact .rowZ _ _
  · exact .nilf
  · exact .nili
  · exact .any _
theorem svL_den (E : Env) (w : World) : ∀ (l : List Value), (svL l).length = l.length ∧ ∀ (i : Nat) (x : SV) (u : Value), (svL l)[i]? = some x → l[i]? = some u → Den E w x u
  | [] => ⟨rfl, fun i x u h => by simp [svL] at h⟩
  | v :: l => by
    obtain ⟨h1, h2⟩ := svL_den E w l
    refine ⟨by simp [svL, h1], fun i x u hx hu => ?_⟩
    cases i with
    | zero => simp [svL] at hx hu; subst hx hu; exact svS_den E w v
    | succ i => simp [svL] at hx hu; exact h2 i x u hx hu
theorem svC_den (E : Env) (w : World) (v : Value) : Den E w (svC v) v := by
  unfold svC
  split
  · rename_i cs
    split
    · rename_i h
      obtain ⟨h1, h2⟩ := svL_den E w cs.toList
      rw [Array.all_eq_true] at h
      refine .agg cs (by simp [h1]) (fun i u hu => ?_) (fun i x u hx hu => h2 i x u hx (by simpa using hu))
      obtain ⟨hi, rfl⟩ := Array.getElem?_eq_some_iff.1 hu
      exact h i hi
    · exact .any _
  · exact svS_den E w v
theorem ev_den {E : Env} {w : World} {t : List SV} {a : Act} (h : DenA E w t a.tmps) (x : Operand) : Den E w (ev t x) (a.eval x) := by
  cases x with
  | tmp i => exact h.nth i
  | const v => exact svC_den E w v
  | global g => exact .any _
  | func f => exact .func #[] rfl (fun i x u hx => by simp at hx)

inductive Res where
  | val (p : Prop) (v : SV) (h : HS)
  | skip (p : Prop) (h : HS)
  /-- One of two values: the first only if p. -/
  | fork (p : Prop) (v u : SV) (h : HS)
  | pan (v : SV)
  | call (g : Nat) (args : List SV)
  /-- A call for which something was made first. -/
  | callN (p : Prop) (g : Nat) (args : List SV) (h : HS)
  | round (nm fid : Nat) (t : List SV) (assign body : Code)
  /-- One of the values below n for which p is, or u if there is none. -/
  | pick (c : Prop) (n : Nat) (p : Nat → Bool) (v : Nat → SV) (g : Nat → HS) (u : SV) (h : HS)
  | bad

/-- What a result promises of the operation's run. -/
def ResOk (P : Program) (E : Env) (h : HS) (w : World) (r : Result Next) : Res → Prop
  | .val p v h' => p → ∃ val w' E', r = .ok (.value val) w' ∧ Den E' w' v val ∧ RelH E' h' w' ∧ Ext E w E' w'
  | .skip p h' => p → ∃ w' E', r = .ok .skip w' ∧ RelH E' h' w' ∧ Ext E w E' w'
  | .fork p v u h' => ∃ val w' E', r = .ok (.value val) w' ∧ ((p ∧ Den E' w' v val) ∨ Den E' w' u val) ∧ RelH E' h' w' ∧ Ext E w E' w'
  | .pan v => ∃ val, r = .halt (.panic val) w ∧ Den E w v val
  | .call g args => ∃ vals, r = .ok (.enter g vals) w ∧ DenA E w args vals
  | .callN p g args h' => p → ∃ vals E', r = .ok (.enter g vals) w ∧ DenA E' w args vals ∧ RelH E' h' w ∧ Ext E w E' w
  | .pick c n p v g u h' => c → (∃ i val w' E', i < n ∧ p i = true ∧ r = .ok (.value val) w' ∧ Den E' w' (v i) val ∧ RelH E' (g i) w' ∧ Ext E w E' w') ∨
      ((∀ i, i < n → p i = false) ∧ ∃ val w' E', r = .ok (.value val) w' ∧ Den E' w' u val ∧ RelH E' h' w' ∧ Ext E w E' w')
  | .round nm fid t assign body => ∃ tmps, r = .ok (.round (E.rho nm) fid tmps assign body) w ∧ DenA E w t tmps ∧ nm < E.nb
  | .bad => True

def aggD (P : Program) (t : TypeId) : Option Bool := match P.underlying t with
  | some d => some (match d with | .struct _ | .array _ _ => true | _ => false)
  | none => none
def aggV : Value → Bool
  | .agg _ => true
  | _ => false
/-- The tables of types say what the program says. -/
structure TIOk (P : Program) (t : Nat) (ti : TI) : Prop where
  one : ti.agg = false → ti.size = 1
  info : ∃ (i : TypeInfo) (z : Value), P.info? t = some i ∧ i.size = ti.size ∧ i.bytes = ti.bytes ∧ i.zero = some z ∧ z.cells.size = ti.size ∧ ti.zero.length = ti.size ∧
    (∀ (k : Nat) (u : Value), z.cells[k]? = some u → u.oneCell' = true ∧ match ti.zero[k]? with | some (.c x) => x = svS u | some (.sl _ sz) => u = .slice none 0 0 ∧ 0 < sz | none => False)
  desc : ∃ d, P.underlying t = some d ∧ ti.ifc = (match d with | .interface _ => true | _ => false) ∧ ti.agg = (match d with | .struct _ | .array _ _ => true | _ => false) ∧
    match ti.kind with
    | .slice e => d = .slice e
    | .array n e => d = .array n e
    | .struct offs => ∃ fs : Array Field, d = .struct fs ∧ (fs.toList.mapM fun f => (P.info? f.type).map fun i => (f.offset, i.size)) = some offs ∧ ∀ x ∈ offs, x.2 ≠ 0
    | .int k => d = .int k
    | .bool => d = .bool
    | .func => ∃ a b c, d = .func a b c
    | .map k v => d = .map k v
    | .other => True
  zag : ∀ i z, P.info? t = some i → i.zero = some z → aggV z = ti.agg
  fag : ∀ fs, P.underlying t = some (.struct fs) → fs.toList.map (fun f => aggD P f.type) = ti.fag.map some
  eqv : ∀ ks, ti.eq = some ks → flatK P 8 t = some ks ∧ P.eqGuardType P.depth t = false

theorem places_get {P : Program} : ∀ (fs : List Field) (offs : List (Nat × Nat)), (fs.mapM fun f => (P.info? f.type).map fun i => (f.offset, i.size)) = some offs →
    ∀ (k o s : Nat), offs[k]? = some (o, s) → ∃ f : Field, fs[k]? = some f ∧ f.offset = o ∧ ∃ i, P.info? f.type = some i ∧ i.size = s
  | [], offs, h, k, o, s, hk => by simp at h; subst h; simp at hk
  | f :: fs, offs, h, k, o, s, hk => by
    simp only [List.mapM_cons, Option.bind_eq_bind, Option.pure_def] at h
    cases hi : P.info? f.type with
    | none => simp [hi] at h
    | some i =>
      cases hr : fs.mapM (fun f => (P.info? f.type).map fun i => (f.offset, i.size)) with
      | none => simp [hi, hr] at h
      | some rest =>
        simp [hi, hr] at h
        subst h
        cases k with
        | zero => simp at hk; exact ⟨f, rfl, hk.1, i, hi, hk.2⟩
        | succ k => exact places_get fs rest hr k o s (by simpa using hk)

/- ### the kinds of operations -/
def rBin (op : BinOp) (a b : SV) (h : HS) : Res :=
  match op, a, b with
  | .add, .int k x, .int k' y => if k = k' then .val True (.int k (k.wrap (x + y))) h else .bad
  | .sub, .int k x, .int k' y => if k = k' then .val True (.int k (k.wrap (x - y))) h else .bad
  | .mul, .int k x, .int k' y => if k = k' then .val True (.int k (k.wrap (x * y))) h else .bad
  | .quo, .int k x, .int k' y => if k = k' then .val (y ≠ 0) (.int k (k.wrap (x.tdiv y))) h else .bad
  | .rem, .int k x, .int k' y => if k = k' then .val (y ≠ 0) (.int k (x.tmod y)) h else .bad
  | .shr, .int k x, .int _ y => .val (0 ≤ y) (.int k (x.fdiv (2 ^ (min y.toNat k.bits)))) h
  | .eql, .int k x, .int k' y => if k = k' then .val True (.bool (decide (x = y))) h else .bad
  | .neq, .int k x, .int k' y => if k = k' then .val True (.bool (!decide (x = y))) h else .bad
  | .lss, .int k x, .int k' y => if k = k' then .val True (.bool (decide (x < y))) h else .bad
  | .leq, .int k x, .int k' y => if k = k' then .val True (.bool (decide (x ≤ y))) h else .bad
  | .gtr, .int k x, .int k' y => if k = k' then .val True (.bool (decide (y < x))) h else .bad
  | .geq, .int k x, .int k' y => if k = k' then .val True (.bool (decide (y ≤ x))) h else .bad
  | _, _, _ => .bad

theorem rBin_ok {P : Program} {E : Env} {h : HS} {w : World} (hr : RelH E h w) {op : BinOp} {a b : SV} {va vb : Value} (ha : Den E w a va) (hb : Den E w b vb) (t : TypeId) (x y : Operand) :
    ResOk P E h w (((do eqGuard op t x y va vb; binOp op t va vb : Sem Value) >>= fun v => pure (Next.value v)).run P w) (rBin op a b h) := by
  have fin : ∀ (p : Prop) (v : SV) (val : Value), (p → ((do eqGuard op t x y va vb; binOp op t va vb : Sem Value) >>= fun v => pure (Next.value v)).run P w = .ok (.value val) w) → Den E w v val →
      ResOk P E h w (((do eqGuard op t x y va vb; binOp op t va vb : Sem Value) >>= fun v => pure (Next.value v)).run P w) (.val p v h) :=
    fun p v val h1 h2 hp => ⟨val, w, E, h1 hp, h2, hr, Ext.refl E w⟩
  unfold rBin
  split
  · cases ha; cases hb; split
    · rename_i e; subst e; exact fin _ _ _ (fun hp => by simp [eqGuard, binOp, Op.intArith]) (.int _ _)
    · trivial
  · cases ha; cases hb; split
    · rename_i e; subst e; exact fin _ _ _ (fun hp => by simp [eqGuard, binOp, Op.intArith]) (.int _ _)
    · trivial
  · cases ha; cases hb; split
    · rename_i e; subst e; exact fin _ _ _ (fun hp => by simp [eqGuard, binOp, Op.intArith]) (.int _ _)
    · trivial
  · cases ha; cases hb; split
    · rename_i e; subst e; exact fin _ _ _ (fun hp => by simp [eqGuard, binOp, Op.intDiv, show ¬ _ = (0 : Int) from hp]) (.int _ _)
    · trivial
  · cases ha; cases hb; split
    · rename_i e; subst e; exact fin _ _ _ (fun hp => by simp [eqGuard, binOp, Op.intDiv, show ¬ _ = (0 : Int) from hp]) (.int _ _)
    · trivial
  · cases ha; cases hb; exact fin _ _ _ (fun hp => by simp [eqGuard, binOp, Op.shift, Int.not_lt.2 hp]) (.int _ _)
  · cases ha; cases hb; split
    · rename_i e; subst e; exact fin _ _ _ (fun hp => by simp [eqGuard, binOp, Op.intCmp]; rfl) (.bool _)
    · trivial
  · cases ha; cases hb; split
    · rename_i e; subst e; exact fin _ _ _ (fun hp => by simp [eqGuard, binOp, Op.intCmp, bne]; rfl) (.bool _)
    · trivial
  · cases ha; cases hb; split
    · rename_i e; subst e; exact fin _ _ _ (fun hp => by simp [eqGuard, binOp, Op.intCmp]) (.bool _)
    · trivial
  · cases ha; cases hb; split
    · rename_i e; subst e; exact fin _ _ _ (fun hp => by simp [eqGuard, binOp, Op.intCmp]) (.bool _)
    · trivial
  · cases ha; cases hb; split
    · rename_i e; subst e; exact fin _ _ _ (fun hp => by simp [eqGuard, binOp, Op.intCmp]) (.bool _)
    · trivial
  · cases ha; cases hb; split
    · rename_i e; subst e; exact fin _ _ _ (fun hp => by simp [eqGuard, binOp, Op.intCmp]) (.bool _)
    · trivial
  · trivial

/- ### comparing -/
def eqS : List LK → List SV → List SV → Option Bool
  | [], [], [] => some true
  | .i :: ks, .int k x :: l, .int k' y :: m => if k = k' then match eqS ks l m with
    | some q => some (decide (x = y) && q)
    | none => none
    else none
  | .b :: ks, .bool x :: l, .bool y :: m => match eqS ks l m with
    | some q => some (x == y && q)
    | none => none
  | _, _, _ => none
def eqV : List LK → List Value → List Value → Option Bool
  | [], [], [] => some true
  | .i :: ks, .int k x :: l, .int k' y :: m => if k = k' then match eqV ks l m with
    | some q => some (decide (x = y) && q)
    | none => none
    else none
  | .b :: ks, .bool x :: l, .bool y :: m => match eqV ks l m with
    | some q => some (x == y && q)
    | none => none
  | _, _, _ => none
theorem eqS_eqV {E : Env} {w : World} : ∀ {ks : List LK} {l m : List SV} {us vs : List Value} {q : Bool}, eqS ks l m = some q → us.length = l.length → vs.length = m.length →
    (∀ (i : Nat) (x : SV) (u : Value), l[i]? = some x → us[i]? = some u → Den E w x u) → (∀ (i : Nat) (x : SV) (u : Value), m[i]? = some x → vs[i]? = some u → Den E w x u) → eqV ks us vs = some q := by
  intro ks l m
  fun_induction eqS ks l m with
  | case1 =>
    intro us vs q h h1 h2 _ _
    cases us <;> cases vs <;> simp at h1 h2
    simpa [eqV] using h
  | case2 ks x l k y m q0 h0 ih =>
    intro us vs q h h1 h2 d1 d2
    cases us with
    | nil => simp at h1
    | cons u us =>
      cases vs with
      | nil => simp at h2
      | cons v vs =>
        have a1 := d1 0 _ _ rfl rfl
        have a2 := d2 0 _ _ rfl rfl
        cases a1; cases a2
        have := ih (us := us) (vs := vs) h0 (by simpa using h1) (by simpa using h2) (fun i x u hx hu => d1 (i + 1) x u (by simpa using hx) (by simpa using hu)) (fun i x u hx hu => d2 (i + 1) x u (by simpa using hx) (by simpa using hu))
        simp [eqV, this]
        simpa using h
  | case3 => intro us vs q h; cases h
  | case4 => intro us vs q h; cases h
  | case5 ks x l y m q0 h0 ih =>
    intro us vs q h h1 h2 d1 d2
    cases us with
    | nil => simp at h1
    | cons u us =>
      cases vs with
      | nil => simp at h2
      | cons v vs =>
        have a1 := d1 0 _ _ rfl rfl
        have a2 := d2 0 _ _ rfl rfl
        cases a1; cases a2
        have := ih (us := us) (vs := vs) h0 (by simpa using h1) (by simpa using h2) (fun i x u hx hu => d1 (i + 1) x u (by simpa using hx) (by simpa using hu)) (fun i x u hx hu => d2 (i + 1) x u (by simpa using hx) (by simpa using hu))
        simp [eqV, this]
        simpa using h
  | case6 => intro us vs q h; cases h
  | case7 => intro us vs q h; cases h
theorem eqV_len : ∀ {ks : List LK} {us vs : List Value} {q : Bool}, eqV ks us vs = some q → us.length = ks.length ∧ vs.length = ks.length := by
  intro ks us vs
  fun_induction eqV ks us vs with
  | case1 => intro q h; exact ⟨rfl, rfl⟩
  | case2 ks x l k y m q0 h0 ih => intro q h; have := ih h0; simp [this]
  | case3 => intro q h; cases h
  | case4 => intro q h; cases h
  | case5 ks x l y m q0 h0 ih => intro q h; have := ih h0; simp [this]
  | case6 => intro q h; cases h
  | case7 => intro q h; cases h
theorem eqV_app : ∀ {ks js : List LK} {us vs : List Value} {q : Bool}, eqV (ks ++ js) us vs = some q →
    ∃ a b, eqV ks (us.take ks.length) (vs.take ks.length) = some a ∧ eqV js (us.drop ks.length) (vs.drop ks.length) = some b ∧ q = (a && b)
  | [], js, us, vs, q, h => ⟨true, q, by simp [eqV], by simpa using h, by simp⟩
  | .i :: ks, js, us, vs, q, h => by
    cases us with
    | nil => simp [eqV] at h
    | cons u us =>
      cases vs with
      | nil => cases u <;> simp [eqV] at h
      | cons v vs =>
        cases u <;> cases v <;> simp only [List.cons_append, eqV, reduceCtorEq] at h
        split at h
        · rename_i k x k' y e
          subst e
          split at h
          · rename_i q0 h0
            obtain ⟨a, b, h1, h2, rfl⟩ := eqV_app h0
            simp only [Option.some.injEq] at h
            refine ⟨decide (x = y) && a, b, by simp [eqV, h1], by simpa using h2, by rw [← h, Bool.and_assoc]⟩
          · cases h
        · cases h
  | .b :: ks, js, us, vs, q, h => by
    cases us with
    | nil => simp [eqV] at h
    | cons u us =>
      cases vs with
      | nil => cases u <;> simp [eqV] at h
      | cons v vs =>
        cases u <;> cases v <;> simp only [List.cons_append, eqV, reduceCtorEq] at h
        rename_i x y
        split at h
        · rename_i q0 h0
          obtain ⟨a, b, h1, h2, rfl⟩ := eqV_app h0
          simp only [Option.some.injEq] at h
          refine ⟨x == y && a, b, by simp [eqV, h1], by simpa using h2, by rw [← h, Bool.and_assoc]⟩
        · cases h

/-- Two parts compared. -/
def EqAt (P : Program) (w : World) (D t off : Nat) (xs ys : Array Value) (q : Bool) : Prop :=
  ∃ a b, (part t xs off).run P w = .ok a w ∧ (part t ys off).run P w = .ok b w ∧ (Op.equalIn D t a b).run P w = .ok q w
theorem goF_ok {P : Program} {w : World} {D : Nat} {rec : Nat → Option (List LK)}
    (hrec : ∀ t ks, rec t = some ks → ∀ (xs ys : Array Value) (off : Nat) (q : Bool), eqV ks ((xs.toList.drop off).take ks.length) ((ys.toList.drop off).take ks.length) = some q → EqAt P w D t off xs ys q) :
    ∀ (fs : List Field) (acc ks : List LK), goF P rec fs acc = some ks → ∃ js, ks = acc ++ js ∧ ∀ (xs ys : Array Value) (q : Bool), eqV js (xs.toList.drop acc.length) (ys.toList.drop acc.length) = some q → (Op.eqFields D xs ys fs).run P w = .ok q w
  | [], acc, ks, h => by
    simp only [goF, Option.some.injEq] at h
    subst h
    refine ⟨[], by simp, fun xs ys q hq => ?_⟩
    generalize xs.toList.drop acc.length = a at hq
    generalize ys.toList.drop acc.length = b at hq
    cases a <;> cases b <;> simp [eqV] at hq
    subst hq
    simp [Op.eqFields]
  | f :: fs, acc, ks, h => by
    simp only [goF] at h
    split at h
    · rename_i hn
      split at h
      · rename_i ho
        split at h
        · rename_i k1 hk1
          obtain ⟨js, e, hjs⟩ := goF_ok hrec fs _ _ h
          refine ⟨k1 ++ js, by rw [e, List.append_assoc], fun xs ys q hq => ?_⟩
          obtain ⟨a, b, ha, hb, rfl⟩ := eqV_app hq
          obtain ⟨va, vb, p1, p2, p3⟩ := hrec _ _ hk1 xs ys acc.length a ha
          simp only [Op.eqFields, if_pos hn, Sem.run_bind]
          rw [ho, p1]
          simp only [Result.andThen_ok, p2, p3]
          cases a with
          | false => simp
          | true =>
            have := hjs xs ys b (by simpa [List.drop_drop, Nat.add_comm] using hb)
            simpa using this
        · cases h
      · cases h
    · cases h
theorem repK_len' (ks : List LK) : ∀ n, (repK ks n).length = n * ks.length
  | 0 => by simp [repK]
  | n + 1 => by simp [repK, repK_len' ks n, Nat.add_mul, Nat.add_comm]
theorem flatK_size {P : Program} {d t : Nat} {ks : List LK} (h : flatK P d t = some ks) {dd : TypeDesc} (hag : true = (match dd with | .struct _ | .array _ _ => true | _ => false)) (hd : P.underlying t = some dd) : ∃ i, P.info? t = some i ∧ i.size = ks.length := by
  cases d with
  | zero => simp [flatK] at h
  | succ d =>
    unfold flatK at h
    rw [hd] at h
    split at h
    · rename_i he; cases he; simp at hag
    · rename_i he; cases he; simp at hag
    · split at h
      · split at h
        · split at h
          · rename_i i hi
            split at h
            · rename_i hs; cases h; exact ⟨i, hi, hs⟩
            · cases h
          · cases h
        · cases h
      · cases h
    · split at h
      · split at h
        · rename_i i hi
          split at h
          · split at h
            · rename_i hs; cases h; exact ⟨i, hi, by rw [hs.2.1, repK_len']⟩
            · cases h
          · cases h
        · cases h
      · cases h
    · cases h
theorem repK_len (ks : List LK) : ∀ n, (repK ks n).length = n * ks.length
  | 0 => by simp [repK]
  | n + 1 => by simp [repK, repK_len ks n, Nat.add_mul, Nat.add_comm]
theorem items_ok {P : Program} {w : World} {D e : Nat} {ks : List LK} (hc : P.cellsOf e = ks.length)
    (hrec : ∀ (xs ys : Array Value) (off : Nat) (q : Bool), eqV ks ((xs.toList.drop off).take ks.length) ((ys.toList.drop off).take ks.length) = some q → EqAt P w D e off xs ys q) (xs ys : Array Value) :
    ∀ (n i : Nat) (q : Bool), eqV (repK ks n) (xs.toList.drop (i * ks.length)) (ys.toList.drop (i * ks.length)) = some q → (Op.eqItems D e (P.cellsOf e) xs ys (List.range' i n)).run P w = .ok q w
  | 0, i, q, hq => by
    generalize xs.toList.drop (i * ks.length) = a at hq
    generalize ys.toList.drop (i * ks.length) = b at hq
    cases a <;> cases b <;> simp [repK, eqV] at hq
    subst hq
    simp [Op.eqItems]
  | n + 1, i, q, hq => by
    simp only [repK] at hq
    obtain ⟨a, b, ha, hb, rfl⟩ := eqV_app hq
    obtain ⟨va, vb, p1, p2, p3⟩ := hrec xs ys (i * ks.length) a ha
    simp only [List.range'_succ, Op.eqItems, Sem.run_bind]
    rw [hc, p1]
    simp only [Result.andThen_ok, p2, p3]
    cases a with
    | false => simp
    | true =>
      have := items_ok hc hrec xs ys n (i + 1) b (by simpa [List.drop_drop, Nat.add_mul, Nat.add_comm] using hb)
      rw [hc] at this
      simpa using this
theorem flatK_ok {P : Program} {w : World} : ∀ (d : Nat) (t : Nat) (ks : List LK), flatK P d t = some ks → ∀ D, d ≤ D → ∀ (xs ys : Array Value) (off : Nat) (q : Bool),
    eqV ks ((xs.toList.drop off).take ks.length) ((ys.toList.drop off).take ks.length) = some q → EqAt P w D t off xs ys q
  | 0, t, ks, h => by simp [flatK] at h
  | d + 1, t, ks, h => by
    intro D hD xs ys off q hq
    obtain ⟨D, rfl⟩ : ∃ D', D = D' + 1 := ⟨D - 1, by omega⟩
    have one : ∀ (xs : Array Value) (u : Value), (xs.toList.drop off).take 1 = [u] → xs[off]? = some u := by
      intro xs u h
      have : ((xs.toList.drop off).take 1)[0]? = some u := by rw [h]; rfl
      simpa [List.getElem?_take, List.getElem?_drop] using this
    unfold flatK at h
    split at h
    · rename_i k hu
      cases h
      simp only [List.length_cons, List.length_nil, Nat.zero_add] at hq
      generalize ha : (xs.toList.drop off).take 1 = la at hq
      generalize hb : (ys.toList.drop off).take 1 = lb at hq
      cases la with
      | nil => simp [eqV] at hq
      | cons u la =>
        cases lb with
        | nil => cases u <;> simp [eqV] at hq
        | cons v lb =>
          have la0 : la = [] := by have := congrArg List.length ha; simp at this; exact List.length_eq_zero_iff.1 (by omega)
          have lb0 : lb = [] := by have := congrArg List.length hb; simp at this; exact List.length_eq_zero_iff.1 (by omega)
          subst la0 lb0
          cases u <;> cases v <;> simp only [eqV, reduceCtorEq] at hq
          split at hq
          · rename_i k1 x k2 y e
            subst e
            simp at hq
            refine ⟨.int k1 x, .int k1 y, by simp [part, isAgg, run_underlying hu, one xs _ ha], by simp [part, isAgg, run_underlying hu, one ys _ hb], ?_⟩
            rw [run_equalIn_int w D t k1 k x y hu, ← hq]
            rfl
          · cases hq
    · rename_i hu
      cases h
      simp only [List.length_cons, List.length_nil, Nat.zero_add] at hq
      generalize ha : (xs.toList.drop off).take 1 = la at hq
      generalize hb : (ys.toList.drop off).take 1 = lb at hq
      cases la with
      | nil => simp [eqV] at hq
      | cons u la =>
        cases lb with
        | nil => cases u <;> simp [eqV] at hq
        | cons v lb =>
          have la0 : la = [] := by have := congrArg List.length ha; simp at this; exact List.length_eq_zero_iff.1 (by omega)
          have lb0 : lb = [] := by have := congrArg List.length hb; simp at this; exact List.length_eq_zero_iff.1 (by omega)
          subst la0 lb0
          cases u <;> cases v <;> simp only [eqV, reduceCtorEq] at hq
          rename_i x y
          simp at hq
          refine ⟨.bool x, .bool y, by simp [part, isAgg, run_underlying hu, one xs _ ha], by simp [part, isAgg, run_underlying hu, one ys _ hb], ?_⟩
          rw [run_equalIn_bool' w D t x y hu, ← hq]
    · rename_i fs hu
      split at h
      · rename_i hst
        split at h
        · rename_i ks' hg
          split at h
          · rename_i i hi
            split at h
            · rename_i hsz
              cases h
              have hf : P.fieldsOf t = fs := by simp [Program.fieldsOf, hu]
              obtain ⟨js, e, hjs⟩ := goF_ok (P := P) (w := w) (D := D) (rec := flatK P d) (fun t' k' hk' xs ys off q hq => flatK_ok d t' k' hk' D (by omega) xs ys off q hq) fs.toList [] _ hg
              simp only [List.nil_append] at e
              subst e
              have hA : (isAgg t).run P w = .ok true w := by simp [isAgg, run_underlying hu]
              have hS : (sizeOf t).run P w = .ok ks.length w := by simp [sizeOf, typeInfo, hi, hsz]
              refine ⟨.agg (xs.extract off (off + ks.length)), .agg (ys.extract off (off + ks.length)), by simp [part, hA, hS], by simp [part, hA, hS], ?_⟩
              rw [run_equalIn_agg w D t _ _ (by rw [hf]; exact hu) hst, hf]
              refine hjs _ _ q ?_
              have e2 : ∀ (zs : Array Value), (zs.extract off (off + ks.length)).toList = (zs.toList.drop off).take ks.length := by
                intro zs
                rw [Array.toList_extract]
                simp [List.extract]
              simpa [e2] using hq
            · cases h
          · cases h
        · cases h
      · cases h
    · rename_i n e hu
      split at h
      · rename_i ke hke
        split at h
        · rename_i i hi
          split at h
          · rename_i ie hie
            split at h
            · rename_i hh
              cases h
              obtain ⟨hs1, hs2, hs3⟩ := hh
              have hA : (isAgg t).run P w = .ok true w := by simp [isAgg, run_underlying hu]
              have hS : (sizeOf t).run P w = .ok (repK ke n).length w := by simp [sizeOf, typeInfo, hi, hs2, repK_len]
              refine ⟨.agg (xs.extract off (off + (repK ke n).length)), .agg (ys.extract off (off + (repK ke n).length)), by simp [part, hA, hS], by simp [part, hA, hS], ?_⟩
              rw [run_equalIn_array w D _ _ hu hie, List.range_eq_range']
              refine items_ok hs3 (fun xs ys off q hq => flatK_ok d e ke hke D (by omega) xs ys off q hq) _ _ n 0 q ?_
              have e2 : ∀ (zs : Array Value), (zs.extract off (off + (repK ke n).length)).toList = (zs.toList.drop off).take (repK ke n).length := by
                intro zs
                rw [Array.toList_extract]
                simp [List.extract]
              simpa [e2] using hq
            · cases h
          · cases h
        · cases h
      · cases h
    · cases h

def isNilSl (y : Operand) : Bool := match y with
  | .const (.slice none 0 0) => true
  | _ => false
def isConst : Operand → Bool
  | .const _ => true
  | _ => false
def neO (op : BinOp) (q : Bool) (h : HS) : Res :=
  match op with
  | .eql => .val True (.bool q) h
  | .neq => .val True (.bool (!q)) h
  | _ => .bad
def rEqA (ti : Option TI) (op : BinOp) (l m : List SV) (h : HS) : Res :=
  match ti with
  | some ti => if ti.agg then match ti.eq with
    | some ks => match eqS ks l m with
      | some q => neO op q h
      | none => .bad
    | none => .bad
    else .bad
  | none => .bad
def rEqB (ti : Option TI) (op : BinOp) (x y : Bool) (h : HS) : Res :=
  match ti with
  | some ti => match ti.kind with
    | .bool => neO op (x == y) h
    | _ => .bad
  | none => .bad
def rEqI (ti : Option TI) (op : BinOp) (q : Bool) (h : HS) : Res :=
  match ti with
  | some ti => if ti.ifc then neO op q h else .bad
  | none => .bad
def rEqF (ti : Option TI) (op : BinOp) (q : Bool) (h : HS) : Res :=
  match ti with
  | some ti => match ti.kind with
    | .func => neO op q h
    | _ => .bad
  | none => .bad
/-- c: one of the two is a constant. -/
def rBin2 (ti : Option TI) (c : Bool) (op : BinOp) (a b : SV) (h : HS) : Res :=
  match a with
  | .int k x => rBin op (.int k x) b h
  | .bool x => match b with
    | .bool y => rEqB ti op x y h
    | _ => .bad
  | .agg l => match b with
    | .agg m => rEqA ti op l m h
    | _ => .bad
  | .iface _ _ => match b with
    | .nili => rEqI ti op false h
    | _ => .bad
  | .nili => match b with
    | .nili => if c then rEqI ti op true h else .bad
    | _ => .bad
  | .nilf => match b with
    | .nilf => if c then rEqF ti op true h else .bad
    | _ => .bad
  | .func _ _ => match b with
    | .nilf => rEqF ti op false h
    | _ => .bad
  | .meth _ _ => match b with
    | .nilf => rEqF ti op false h
    | _ => .bad
  | _ => .bad

/-- A slice and nil: whether it is nil is not known, but then it is empty. -/
def vNil (a b : SV) (ver n : Nat) (h : HS) : Vc → Res
  | .live ver' _ _ N _ => .fork (ver = ver' → n = 0 ∨ N = 0) a b h
  | .dead => .bad
def nOf : Vc → Nat
  | .live _ _ _ n _ => n
  | .dead => 0
def rEqNil (ti : Option TI) (op : BinOp) (a : SV) (h : HS) : Res :=
  match ti with
  | some ti => match ti.kind with
    | .slice _ => match op, a with
      | .eql, .row n _ _ => .fork (n = 0) (.bool true) (.bool false) h
      | .neq, .row n _ _ => .fork (n = 0) (.bool false) (.bool true) h
      | .eql, .bsl _ _ _ => .val True (.bool false) h
      | .neq, .bsl _ _ _ => .val True (.bool true) h
      | .eql, .nils _ _ => .val True (.bool true) h
      | .neq, .nils _ _ => .val True (.bool false) h
      | .eql, .vec id ver => vNil (.bool true) (.bool false) ver (nOf (getV h.vecs id)) h (getV h.vecs id)
      | .neq, .vec id ver => vNil (.bool false) (.bool true) ver (nOf (getV h.vecs id)) h (getV h.vecs id)
      | .eql, .vcut id ver _ _ n _ => vNil (.bool true) (.bool false) ver n h (getV h.vecs id)
      | .neq, .vcut id ver _ _ n _ => vNil (.bool false) (.bool true) ver n h (getV h.vecs id)
      | _, _ => .bad
    | _ => .bad
  | none => .bad
def rBin3 (ti : Option TI) (c : Bool) (op : BinOp) (nl : Bool) (a b : SV) (h : HS) : Res :=
  match nl with
  | true => rEqNil ti op a h
  | false => rBin2 ti c op a b h
theorem Den.agg_inv {E : Env} {w : World} {l : List SV} {v : Value} (h : Den E w (.agg l) v) : ∃ us : Array Value, v = .agg us ∧ us.size = l.length ∧ ∀ (i : Nat) (x : SV) (u : Value), l[i]? = some x → us[i]? = some u → Den E w x u := by
  cases h
  rename_i us h1 hs hd
  exact ⟨us, rfl, hs, hd⟩
theorem eqI_nil {P : Program} (w : World) (d t : Nat) {ms : Array (String × TypeId)} (hd : P.underlying t = some (.interface ms)) (tx : TypeId) (v : Value) : (Op.equalIn (d + 1) t (.iface tx v) .nilIface).run P w = .ok false w := by
  simp [Op.equalIn, run_underlying hd]
theorem eqNN {P : Program} (w : World) (d t : Nat) {ms : Array (String × TypeId)} (hd : P.underlying t = some (.interface ms)) : (Op.equalIn (d + 1) t .nilIface .nilIface).run P w = .ok true w := by
  simp [Op.equalIn, run_underlying hd]
theorem eqF_nil {P : Program} (w : World) (d t : Nat) {x y z} (hd : P.underlying t = some (.func x y z)) (f : Fn) (a b : Array Value) : (Op.equalIn (d + 1) t (.func f a b) .nilFunc).run P w = .ok false w := by
  simp [Op.equalIn, run_underlying hd]
theorem eqFF {P : Program} (w : World) (d t : Nat) {x y z} (hd : P.underlying t = some (.func x y z)) : (Op.equalIn (d + 1) t .nilFunc .nilFunc).run P w = .ok true w := by
  simp [Op.equalIn, run_underlying hd]
theorem neO_ok {P : Program} {E : Env} {h : HS} {w : World} (hr : RelH E h w) {op : BinOp} {t : TypeId} {x y : Operand} {va vb : Value} {q : Bool}
    (hg : (eqGuard op t x y va vb).run P w = .ok () w) (h1 : (binOp .eql t va vb).run P w = .ok (.bool q) w) (h2 : (binOp .neq t va vb).run P w = .ok (.bool (!q)) w) :
    ResOk P E h w (((do eqGuard op t x y va vb; binOp op t va vb : Sem Value) >>= fun v => pure (Next.value v)).run P w) (neO op q h) := by
  unfold neO
  split
  · exact fun _ => ⟨.bool q, w, E, by simp [hg, h1], .bool _, hr, Ext.refl E w⟩
  · exact fun _ => ⟨.bool (!q), w, E, by simp [hg, h2], .bool _, hr, Ext.refl E w⟩
  · trivial
theorem rBin2_ok {P : Program} {T : Nat → Option TI} (hT : ∀ t ti, T t = some ti → TIOk P t ti) {E : Env} {h : HS} {w : World} (hr : RelH E h w) {op : BinOp} {a b : SV} {va vb : Value} (ha : Den E w a va) (hb : Den E w b vb) (t : TypeId) (x y : Operand) :
    ResOk P E h w (((do eqGuard op t x y va vb; binOp op t va vb : Sem Value) >>= fun v => pure (Next.value v)).run P w) (rBin2 (T t) (isConst x || isConst y) op a b h) := by
  unfold rBin2
  split
  · exact rBin_ok hr ha hb t x y
  · split
    · cases ha; cases hb
      unfold rEqB
      split
      · rename_i ti hti
        have k := hT t ti hti
        obtain ⟨d, hd, _, _, hkd⟩ := k.desc
        split
        · rename_i hk
          rw [hk] at hkd
          subst hkd
          refine neO_ok hr (by cases op <;> simp [eqGuard]) ?_ ?_
          · simp [binOp, Op.equal, Op.maxDepth, run_equalIn_bool' w 9999 t _ _ hd]
          · simp [binOp, Op.equal, Op.maxDepth, run_equalIn_bool' w 9999 t _ _ hd]
        · trivial
      · trivial
    · trivial
  · split
    · obtain ⟨us, rfl, hs1, hd1⟩ := ha.agg_inv
      obtain ⟨vs, rfl, hs2, hd2⟩ := hb.agg_inv
      unfold rEqA
      split
      · rename_i ti hti
        have k := hT t ti hti
        obtain ⟨d, hd, _, hag, _⟩ := k.desc
        split
        · rename_i hagg
          rw [hagg] at hag
          split
          · rename_i ks hks
            obtain ⟨k1, k2⟩ := k.eqv ks hks
            split
            · rename_i q hq
              have hv := eqS_eqV hq (us := us.toList) (vs := vs.toList) (by simpa using hs1) (by simpa using hs2) (fun i x u hx hu => hd1 i x u hx (by simpa using hu)) (fun i x u hx hu => hd2 i x u hx (by simpa using hu))
              obtain ⟨n1, n2⟩ := eqV_len hv
              have n1' : us.size = ks.length := by simpa using n1
              have n2' : vs.size = ks.length := by simpa using n2
              obtain ⟨va, vb, p1, p2, p3⟩ := flatK_ok (w := w) 8 t ks k1 10000 (by omega) us vs 0 q (by
                rw [show (List.drop 0 us.toList).take ks.length = us.toList from by rw [List.drop_zero]; exact List.take_of_length_le (by omega),
                  show (List.drop 0 vs.toList).take ks.length = vs.toList from by rw [List.drop_zero]; exact List.take_of_length_le (by omega)]
                exact hv)
              have hA : (isAgg t).run P w = .ok true w := by
                unfold isAgg
                cases d <;> simp at hag <;> simp [run_underlying hd]
              have hS : ∃ n, (sizeOf t).run P w = .ok n w ∧ n = ks.length := by
                obtain ⟨i, hi, hsz⟩ := flatK_size k1 hag hd
                exact ⟨i.size, by simp [sizeOf, typeInfo, hi], hsz⟩
              obtain ⟨n, hS, rfl⟩ := hS
              have hp : ∀ (zs : Array Value), zs.size = ks.length → (part t zs 0).run P w = .ok (.agg zs) w := by
                intro zs hz
                have : zs.extract 0 ks.length = zs := by rw [← hz]; simp
                simp [part, hA, hS, this]
              rw [hp us n1'] at p1
              rw [hp vs n2'] at p2
              cases p1; cases p2
              have hfin := p3
              exact neO_ok hr (run_eqGuard_agg w op t x y us vs k2) (by rw [run_eql_struct, hfin]; rfl) (by rw [run_neq_struct, hfin]; rfl)
            · trivial
          · trivial
        · trivial
      · trivial
    · trivial
  · split
    · cases ha; cases hb
      unfold rEqI
      split
      · rename_i ti hti
        have k := hT t ti hti
        obtain ⟨d, hd, hifc, _, hkd⟩ := k.desc
        split
        · rename_i hi
          rw [hi] at hifc
          cases d <;> simp at hifc
          refine neO_ok hr (by cases op <;> simp [eqGuard]) ?_ ?_
          · simp [binOp, Op.equal, Op.maxDepth, eqI_nil w 9999 t hd]
          · simp [binOp, Op.equal, Op.maxDepth, eqI_nil w 9999 t hd]
        · trivial
      · trivial
    · trivial
  · split
    · split
      · rename_i hc
        cases ha; cases hb
        unfold rEqI
        split
        · rename_i ti hti
          have k := hT t ti hti
          obtain ⟨d, hd, hifc, _, hkd⟩ := k.desc
          split
          · rename_i hi
            rw [hi] at hifc
            cases d <;> simp at hifc
            refine neO_ok hr ?_ ?_ ?_
            · cases x <;> cases y <;> simp [isConst] at hc <;> cases op <;> simp [eqGuard]
            · simp [binOp, Op.equal, Op.maxDepth, eqNN w 9999 t hd]
            · simp [binOp, Op.equal, Op.maxDepth, eqNN w 9999 t hd]
          · trivial
        · trivial
      · trivial
    · trivial
  · split
    · split
      · rename_i hc
        cases ha; cases hb
        unfold rEqF
        split
        · rename_i ti hti
          have k := hT t ti hti
          obtain ⟨d, hd, hifc, _, hkd⟩ := k.desc
          split
          · rename_i hk
            rw [hk] at hkd
            obtain ⟨x1, y1, z1, rfl⟩ := hkd
            refine neO_ok hr (by cases op <;> simp [eqGuard]) ?_ ?_
            · simp [binOp, Op.equal, Op.maxDepth, eqFF w 9999 t hd]
            · simp [binOp, Op.equal, Op.maxDepth, eqFF w 9999 t hd]
          · trivial
        · trivial
      · trivial
    · trivial
  · split
    · cases ha; cases hb
      unfold rEqF
      split
      · rename_i ti hti
        have k := hT t ti hti
        obtain ⟨d, hd, hifc, _, hkd⟩ := k.desc
        split
        · rename_i hk
          rw [hk] at hkd
          obtain ⟨x1, y1, z1, rfl⟩ := hkd
          refine neO_ok hr (by cases op <;> simp [eqGuard]) ?_ ?_
          · simp [binOp, Op.equal, Op.maxDepth, eqF_nil w 9999 t hd]
          · simp [binOp, Op.equal, Op.maxDepth, eqF_nil w 9999 t hd]
        · trivial
      · trivial
    · trivial
  · split
    · cases ha; cases hb
      unfold rEqF
      split
      · rename_i ti hti
        have k := hT t ti hti
        obtain ⟨d, hd, hifc, _, hkd⟩ := k.desc
        split
        · rename_i hk
          rw [hk] at hkd
          obtain ⟨x1, y1, z1, rfl⟩ := hkd
          refine neO_ok hr (by cases op <;> simp [eqGuard]) ?_ ?_
          · simp [binOp, Op.equal, Op.maxDepth, eqF_nil w 9999 t hd]
          · simp [binOp, Op.equal, Op.maxDepth, eqF_nil w 9999 t hd]
        · trivial
      · trivial
    · trivial
  · trivial
theorem row_nil {E : Env} {w : World} {n sz : Nat} {f : Nat → Nat → SV} {v : Value} (h : Den E w (.row n sz f) v) : ∃ a cap, v = .slice a n cap ∧ (a = none → n = 0) := by
  cases h with
  | row A cap => exact ⟨some A, cap, rfl, fun h => by cases h⟩
  | rowZ a cap => exact ⟨a, cap, rfl, fun _ => rfl⟩
theorem isNilSl_eq {y : Operand} (h : isNilSl y = true) : y = .const (.slice none 0 0) := by
  unfold isNilSl at h
  split at h
  · rfl
  · cases h
theorem eqSl {P : Program} (w : World) (d t : Nat) {e : TypeId} (hd : P.underlying t = some (.slice e)) (a : Option Addr) (n c : Nat) : (Op.equalIn (d + 1) t (.slice a n c) (.slice none 0 0)).run P w = .ok a.isNone w := by
  cases a <;> simp [Op.equalIn, run_underlying hd]
/-- An own slice that is nil has no elements. -/
theorem vec_nil {E : Env} {h : HS} {w : World} (hr : RelH E h w) {id ver : Nat} {v : Value} (hd : Den E w (.vec id ver) v) {ver' ty sz n f} (hv : getV h.vecs id = .live ver' ty sz n f) : ∃ a m cap, v = .slice a m cap ∧ (a = none → ver = ver' → n = 0 ∨ n = 0) := by
  cases hd with
  | @vec _ _ a m cap hi hval =>
    refine ⟨a, m, cap, rfl, fun ha hver => ?_⟩
    subst hver ha
    obtain ⟨_, ⟨a2, cap2, k1, k2⟩, _⟩ := hr.vec _ _ _ _ _ _ hv
    rw [k1] at hval
    cases hval
    rcases k2 with ⟨_, h0, _⟩ | ⟨g, o, cur, h1, _⟩
    · exact .inl h0
    · cases h1
theorem vcut_nil {E : Env} {h : HS} {w : World} (hr : RelH E h w) {id ver sz lo n : Nat} {x : Bool} {v : Value} (hd : Den E w (.vcut id ver sz lo n x) v) {ver' ty sz' N f} (hv : getV h.vecs id = .live ver' ty sz' N f) : ∃ a m cap, v = .slice a m cap ∧ (a = none → ver = ver' → n = 0 ∨ N = 0) := by
  obtain ⟨a, a', M, cap, rfl, hi, hval, hn, hc, ha, h0, hA, hB⟩ := hd.vcut_inv
  refine ⟨a', n, _, rfl, fun hn' hver => ?_⟩
  subst hver
  obtain ⟨_, ⟨a2, cap2, k1, k2⟩, _⟩ := hr.vec _ _ _ _ _ _ hv
  rw [k1] at hval
  cases hval
  rcases k2 with ⟨_, h1, _⟩ | ⟨g, o, cur, h1, _⟩
  · exact .inr h1
  · subst h1 hn'
    by_cases hz : n = 0
    · exact .inl hz
    · have := ha (by split <;> omega)
      simp at this
theorem rBin3_ok {P : Program} {T : Nat → Option TI} (hT : ∀ t ti, T t = some ti → TIOk P t ti) {E : Env} {h : HS} {w : World} (hr : RelH E h w) {op : BinOp} {a b : SV} {act : Act} {va : Value} (ha : Den E w a va) (t : TypeId) (x y : Operand) (hb : Den E w b (act.eval y)) :
    ResOk P E h w (((do eqGuard op t x y va (act.eval y); binOp op t va (act.eval y) : Sem Value) >>= fun v => pure (Next.value v)).run P w) (rBin3 (T t) (isConst x || isConst y) op (isNilSl y) a b h) := by
  unfold rBin3
  split
  · rename_i hn
    have := isNilSl_eq hn
    subst this
    unfold rEqNil
    split
    · rename_i ti hti
      obtain ⟨d, hd, _, _, hkd⟩ := (hT t ti hti).desc
      split
      · rename_i e hk
        rw [hk] at hkd
        subst hkd
        split
        · obtain ⟨A, cap, rfl, h0⟩ := row_nil ha
          refine ⟨.bool A.isNone, w, E, by simp [Act.eval, eqGuard, binOp, Op.equal, Op.maxDepth, eqSl w 9999 t hd], ?_, hr, Ext.refl E w⟩
          cases A with
          | none => exact .inl ⟨h0 rfl, .bool _⟩
          | some A => exact .inr (.bool _)
        · obtain ⟨A, cap, rfl, h0⟩ := row_nil ha
          refine ⟨.bool (!A.isNone), w, E, by simp [Act.eval, eqGuard, binOp, Op.equal, Op.maxDepth, eqSl w 9999 t hd], ?_, hr, Ext.refl E w⟩
          cases A with
          | none => exact .inl ⟨h0 rfl, .bool _⟩
          | some A => exact .inr (.bool _)
        · cases ha
          exact fun _ => ⟨.bool false, w, E, by simp [Act.eval, eqGuard, binOp, Op.equal, Op.maxDepth, eqSl w 9999 t hd], .bool _, hr, Ext.refl E w⟩
        · cases ha
          exact fun _ => ⟨.bool true, w, E, by simp [Act.eval, eqGuard, binOp, Op.equal, Op.maxDepth, eqSl w 9999 t hd], .bool _, hr, Ext.refl E w⟩
        · cases ha
          exact fun _ => ⟨.bool true, w, E, by simp [Act.eval, eqGuard, binOp, Op.equal, Op.maxDepth, eqSl w 9999 t hd], .bool _, hr, Ext.refl E w⟩
        · cases ha
          exact fun _ => ⟨.bool false, w, E, by simp [Act.eval, eqGuard, binOp, Op.equal, Op.maxDepth, eqSl w 9999 t hd], .bool _, hr, Ext.refl E w⟩
        · rename_i id ver
          unfold vNil
          split
          · rename_i hv
            rw [hv]
            obtain ⟨A, m, cap, rfl, h0⟩ := vec_nil hr ha hv
            refine ⟨.bool A.isNone, w, E, by simp [Act.eval, eqGuard, binOp, Op.equal, Op.maxDepth, eqSl w 9999 t hd], ?_, hr, Ext.refl E w⟩
            cases A with
            | none => exact .inl ⟨h0 rfl, .bool _⟩
            | some A => exact .inr (.bool _)
          · trivial
        · rename_i id ver
          unfold vNil
          split
          · rename_i hv
            rw [hv]
            obtain ⟨A, m, cap, rfl, h0⟩ := vec_nil hr ha hv
            refine ⟨.bool (!A.isNone), w, E, by simp [Act.eval, eqGuard, binOp, Op.equal, Op.maxDepth, eqSl w 9999 t hd], ?_, hr, Ext.refl E w⟩
            cases A with
            | none => exact .inl ⟨h0 rfl, .bool _⟩
            | some A => exact .inr (.bool _)
          · trivial
        · unfold vNil
          split
          · rename_i hv
            obtain ⟨A, m, cap, rfl, h0⟩ := vcut_nil hr ha hv
            refine ⟨.bool A.isNone, w, E, by simp [Act.eval, eqGuard, binOp, Op.equal, Op.maxDepth, eqSl w 9999 t hd], ?_, hr, Ext.refl E w⟩
            cases A with
            | none => exact .inl ⟨h0 rfl, .bool _⟩
            | some A => exact .inr (.bool _)
          · trivial
        · unfold vNil
          split
          · rename_i hv
            obtain ⟨A, m, cap, rfl, h0⟩ := vcut_nil hr ha hv
            refine ⟨.bool (!A.isNone), w, E, by simp [Act.eval, eqGuard, binOp, Op.equal, Op.maxDepth, eqSl w 9999 t hd], ?_, hr, Ext.refl E w⟩
            cases A with
            | none => exact .inl ⟨h0 rfl, .bool _⟩
            | some A => exact .inr (.bool _)
          · trivial
        · trivial
      · trivial
    · trivial
  · exact rBin2_ok hT hr ha hb t x y
end Go.Eng
end

/- Operations on memory: variables, fields, elements. -/
section
namespace Go.Eng
open Go.RowKit
set_option linter.unusedVariables false

theorem ResOk.pure {P : Program} {E : Env} {h : HS} {w : World} (hr : RelH E h w) {p : Prop} {v : SV} {val : Value} {r : Result Next} (h1 : p → r = .ok (.value val) w) (h2 : Den E w v val) : ResOk P E h w r (.val p v h) :=
  fun hp => ⟨val, w, E, h1 hp, h2, hr, Ext.refl E w⟩

/-- The pieces of a value that go into cells. -/
def cellsOf : SV → Option (List SV)
  | .agg l => some l
  | .any => none
  | .tup _ => none
  | x => some [x]

theorem cellsOf_den {E : Env} {w : World} {x : SV} {v : Value} (hd : Den E w x v) {l : List SV} (hl : cellsOf x = some l) : DenA E w l v.cells ∧ ∀ (k : Nat) (u : Value), v.cells[k]? = some u → u.oneCell' = true := by
  have one : ∀ (x : SV) (v : Value), Den E w x v → v.oneCell' = true → v.cells = #[v] → DenA E w [x] v.cells ∧ ∀ (k : Nat) (u : Value), v.cells[k]? = some u → u.oneCell' = true := by
    intro x v hd h1 hc
    rw [hc]
    refine ⟨⟨rfl, fun i y u hy hu => ?_⟩, fun k u hu => ?_⟩
    · cases i with
      | zero => simp at hy hu; subst hy hu; exact hd
      | succ i => simp at hy
    · cases k with
      | zero => simp at hu; subst hu; exact h1
      | succ k => simp at hu
  cases hd <;> simp only [cellsOf, Option.some.injEq, reduceCtorEq] at hl <;> first
    | (subst hl; refine one _ _ ?_ rfl rfl; first | exact .int _ _ | exact .bool _ | exact .str _ | exact .nilp | exact .nils ‹_› | exact .nilf | exact .nili | exact .yield ‹_› | (constructor <;> assumption) | exact .rowZ _ _ | exact .rptr _ _ ‹_› ‹_› ‹_› ‹_› ‹_› | exact .row _ _ _ ‹_› ‹_› ‹_› ‹_› ‹_› ‹_›)
    | (subst hl; rename_i vs hs h1 hd; exact ⟨⟨hs, hd⟩, h1⟩)

/-- A value out of some cells. -/
def ofCells (agg : Bool) (size : Nat) (l : List SV) (off : Nat) : SV :=
  if agg then .agg (takeN size (dropN off l)) else nth l off

theorem DenA.sub {E : Env} {w : World} {l : List SV} {vs : Array Value} (hd : DenA E w l vs) (off size : Nat) (h : off + size ≤ l.length) :
    DenA E w (takeN size (dropN off l)) (vs.extract off (off + size)) := by
  have hs : vs.size = l.length := hd.1
  refine ⟨by simp [takeN_eq, dropN_eq, hs]; omega, fun i x u hx hu => ?_⟩
  rw [takeN_eq, dropN_eq, List.getElem?_take] at hx
  rw [Array.getElem?_extract] at hu
  split at hx
  · rw [List.getElem?_drop] at hx
    split at hu
    · exact hd.2 _ x u hx (by simpa [Nat.add_comm] using hu)
    · cases hu
  · cases hx

theorem run_loadVar_own {P : Program} {w : World} {g : Nat} {cs : Array Value} {ty : TypeId} (hg : w.heap[g]? = some (.cells cs ty (0, 0))) {t : TypeId} {ti : TI} (hT : TIOk P t ti) (off : Nat) (ho : off + ti.size ≤ cs.size) (h1 : ti.agg = false → ti.size = 1) :
    (loadVar t ⟨g, off, none⟩).run P w = .ok (if ti.agg then .agg (cs.extract off (off + ti.size)) else cs.getD off undef) w := by
  obtain ⟨i, z, hi, hsz, _⟩ := hT.info
  obtain ⟨d, hd, _, hag, _⟩ := hT.desc
  have hc : ∀ j, j < ti.size → w.cell? ((⟨g, off, none⟩ : Addr).add j) = some (cs.getD (off + j) undef) := fun j hj => by
    rw [Addr.add_lit]
    have : off + j < cs.size := by omega
    simp [World.cell?, hg, this, Array.getD]
  cases hb : ti.agg with
  | true =>
    rw [hb] at hag
    have hA : (isAgg t).run P w = .ok true w := by
      unfold isAgg
      cases d <;> simp at hag <;> simp [run_underlying hd]
    have hS : (sizeOf t).run P w = .ok ti.size w := by simp [sizeOf, typeInfo, hi, hsz]
    have hL := run_loadCells (P := P) w ⟨g, off, none⟩ ti.size (fun j => cs.getD (off + j) undef) hc
    simp only [loadVar, Sem.run_bind, hA, Result.andThen_ok, if_true, hS, hL, Sem.run_pure]
    congr 2
    apply Array.ext'
    apply List.ext_getElem?
    intro j
    by_cases hj : j < ti.size
    · have h3 : off + j < cs.size := by omega
      rw [List.getElem?_map, List.getElem?_range hj]
      rw [Array.getElem?_toList, Array.getElem?_extract, if_pos (by omega)]
      simp [Array.getD, h3]
    · rw [List.getElem?_eq_none (by simp; omega), List.getElem?_eq_none (by simp; omega)]
  | false =>
    rw [hb] at hag
    have hA : (isAgg t).run P w = .ok false w := by
      unfold isAgg
      cases d <;> simp at hag <;> simp [run_underlying hd]
    have h0 := hc 0 (by have := h1 hb; omega)
    simp only [Addr.add_zero', Nat.add_zero] at h0
    simp [loadVar, hA, h0]

theorem run_loadVar_at {P : Program} {w : World} {A : Addr} {sz : Nat} {g : Nat → Value} (hc : ∀ j, j < sz → w.cell? (A.add j) = some (g j)) {t : TypeId} {ti : TI} (hT : TIOk P t ti) (ho : ti.size ≤ sz) (h1 : ti.agg = false → ti.size = 1) :
    (loadVar t A).run P w = .ok (if ti.agg then .agg ((List.range ti.size).map g).toArray else g 0) w := by
  obtain ⟨i, z, hi, hsz, _⟩ := hT.info
  obtain ⟨d, hd, _, hag, _⟩ := hT.desc
  cases hb : ti.agg with
  | true =>
    rw [hb] at hag
    have hA : (isAgg t).run P w = .ok true w := by
      unfold isAgg
      cases d <;> simp at hag <;> simp [run_underlying hd]
    have hS : (sizeOf t).run P w = .ok ti.size w := by simp [sizeOf, typeInfo, hi, hsz]
    have hL := run_loadCells (P := P) w A ti.size g (fun j hj => hc j (by omega))
    simp only [loadVar, Sem.run_bind, hA, Result.andThen_ok, if_true, hS, hL, Sem.run_pure]
  | false =>
    rw [hb] at hag
    have hA : (isAgg t).run P w = .ok false w := by
      unfold isAgg
      cases d <;> simp at hag <;> simp [run_underlying hd]
    have h0 := hc 0 (by have := h1 hb; omega)
    simp only [Addr.add_zero'] at h0
    simp [loadVar, hA, h0]
end Go.Eng
end

/- Loads, stores, fields, elements: their results and that they are right. -/
section
namespace Go.Eng
open Go.RowKit
set_option linter.unusedVariables false

def lenS : List SV → Nat
  | [] => 0
  | _ :: l => lenS l + 1
theorem lenS_eq (l : List SV) : lenS l = l.length := by induction l <;> simp [lenS, *]
def cellsF (f : Nat → SV) : Nat → Nat → List SV
  | 0, _ => []
  | n + 1, k => f k :: cellsF f n (k + 1)
theorem cellsF_get (f : Nat → SV) : ∀ (n k i : Nat), (cellsF f n k)[i]? = if i < n then some (f (k + i)) else none
  | 0, k, i => by simp [cellsF]
  | n + 1, k, 0 => by simp [cellsF]
  | n + 1, k, i + 1 => by
    simp only [cellsF, List.getElem?_cons_succ, cellsF_get f n (k + 1) i]
    by_cases h : i < n
    · rw [if_pos h, if_pos (by omega)]; congr 2; omega
    · rw [if_neg h, if_neg (by omega)]
theorem cellsF_len (f : Nat → SV) : ∀ (n k : Nat), (cellsF f n k).length = n
  | 0, _ => rfl
  | n + 1, k => by simp [cellsF, cellsF_len f n (k + 1)]

def rLoad (ti : TI) (h : HS) (addr : SV) : Res :=
  match addr with
  | .ptr nm off => match getB h.blks nm with
    | .live _ cells => .val (off + ti.size ≤ lenS cells) (ofCells ti.agg ti.size cells off) h
    | _ => .bad
  | .rptr sz f => .val (ti.size ≤ sz) (if ti.agg then .agg (cellsF f ti.size 0) else f 0) h
  | .vptr id ver sz i off => match getV h.vecs id with
    | .live ver' _ sz' n f => .val (ver = ver' ∧ sz = sz' ∧ i < n ∧ off + ti.size ≤ sz) (if ti.agg then .agg (cellsF (fun j => f i (off + j)) ti.size 0) else f i off) h
    | .dead => .bad
  | _ => .bad

def LoadOk (P : Program) (E : Env) (h : HS) (w : World) (t : TypeId) (v : Value) : Res → Prop
  | .val p u h' => p → ∃ A val, v = .pointer (some A) ∧ (loadVar t A).run P w = .ok val w ∧ Den E w u val ∧ h' = h
  | .bad => True
  | _ => False
theorem rLoad_at {P : Program} {E : Env} {h : HS} {w : World} (hr : RelH E h w) {t : TypeId} {ti : TI} (hT : TIOk P t ti) {x : SV} {v : Value} (hd : Den E w x v) :
    LoadOk P E h w t v (rLoad ti h x) := by
  unfold rLoad
  split
  · rename_i nm off
    split
    · rename_i ty cells hb
      cases hd
      obtain ⟨cs, h1, h2, h3, h4⟩ := hr.blk _ _ _ hb
      intro hp
      rw [lenS_eq] at hp
      have hsz := h2.1
      refine ⟨_, _, rfl, (run_loadVar_own h1 hT off (by omega) hT.one), ?_, rfl⟩
      unfold ofCells
      cases hb : ti.agg with
      | true =>
        have hs := h2.sub off ti.size (by omega)
        refine .agg _ hs.1 (fun i u hu => ?_) hs.2
        rw [Array.getElem?_extract] at hu
        split at hu
        · exact h3 _ _ hu
        · cases hu
      | false => exact h2.nth off
    · trivial
  · rename_i sz f
    cases hd
    rename_i A g hA ho hc h1 hd
    intro hp
    refine ⟨_, _, rfl, (run_loadVar_at hc hT hp hT.one), ?_, rfl⟩
    cases hb : ti.agg with
    | true =>
      refine .agg _ (by simp [cellsF_len]) (fun i u hu => ?_) (fun i y u hy hu => ?_)
      · simp only [List.getElem?_toArray] at hu
        by_cases hi : i < ti.size
        · rw [List.getElem?_map, List.getElem?_range hi] at hu
          simp only [Option.map_some, Option.some.injEq] at hu
          rw [← hu]; exact h1 i (by omega)
        · rw [List.getElem?_eq_none (by simp; omega)] at hu; cases hu
      · rw [cellsF_get] at hy
        simp only [List.getElem?_toArray] at hu
        split at hy
        · rename_i hi
          rw [List.getElem?_map, List.getElem?_range hi] at hu
          simp only [Option.map_some, Option.some.injEq, Nat.zero_add] at hu hy
          rw [← hu, ← hy]; exact hd i (by omega)
        · cases hy
    | false => exact hd 0 (by have := hT.one hb; omega)
  · rename_i id ver sz i off
    split
    · rename_i ver' ty sz' n f hv
      rintro ⟨rfl, rfl, hi, hs⟩
      obtain ⟨h0, ⟨a, cap, k1, k2⟩, k3⟩ := hr.vec _ _ _ _ _ _ hv
      cases hd
      rename_i b o n' cap' hid hval
      rw [k1] at hval
      simp only [Option.some.injEq, Prod.mk.injEq] at hval
      obtain ⟨rfl, rfl, rfl⟩ := hval
      rcases k2 with ⟨_, hk, _⟩ | ⟨g1, o1, cur, hk, h2, h3, h4, h5, h6, h7, h8⟩
      · omega
      · cases hk
        have hlt : ∀ j, j < sz → i * sz + j < n * sz := fun j hj => idx_lt hi hj
        have hsz2 : o + n * sz ≤ cur.size := Nat.le_trans (Nat.add_le_add_left (Nat.mul_le_mul_right _ h2) _) h5
        by_cases hts : ti.size = 0
        · cases hb : ti.agg with
          | false => have := hT.one hb; omega
          | true =>
            have hl0 := run_loadVar_own (P := P) h4 hT (o + (i * sz + off)) (by have := hlt (sz - 1) (by omega); omega) hT.one
            rw [hb] at hl0
            refine ⟨_, _, rfl, hl0, ?_, rfl⟩
            simp only [hts, Nat.add_zero, if_true, cellsF]
            refine .agg _ (by simp; omega) (fun i u hu => ?_) (fun i x u hx => by simp at hx)
            rw [Array.getElem?_extract] at hu
            split at hu
            · omega
            · cases hu
        · have hl0 := run_loadVar_own (P := P) h4 hT (o + (i * sz + off)) (by have := hlt (off + ti.size - 1) (by omega); omega) hT.one
          refine ⟨_, _, rfl, hl0, ?_, rfl⟩
          have hget : ∀ j, off + j < sz → ∃ u, cur[o + (i * sz + off) + j]? = some u ∧ Den E w (f i (off + j)) u ∧ u.oneCell' = true := fun j hj => by
            have hl := hlt (off + j) hj
            have hlc : o + (i * sz + off) + j < cur.size := by omega
            have e : o + (i * sz + (off + j)) = o + (i * sz + off) + j := by omega
            refine ⟨cur[o + (i * sz + off) + j], Array.getElem?_eq_getElem hlc, h8 i (off + j) _ hi hj (by rw [e]; exact Array.getElem?_eq_getElem hlc), h7 (i * sz + (off + j)) _ (by omega) (by rw [e]; exact Array.getElem?_eq_getElem hlc)⟩
          cases hb : ti.agg with
          | true =>
            refine .agg _ (by simp [cellsF_len]; have := hlt (off + ti.size - 1) (by omega); omega) (fun j u hu => ?_) (fun j y u hy hu => ?_)
            · rw [Array.getElem?_extract] at hu
              split at hu
              · rename_i hj
                obtain ⟨u', e1, e2, e3⟩ := hget j (by omega)
                rw [e1] at hu; cases hu; exact e3
              · cases hu
            · rw [cellsF_get] at hy
              rw [Array.getElem?_extract] at hu
              split at hy
              · rename_i hj
                obtain ⟨u', e1, e2, e3⟩ := hget j (by omega)
                simp only [Option.some.injEq, Nat.zero_add] at hy
                split at hu
                · rw [e1] at hu; cases hu; rw [← hy]; exact e2
                · cases hu
              · cases hy
          | false =>
            have := hT.one hb
            obtain ⟨u', e1, e2, e3⟩ := hget 0 (by omega)
            simp only [Nat.add_zero] at e1 e2
            simp only [Bool.false_eq_true, if_false]
            have hlc : o + (i * sz + off) < cur.size := (Array.getElem?_eq_some_iff.1 e1).1
            simp only [Array.getD, hlc, dif_pos]
            have : cur[o + (i * sz + off)] = u' := by rw [Array.getElem?_eq_getElem hlc] at e1; exact Option.some.inj e1
            rw [show cur.getInternal (o + (i * sz + off)) hlc = u' from this]
            exact e2
    · trivial
  · trivial

theorem rLoad_ok {P : Program} {E : Env} {h : HS} {w : World} (hr : RelH E h w) {t : TypeId} {ti : TI} (hT : TIOk P t ti) {x : SV} {v : Value} (hd : Den E w x v) :
    ResOk P E h w ((Instr.loadAt t v >>= fun v => pure (Next.value v)).run P w) (rLoad ti h x) := by
  have h0 := rLoad_at hr hT hd
  cases hl : rLoad ti h x with
  | val p u h' =>
    rw [hl] at h0
    intro hp
    obtain ⟨A, val, rfl, h1, h2, rfl⟩ := h0 hp
    exact ⟨val, w, E, by simp [Instr.loadAt, Instr.sureAddr, h1], h2, hr, Ext.refl E w⟩
  | bad => trivial
  | skip p h' => rw [hl] at h0; exact h0.elim
  | fork _ _ _ _ => rw [hl] at h0; exact h0.elim
  | pan v => rw [hl] at h0; exact h0.elim
  | call g args => rw [hl] at h0; exact h0.elim
  | callN _ _ _ _ => rw [hl] at h0; exact h0.elim
  | round _ _ _ _ _ => rw [hl] at h0; exact h0.elim
  | pick _ _ _ _ _ _ _ => rw [hl] at h0; exact h0.elim
end Go.Eng
end

/- Stores, fields, elements, building. -/
section
namespace Go.Eng
open Go.RowKit
set_option linter.unusedVariables false

theorem over_len : ∀ (l : List SV) (n : Nat) (ys : List SV), (over l n ys).length = l.length
  | l, n, [] => rfl
  | l, n, y :: ys => by simp only [over]; rw [over_len]; simp [upd_eq]
theorem over_eq : ∀ (l : List SV) (n : Nat) (ys : List SV), n + ys.length ≤ l.length → over l n ys = l.take n ++ ys ++ l.drop (n + ys.length)
  | l, n, [], h => by simp [over]
  | l, n, y :: ys, h => by
    simp only [over]
    have hn : n < l.length := by simp at h; omega
    rw [over_eq _ _ _ (by simp [upd_eq] at h ⊢; omega), upd_eq]
    apply List.ext_getElem?
    intro k
    simp only [List.append_assoc, List.length_cons]
    by_cases h1 : k < n
    · rw [List.getElem?_append_left (by simp; omega), List.getElem?_append_left (by simp; omega), List.getElem?_take, List.getElem?_take, if_pos (by omega), if_pos h1, List.getElem?_set_ne (by omega)]
    · by_cases h2 : k = n
      · subst h2
        rw [List.getElem?_append_left (by simp; omega), List.getElem?_take, if_pos (by omega), List.getElem?_set_self hn, List.getElem?_append_right (by simp; omega)]
        simp [List.length_take, Nat.min_eq_left (Nat.le_of_lt hn)]
      · by_cases h3 : k < n + 1 + ys.length
        · rw [List.getElem?_append_right (by simp; omega), List.getElem?_append_left (by simp; omega), List.getElem?_append_right (by simp; omega)]
          simp only [List.length_take, List.length_set]
          rw [Nat.min_eq_left (by omega), Nat.min_eq_left (by omega)]
          rw [show k - n = (k - (n + 1)) + 1 by omega, List.cons_append, List.getElem?_cons_succ, List.getElem?_append_left (by omega)]
        · rw [List.getElem?_append_right (by simp; omega), List.getElem?_append_right (by simp; omega), List.getElem?_append_right (by simp; omega)]
          simp only [List.length_take, List.length_set]
          rw [Nat.min_eq_left (by omega), Nat.min_eq_left (by omega)]
          rw [show k - n = (k - (n + 1)) + 1 by omega, List.cons_append, List.getElem?_cons_succ, List.getElem?_append_right (by omega), List.getElem?_drop, List.getElem?_drop, List.getElem?_set_ne (by omega)]
          congr 1
          omega

theorem DenA.over {E : Env} {w : World} {l : List SV} {vs : Array Value} (hd : DenA E w l vs) {ys : List SV} {us : Array Value} (hu : DenA E w ys us) {off : Nat} (h : off + ys.length ≤ l.length) :
    DenA E w (over l off ys) (vs.toList.take off ++ us.toList ++ vs.toList.drop (off + us.toList.length)).toArray := by
  have hs := hd.1
  have hs2 := hu.1
  rw [over_eq _ _ _ h]
  refine ⟨by simp [hs2]; omega, fun i x u hx hux => ?_⟩
  simp only [List.getElem?_toArray] at hux
  by_cases h1 : i < off
  · rw [List.append_assoc, List.getElem?_append_left (by simp; omega), List.getElem?_take, if_pos h1] at hx hux
    exact hd.2 i x u hx (by simpa using hux)
  · by_cases h2 : i < off + ys.length
    · rw [List.append_assoc, List.getElem?_append_right (by simp; omega), List.getElem?_append_left (by simp; omega)] at hx hux
      simp only [List.length_take, Array.length_toList] at hx hux
      rw [Nat.min_eq_left (by omega)] at hx hux
      exact hu.2 _ x u hx (by simpa using hux)
    · rw [List.getElem?_append_right (by simp; omega)] at hx hux
      simp only [List.length_append, List.length_take, Array.length_toList] at hx hux
      rw [Nat.min_eq_left (by omega), List.getElem?_drop] at hx hux
      rw [hs2] at hux
      refine hd.2 _ x u hx ?_
      simpa using hux

theorem one_over {vs us : Array Value} (h1 : ∀ (k : Nat) (u : Value), vs[k]? = some u → u.oneCell' = true) (h2 : ∀ (k : Nat) (u : Value), us[k]? = some u → u.oneCell' = true) (off : Nat) :
    ∀ (k : Nat) (u : Value), (vs.toList.take off ++ us.toList ++ vs.toList.drop (off + us.toList.length)).toArray[k]? = some u → u.oneCell' = true := by
  intro k u hu
  have hm := List.mem_of_getElem? (by simpa using hu : (vs.toList.take off ++ (us.toList ++ vs.toList.drop (off + us.toList.length)))[k]? = some u)
  simp only [List.mem_append] at hm
  have hv : ∀ x ∈ vs.toList, x.oneCell' = true := fun x hx => by obtain ⟨j, hj⟩ := List.getElem?_of_mem hx; exact h1 j x (by simpa using hj)
  rcases hm with hm | hm | hm
  · exact hv _ (List.mem_of_mem_take hm)
  · obtain ⟨j, hj⟩ := List.getElem?_of_mem hm; exact h2 j u (by simpa using hj)
  · exact hv _ (List.mem_of_mem_drop hm)

def updF (f : Nat → Nat → SV) (i off size : Nat) (l : List SV) : Nat → Nat → SV := fun i' j' => if i' = i ∧ off ≤ j' ∧ j' < off + size then nth l (j' - off) else f i' j'

def rStore (ti : TI) (h : HS) (addr v : SV) : Res :=
  match cellsOf v with
  | none => .bad
  | some l => match addr with
    | .ptr nm off => match getB h.blks nm with
      | .live ty cells => .skip (lenS l = ti.size ∧ off + ti.size ≤ lenS cells) { h with blks := setB h.blks nm (.live ty (over cells off l)) }
      | _ => .bad
    | .vptr id ver sz i off => match getV h.vecs id with
      | .live ver' ty sz' n f => .skip (lenS l = ti.size ∧ ver = ver' ∧ sz = sz' ∧ i < n ∧ off + ti.size ≤ sz) { h with vecs := setV h.vecs id (.live ver' ty sz' n (updF f i off ti.size l)) }
      | .dead => .bad
    | _ => .bad

theorem run_storeVar_own {P : Program} {w : World} {g : Nat} {cs : Array Value} {ty : TypeId} (hg : w.heap[g]? = some (.cells cs ty (0, 0))) {t : TypeId} {ti : TI} (hT : TIOk P t ti) (off : Nat) (v : Value)
    (hs : v.cells.size = ti.size) (ho : off + ti.size ≤ cs.size) (h1 : ∀ (k : Nat) (u : Value), v.cells[k]? = some u → u.oneCell' = true) :
    (storeVar t ⟨g, off, none⟩ v).run P w = .ok () (w.setRow g (cs.toList.take off ++ v.cells.toList ++ cs.toList.drop (off + v.cells.toList.length)).toArray) := by
  obtain ⟨i, z, hi, hsz, _⟩ := hT.info
  have hst := run_storeCells_at P g off ty v.cells.toList 0 cs w hg (by simp [hs]; omega) (fun u hu => by obtain ⟨j, hj⟩ := List.getElem?_of_mem hu; exact h1 j u (by simpa using hj))
  simp only [Nat.add_zero] at hst
  simp [storeVar, sizeOf, typeInfo, hi, hs, hsz, hst]

/-- A write into an own slice's elements. -/
theorem RelH.vwrite {E : Env} {h : HS} {w : World} (hr : RelH E h w) {id ver : Nat} {ty : TypeId} {sz n : Nat} {f : Nat → Nat → SV} (hv : getV h.vecs id = .live ver ty sz n f)
    {g o : Nat} {cap : Nat} (hval : E.val id ver = some (some ⟨g, o, none⟩, n, cap)) {cur : Array Value} (hg : w.heap[g]? = some (.cells cur ty (0, 0))) (ho : E.own g = some (.vec id))
    (cs : Array Value) (f' : Nat → Nat → SV) (hs : cs.size = cur.size) (h1 : ∀ (k : Nat) (u : Value), k < n * sz → cs[o + k]? = some u → u.oneCell' = true)
    (hd : ∀ i j u, i < n → j < sz → cs[o + (i * sz + j)]? = some u → Den E w (f' i j) u) :
    RelH E { h with vecs := setV h.vecs id (.live ver ty sz n f') } (w.setRow g cs) ∧ Ext E w E (w.setRow g cs) := by
  have hx : Ext E w E (w.setRow g cs) := ext_setRow ho (by intro e; cases e) cs
  obtain ⟨h0, ⟨a, cap', k1, k2⟩, k3⟩ := hr.vec _ _ _ _ _ _ hv
  rw [hval] at k1
  simp only [Option.some.injEq, Prod.mk.injEq, true_and] at k1
  obtain ⟨rfl, rfl⟩ := k1
  refine ⟨hr.moved hv hx rfl rfl rfl (fun _ _ _ => rfl) (fun b t hb ht => ⟨setRow_other _ _ _ _ (fun e => ?_), rfl⟩) (fun b t hb => by simpa using hr.own b t hb) hval ?_ k3, hx⟩
  · subst e; rw [ho] at hb; cases hb; exact ht rfl
  · rcases k2 with ⟨hk, hk2, hk3⟩ | ⟨g1, o1, cur1, hk, h2, h3, h4, h5, h6, h7, h8⟩
    · exact .inl ⟨hk, hk2, hk3⟩
    · cases hk
      rw [hg] at h4
      cases h4
      exact .inr ⟨g, o, cs, rfl, h2, h3, setRow_heap w g cur cs ty (0, 0) hg, (by rw [hs]; exact h5), ho, h1, fun i j u hi hj hu => (hd i j u hi hj hu).ext hx⟩

theorem rStore_ok {P : Program} {E : Env} {h : HS} {w : World} (hr : RelH E h w) {t : TypeId} {ti : TI} (hT : TIOk P t ti) {x y : SV} {vx vy : Value} (hx : Den E w x vx) (hy : Den E w y vy) :
    ResOk P E h w ((Instr.storeAt t vx vy >>= fun _ => (pure Next.skip : Sem Next)).run P w) (rStore ti h x y) := by
  have fin : ∀ (A : Addr) (w' : World), vx = .pointer (some A) → (storeVar t A vy).run P w = .ok () w' → (Instr.storeAt t vx vy >>= fun _ => (pure Next.skip : Sem Next)).run P w = .ok .skip w' := by
    rintro A w' rfl hl
    simp [Instr.storeAt, Instr.sureAddr, hl]
  unfold rStore
  split
  · trivial
  · rename_i l hl
    obtain ⟨d1, d2⟩ := cellsOf_den hy hl
    have hsz := d1.1
    split
    · rename_i nm off
      split
      · rename_i ty cells hb
        rintro ⟨p1, p2⟩
        rw [lenS_eq] at p1 p2
        cases hx
        obtain ⟨cs, a1, a2, a3, a4⟩ := hr.blk _ _ _ hb
        have hcs := a2.1
        refine ⟨_, E, fin _ _ rfl (run_storeVar_own a1 hT off vy (by omega) (by omega) d2), hr.write hb _ _ (a2.over d1 (by omega)) (one_over a3 d2 off), ext_setRow a4 (by intro e; cases e) _⟩
      · trivial
    · rename_i id ver sz i off
      split
      · rename_i ver' ty sz' n f hv
        rintro ⟨p1, rfl, rfl, hi, p2⟩
        rw [lenS_eq] at p1
        cases hx
        rename_i b o n' cap' hid hval
        obtain ⟨h0, ⟨a, cap, k1, k2⟩, k3⟩ := hr.vec _ _ _ _ _ _ hv
        have hval' := k1
        rw [hval] at k1
        simp only [Option.some.injEq, Prod.mk.injEq] at k1
        obtain ⟨rfl, rfl, rfl⟩ := k1
        rcases k2 with ⟨_, hk, _⟩ | ⟨g1, o1, cur, hk, h2, h3, h4, h5, h6, h7, h8⟩
        · omega
        · cases hk
          have hlt : ∀ j, j < sz → i * sz + j < n' * sz := fun j hj => idx_lt hi hj
          have hle : o + n' * sz ≤ cur.size := Nat.le_trans (Nat.add_le_add_left (Nat.mul_le_mul_right _ h2) _) h5
          have hbd : i * sz + off + ti.size ≤ n' * sz := by
            have : (i + 1) * sz ≤ n' * sz := Nat.mul_le_mul_right _ hi
            rw [Nat.add_mul] at this; omega
          have hvs : vy.cells.toList.length = ti.size := by simp; omega
          have hget : ∀ k, (cur.toList.take (o + (i * sz + off)) ++ vy.cells.toList ++ cur.toList.drop (o + (i * sz + off) + vy.cells.toList.length)).toArray[k]? = if o + (i * sz + off) ≤ k ∧ k < o + (i * sz + off) + ti.size then vy.cells[k - (o + (i * sz + off))]? else cur[k]? := fun k => by
            simp only [List.getElem?_toArray]
            by_cases c1 : k < o + (i * sz + off)
            · rw [List.append_assoc, List.getElem?_append_left (by simp; omega), List.getElem?_take, if_pos c1, if_neg (by omega)]; simp
            · by_cases c2 : k < o + (i * sz + off) + ti.size
              · rw [List.append_assoc, List.getElem?_append_right (by simp; omega), List.getElem?_append_left (by simp; omega), if_pos (by omega)]
                simp only [List.length_take, Array.length_toList]
                rw [Nat.min_eq_left (by omega)]; simp
              · rw [List.getElem?_append_right (by simp; omega), if_neg (by omega), List.getElem?_drop]
                simp only [List.length_append, List.length_take, hvs, Array.length_toList]
                rw [Nat.min_eq_left (by omega)]
                have : o + (i * sz + off) + ti.size + (k - (o + (i * sz + off) + ti.size)) = k := by omega
                rw [this]; simp
          obtain ⟨r1, r2⟩ := hr.vwrite hv hval h4 h6 (cur.toList.take (o + (i * sz + off)) ++ vy.cells.toList ++ cur.toList.drop (o + (i * sz + off) + vy.cells.toList.length)).toArray (updF f i off ti.size l)
            (by simp only [List.size_toArray, List.length_append, List.length_take, List.length_drop, hvs, Array.length_toList]; omega)
            (fun k u hk hu => by
              rw [hget] at hu
              split at hu
              · exact d2 _ _ hu
              · exact h7 k u hk hu)
            (fun i' j u hi' hj hu => by
              rw [hget] at hu
              simp only [updF]
              by_cases c : i' = i ∧ off ≤ j ∧ j < off + ti.size
              · obtain ⟨rfl, c1, c2⟩ := c
                rw [if_pos ⟨rfl, c1, c2⟩]
                rw [if_pos (by omega)] at hu
                have e : o + (i' * sz + j) - (o + (i' * sz + off)) = j - off := by omega
                rw [e] at hu
                rw [nth_eq]
                have hjl : j - off < l.length := by omega
                have := d1.2 (j - off) l[j - off] u (List.getElem?_eq_getElem hjl) hu
                simpa [List.getD, List.getElem?_eq_getElem hjl] using this
              · rw [if_neg c]
                rw [if_neg ?_] at hu
                · exact h8 i' j u hi' hj hu
                · rintro ⟨c1, c2⟩
                  apply c
                  have hj2 : off + ti.size ≤ sz := p2
                  have : i' = i := by
                    rcases Nat.lt_trichotomy i' i with hlt' | heq | hgt
                    · have := Nat.mul_le_mul_right sz (Nat.succ_le_of_lt hlt')
                      rw [Nat.succ_mul] at this; omega
                    · exact heq
                    · have := Nat.mul_le_mul_right sz (Nat.succ_le_of_lt hgt)
                      rw [Nat.succ_mul] at this; omega
                  subst this
                  omega)
          exact ⟨_, E, fin _ _ rfl (run_storeVar_own h4 hT (o + (i * sz + off)) vy (by omega) (by omega) d2), r1, r2⟩
      · trivial
    · trivial
end Go.Eng
end
