/-
  A part of the symbolic machine, of its soundness, and of what functions compute. No condition.
-/
import Derived.Shelf.Abstract
import Derived.Laws.MakeOwn
import Derived.Laws.CopyRow
import Derived.MapKept
import Derived.WideKeyRuns
import Derived.Maps.RangeRun
import Derived.Test.YtakbfbcfddcncaaE1
set_option linter.unusedSimpArgs false
set_option linter.unusedVariables false
/- More operations. -/
section
namespace Go.Eng
open Go.RowKit
set_option linter.unusedVariables false

def nthO : List (Nat × Nat) → Nat → Option (Nat × Nat)
  | [], _ => none
  | x :: _, 0 => some x
  | _ :: l, n + 1 => nthO l n
theorem nthO_eq : ∀ (l : List (Nat × Nat)) (n : Nat), nthO l n = l[n]?
  | [], n => by simp [nthO]
  | x :: l, 0 => by simp [nthO]
  | x :: l, n + 1 => by simp [nthO, nthO_eq l n]

def rField (ti : TI) (h : HS) (x : SV) (k : Nat) : Res :=
  match ti.kind with
  | .struct offs => match nthO offs k with
    | some (o, _) => match x with
      | .ptr nm off => .val True (.ptr nm (off + o)) h
      | .rptr sz f => .val (o ≤ sz) (.rptr (sz - o) (fun j => f (o + j))) h
      | .vptr id ver sz i off => .val True (.vptr id ver sz i (off + o)) h
      | _ => .bad
    | none => .bad
  | _ => .bad

theorem rField_ok {P : Program} {E : Env} {h : HS} {w : World} (hr : RelH E h w) {t : TypeId} {ti : TI} (hT : TIOk P t ti) {x : SV} {v : Value} (hx : Den E w x v) (k : Nat) :
    ResOk P E h w ((Instr.fieldAt t v k >>= fun v => pure (Next.value v)).run P w) (rField ti h x k) := by
  unfold rField
  obtain ⟨d, hd, _, _, hk⟩ := hT.desc
  split
  · rename_i offs hko
    rw [hko] at hk
    obtain ⟨fs, rfl, hpl, hnz⟩ := hk
    split
    · rename_i o ft ho
      rw [nthO_eq] at ho
      obtain ⟨f, hf, rfl, i, hi, hi1⟩ := places_get _ _ hpl k o ft ho
      have hi0 : i.size ≠ 0 := by rw [hi1]; exact hnz _ (List.mem_of_getElem? ho)
      rw [Array.getElem?_toList] at hf
      have fin : ∀ (A : Addr), v = .pointer (some A) → (Instr.fieldAt t v k >>= fun v => pure (Next.value v)).run P w = .ok (.value (.pointer (some (A.add f.offset)))) w := by
        rintro A rfl
        simp [Instr.fieldAt, run_underlying hd, hf, Instr.sureAddr, fieldPlace, sizeOf, typeInfo, hi, hi0]
      split
      · cases hx
        rename_i hn
        refine ResOk.pure hr (fun _ => ?_) (.ptr hn)
        rw [fin _ rfl, Addr.add_lit]
      · rename_i sz g0
        cases hx
        rename_i A g hA hown hc h1 hd'
        intro hp
        refine ⟨_, w, E, fin _ rfl, ?_, hr, Ext.refl E w⟩
        refine .rptr (A.add f.offset) (fun j => g (f.offset + j)) (by rw [add_block]; exact hA) (by rw [add_block]; exact hown) (fun j hj => ?_) (fun j hj => h1 _ (by omega)) (fun j hj => hd' _ (by omega))
        rw [Addr.add_add]; exact hc _ (by omega)
      · cases hx
        rename_i id ver sz i0 off b o1 n cap hid hval
        refine ResOk.pure hr (fun _ => ?_) (.vptr hid hval)
        rw [fin _ rfl, Addr.add_lit, Nat.add_assoc, Nat.add_assoc]
      · trivial
    · trivial
  · trivial

/-- How an element of a slice, or of an array behind a pointer, is reached. se: the size of an element. -/
def rIndex (ti : TI) (se : Nat) (h : HS) (x idx : SV) : Res :=
  match ti.kind, x, idx with
  | .slice _, .row n sz f, .int _ i => .val (se = sz ∧ 0 ≤ i ∧ i < (n : Int)) (.rptr sz (f i.toNat)) h
  | .slice _, .vec id ver, .int _ i => match getV h.vecs id with
    | .live ver' _ sz n _ => .val (ver = ver' ∧ se = sz ∧ 0 ≤ i ∧ i < (n : Int)) (.vptr id ver sz i.toNat 0) h
    | .dead => .bad
  | .array n _, .ptr nm off, .int _ i => .val (0 ≤ i ∧ i < (n : Int)) (.ptr nm (off + i.toNat * se)) h
  | .slice _, .vcut id ver sz lo n _, .int _ i => match getV h.vecs id with
    | .live ver' _ sz' _ _ => .val (ver = ver' ∧ sz = sz' ∧ se = sz ∧ 0 ≤ i ∧ i < (n : Int)) (.vptr id ver sz (lo + i.toNat) 0) h
    | .dead => .bad
  | .slice _, .bsl nm off n, .int _ i => .val (se = 1 ∧ 0 ≤ i ∧ i < (n : Int)) (.ptr nm (off + i.toNat)) h
  | _, _, _ => .bad

theorem rIndex_ok {P : Program} {E : Env} {h : HS} {w : World} (hr : RelH E h w) {t : TypeId} {ti te : TI} (hT : TIOk P t ti) (e : Nat) (hk : ti.kind = .slice e ∨ ∃ n, ti.kind = .array n e) (hE : TIOk P e te)
    {x y : SV} {v u : Value} (hx : Den E w x v) (hy : Den E w y u) :
    ResOk P E h w ((Instr.indexAt t v u >>= fun v => pure (Next.value v)).run P w) (rIndex ti te.size h x y) := by
  obtain ⟨d, hd, _, _, hkd⟩ := hT.desc
  obtain ⟨i0, z0, hi0, hs0, _⟩ := hE.info
  have hS : (sizeOf e).run P w = .ok te.size w := by simp [sizeOf, typeInfo, hi0, hs0]
  unfold rIndex
  split
  · rename_i e' n sz f k i hkk
    rw [hkk] at hkd hk
    have : e' = e := by rcases hk with hk | ⟨n, hk⟩ <;> simp at hk; exact hk
    subst this
    cases hy
    rintro ⟨hse, h0, h1⟩
    cases hx
    · rename_i A cap g hA ho hn hc hone hden
      have hi : i.toNat < n := by omega
      refine ⟨.pointer (some (A.add (i.toNat * te.size))), w, E, ?_, ?_, hr, Ext.refl E w⟩
      · simp [Instr.indexAt, asIntOf, run_underlying hd, hkd, h0, h1, hS]
      · rw [hse]
        refine .rptr _ (g i.toNat) (by rw [add_block]; exact hA) (by rw [add_block]; exact ho) (fun j hj => ?_) (fun j hj => hone _ _ hi hj) (fun j hj => hden _ _ hi hj)
        rw [Addr.add_add]; exact hc _ _ hi hj
    · omega
  · rename_i e' id ver k i hkk
    rw [hkk] at hkd hk
    have : e' = e := by rcases hk with hk | ⟨n, hk⟩ <;> simp at hk; exact hk
    subst this
    cases hy
    split
    · rename_i ver' ty sz n f hv
      rintro ⟨rfl, hse, h0, h1⟩
      obtain ⟨hz, ⟨a, cap, k1, k2⟩, k3⟩ := hr.vec _ _ _ _ _ _ hv
      cases hx
      rename_i a' n' cap' hid hval
      have hval' := hval
      rw [k1] at hval
      simp only [Option.some.injEq, Prod.mk.injEq] at hval
      obtain ⟨rfl, rfl, rfl⟩ := hval
      rcases k2 with ⟨_, h0', _⟩ | ⟨g1, o1, cur, hk2, _⟩
      · omega
      · cases hk2
        refine ⟨.pointer (some ⟨g1, o1 + (i.toNat * sz + 0), none⟩), w, E, ?_, .vptr hid hval', hr, Ext.refl E w⟩
        simp [Instr.indexAt, asIntOf, run_underlying hd, hkd, h0, h1, hS, hse, Addr.add_lit]
    · trivial
  · rename_i m e' nm off k i hkk
    rw [hkk] at hkd hk
    have : e' = e := by rcases hk with hk | ⟨n, hk⟩ <;> simp at hk; exact hk.2
    subst this
    cases hy
    rintro ⟨h0, h1⟩
    cases hx
    rename_i hn
    refine ⟨.pointer (some ⟨E.rho nm, off + i.toNat * te.size, none⟩), w, E, ?_, .ptr hn, hr, Ext.refl E w⟩
    simp [Instr.indexAt, asIntOf, run_underlying hd, hkd, h0, h1, hS, Instr.sureAddr, Addr.add_lit]
  · rename_i e' id ver sz lo n x1 k i hkk
    rw [hkk] at hkd hk
    have : e' = e := by rcases hk with hk | ⟨n, hk⟩ <;> simp at hk; exact hk
    subst this
    cases hy
    split
    · rename_i ver' ty sz2 N f hv
      rintro ⟨rfl, rfl, hse, h0, h1⟩
      obtain ⟨hz, ⟨a, cap, k1, k2⟩, k3⟩ := hr.vec _ _ _ _ _ _ hv
      obtain ⟨a1, a2, N1, cap1, rfl, hid, hval, hn, hc, ha, h00, hA, hB⟩ := hx.vcut_inv
      have hval' := hval
      rw [k1] at hval
      simp only [Option.some.injEq, Prod.mk.injEq] at hval
      obtain ⟨rfl, rfl, rfl⟩ := hval
      rcases k2 with ⟨_, h0', _⟩ | ⟨g1, o1, cur, hk2, _⟩
      · omega
      · cases hk2
        rw [ha (by cases x1 <;> simp <;> omega)]
        refine ⟨.pointer (some ⟨g1, o1 + ((lo + i.toNat) * sz + 0), none⟩), w, E, ?_, .vptr hid hval', hr, Ext.refl E w⟩
        simp [Instr.indexAt, asIntOf, run_underlying hd, hkd, h0, h1, hS, hse, Addr.add_lit, Nat.add_mul, Nat.add_assoc]
    · trivial
  · rename_i e' nm off n k i hkk
    rw [hkk] at hkd hk
    have : e' = e := by rcases hk with hk | ⟨n, hk⟩ <;> simp at hk; exact hk
    subst this
    cases hy
    rintro ⟨hse, h0, h1⟩
    cases hx
    rename_i cap hc hn
    refine ⟨.pointer (some ⟨E.rho nm, off + i.toNat, none⟩), w, E, ?_, .ptr ‹_›, hr, Ext.refl E w⟩
    simp [Instr.indexAt, asIntOf, run_underlying hd, hkd, h0, h1, hS, hse, Addr.add_lit]
  · trivial

def lenM : List (List Int × List Int) → Nat
  | [] => 0
  | _ :: l => lenM l + 1
theorem lenM_eq (l : List (List Int × List Int)) : lenM l = l.length := by induction l <;> simp [lenM, *]
def lenI (es : List (List Int × List Int)) (h : HS) : Option (Nat × Nat × List Nat) → Res
  | none => .val True (.int .i64 (lenM es : Int)) h
  | some _ => .bad
def rLen (ti : TI) (h : HS) (x : SV) : Res :=
  match ti.kind, x with
  | .slice _, .row n _ _ => .val True (.int .i64 (n : Int)) h
  | .slice _, .vec id ver => match getV h.vecs id with
    | .live ver' _ _ n _ => .val (ver = ver') (.int .i64 (n : Int)) h
    | .dead => .bad
  | .slice _, .vcut _ _ _ _ n _ => .val True (.int .i64 (n : Int)) h
  | .slice _, .bsl _ _ n => .val True (.int .i64 (n : Int)) h
  | .slice _, .nils _ _ => .val True (.int .i64 0) h
  | .map _ _, .mapp nm => match getB h.blks nm with
    | .mp m => lenI m.es h m.it
    | _ => .bad
  | _, _ => .bad

theorem rLen_ok {P : Program} {E : Env} {h : HS} {w : World} (hr : RelH E h w) {t : TypeId} {ti : TI} (hT : TIOk P t ti) {x : SV} {v : Value} (hx : Den E w x v) (tr : TypeId) :
    ResOk P E h w ((Builtin.len_ #[t] tr #[v] >>= fun v => pure (Next.value v)).run P w) (rLen ti h x) := by
  obtain ⟨d, hd, _, _, hkd⟩ := hT.desc
  unfold rLen
  split
  · rename_i e n sz f hk
    rw [hk] at hkd
    cases hx <;> exact ResOk.pure hr (fun _ => by simp [Builtin.len_, run_underlying hd, hkd, goInt]) (.int _ _)
  · rename_i e id ver hk
    rw [hk] at hkd
    split
    · rename_i ver' ty sz n f hv
      rintro rfl
      obtain ⟨hz, ⟨a, cap, k1, k2⟩, k3⟩ := hr.vec _ _ _ _ _ _ hv
      cases hx
      rename_i a' n' cap' hid hval
      rw [k1] at hval
      simp only [Option.some.injEq, Prod.mk.injEq] at hval
      obtain ⟨rfl, rfl, rfl⟩ := hval
      exact ⟨_, w, E, by simp [Builtin.len_, run_underlying hd, hkd, goInt], .int _ _, hr, Ext.refl E w⟩
    · trivial
  · rename_i e id ver sz lo n x1 hk
    rw [hk] at hkd
    obtain ⟨a1, a2, N1, cap1, rfl, _⟩ := hx.vcut_inv
    exact ResOk.pure hr (fun _ => by simp [Builtin.len_, run_underlying hd, hkd, goInt]) (.int _ _)
  · rename_i e nm off n hk
    rw [hk] at hkd
    cases hx
    exact ResOk.pure hr (fun _ => by simp [Builtin.len_, run_underlying hd, hkd, goInt]) (.int _ _)
  · rename_i e _ _ hk
    rw [hk] at hkd
    cases hx
    exact ResOk.pure hr (fun _ => by simp [Builtin.len_, run_underlying hd, hkd, goInt]) (.int _ _)
  · rename_i kt et nm hk
    rw [hk] at hkd
    split
    · rename_i m hb
      cases hit : m.it with
      | some x => trivial
      | none =>
      have hm := hr.mp _ _ hb
      unfold MpAt at hm
      rw [hit] at hm
      obtain ⟨h2, es, h1, h3, h4, h5⟩ := hm
      cases hx
      refine ResOk.pure hr (fun _ => ?_) (val := .int .i64 (m.es.length : Int)) (by rw [lenM_eq]; exact .int _ _)
      simp [Builtin.len_, run_underlying hd, hkd, goInt, getObj, Sem.run, h1, h3]
    · trivial
  · trivial

def rUn (op : UnOp) (x : SV) (h : HS) : Res :=
  match op, x with
  | .not, .bool b => .val True (.bool (!b)) h
  | .neg, .int k n => .val True (.int k (k.wrap (0 - n))) h
  | _, _ => .bad
theorem rUn_ok {P : Program} {E : Env} {h : HS} {w : World} (hr : RelH E h w) (op : UnOp) {x : SV} {v : Value} (hx : Den E w x v) :
    ResOk P E h w ((Op.unary op v >>= fun v => pure (Next.value v)).run P w) (rUn op x h) := by
  unfold rUn
  split
  · cases hx; exact ResOk.pure hr (fun _ => by simp [Op.unary]) (.bool _)
  · cases hx; exact ResOk.pure hr (fun _ => by simp [Op.unary, Op.intArith]) (.int _ _)
  · trivial

def rConv (ti : TI) (x : SV) (h : HS) : Res :=
  match ti.kind, x with
  | .int k, .int _ n => .val True (.int k (k.wrap n)) h
  | _, _ => .bad
theorem rConv_ok {P : Program} {E : Env} {h : HS} {w : World} (hr : RelH E h w) (s t : TypeId) {ti ts : TI} (hT : TIOk P t ti) (hS : TIOk P s ts) {x : SV} {v : Value} (hx : Den E w x v) :
    ResOk P E h w ((convert s t v >>= fun v => pure (Next.value v)).run P w) (rConv ti x h) := by
  obtain ⟨d, hd, _, _, hkd⟩ := hT.desc
  obtain ⟨d', hd', _, _, _⟩ := hS.desc
  unfold rConv
  split
  · rename_i k k' n hk
    rw [hk] at hkd
    cases hx
    exact ResOk.pure hr (fun _ => by subst hkd; cases d' <;> simp [convert, run_underlying hd, run_underlying hd', Conv.intToInt]) (.int _ _)
  · trivial

def rMax (a b : SV) (h : HS) : Res :=
  match a, b with
  | .int k x, .int k' y => if k = k' then .val True (.int k (max x y)) h else .bad
  | _, _ => .bad
def rMin (a b : SV) (h : HS) : Res :=
  match a, b with
  | .int k x, .int k' y => if k = k' then .val True (.int k (min x y)) h else .bad
  | _, _ => .bad
theorem rMax_ok {P : Program} {E : Env} {h : HS} {w : World} (hr : RelH E h w) (ts : Array TypeId) (tr : TypeId) {a b : SV} {va vb : Value} (ha : Den E w a va) (hb : Den E w b vb) :
    ResOk P E h w ((Builtin.max_ ts tr #[va, vb] >>= fun v => pure (Next.value v)).run P w) (rMax a b h) := by
  unfold rMax
  split
  · cases ha; cases hb
    rename_i k x k' y
    split
    · rename_i e; subst e
      refine ResOk.pure hr (fun _ => ?_) (.int _ _)
      simp [Builtin.max_, Builtin.max2]
      split <;> omega
    · trivial
  · trivial
theorem rMin_ok {P : Program} {E : Env} {h : HS} {w : World} (hr : RelH E h w) (ts : Array TypeId) (tr : TypeId) {a b : SV} {va vb : Value} (ha : Den E w a va) (hb : Den E w b vb) :
    ResOk P E h w ((Builtin.min_ ts tr #[va, vb] >>= fun v => pure (Next.value v)).run P w) (rMin a b h) := by
  unfold rMin
  split
  · cases ha; cases hb
    rename_i k x k' y
    split
    · rename_i e; subst e
      refine ResOk.pure hr (fun _ => ?_) (.int _ _)
      simp [Builtin.min_, Builtin.min2]
      split <;> omega
    · trivial
  · trivial
end Go.Eng
end

/- Operations that make memory. -/
section
namespace Go.Eng
open Go.RowKit
set_option linter.unusedVariables false

/-- Zero cells: each nil slice becomes an own slice of length 0. -/
def zeroS : List ZC → HS → List SV × HS
  | [], h => ([], h)
  | .c x :: l, h => ((x :: (zeroS l h).1), (zeroS l h).2)
  | .sl e sz :: l, h => let r := zeroS l { h with vecs := snocV h.vecs (.live 0 e sz 0 (fun _ _ => .any)) }
    (.vec (lenV h.vecs) 0 :: r.1, r.2)

theorem zeroS_ok {w : World} : ∀ (l : List ZC) (us : List Value) (E : Env) (h : HS), RelH E h w → l.length = us.length →
    (∀ (k : Nat) (u : Value), us[k]? = some u → match l[k]? with | some (.c x) => x = svS u | some (.sl _ sz) => u = .slice none 0 0 ∧ 0 < sz | none => False) →
    ∃ E', RelH E' (zeroS l h).2 w ∧ Ext E w E' w ∧ (zeroS l h).1.length = us.length ∧ (∀ (k : Nat) (x : SV) (u : Value), (zeroS l h).1[k]? = some x → us[k]? = some u → Den E' w x u) ∧ (zeroS l h).2.blks = h.blks
  | [], us, E, h, hr, hl, hz => ⟨E, hr, Ext.refl E w, by simpa [zeroS] using hl, fun k x u hx => by simp [zeroS] at hx, rfl⟩
  | .c x :: l, us, E, h, hr, hl, hz => by
    cases us with
    | nil => simp at hl
    | cons u us =>
      obtain ⟨E', h1, h2, h3, h4, h5⟩ := zeroS_ok l us E h hr (by simpa using hl) (fun k v hk => hz (k + 1) v (by simpa using hk))
      refine ⟨E', h1, h2, by simp [zeroS, h3], fun k y v hy hv => ?_, h5⟩
      cases k with
      | zero =>
        simp [zeroS] at hy hv
        subst hy hv
        have := hz 0 u rfl
        simp at this
        subst this
        exact svS_den _ _ _
      | succ k => simp [zeroS] at hy hv; exact h4 k y v hy hv
  | .sl e sz :: l, us, E, h, hr, hl, hz => by
    cases us with
    | nil => simp at hl
    | cons u us =>
      have h0 := hz 0 u rfl
      simp at h0
      obtain ⟨rfl, hsz⟩ := h0
      obtain ⟨E', h1, h2, h3, h4, h5⟩ := zeroS_ok l us E.newV _ (hr.newVec e sz hsz (fun _ _ => .any)) (by simpa using hl) (fun k v hk => hz (k + 1) v (by simpa using hk))
      have hv0 : Den E' w (.vec (lenV h.vecs) 0) (.slice none 0 0) := by
        refine Den.ext h2 (.vec ?_ ?_)
        · simp only [Env.newV, hr.nv]; omega
        · simp [Env.newV, hr.nv]
      refine ⟨E', h1, (ext_newV E w).trans h2, by simp [zeroS, h3], fun k y v hy hv => ?_, h5⟩
      cases k with
      | zero => simp [zeroS] at hy hv; subst hy hv; exact hv0
      | succ k => simp [zeroS] at hy hv; exact h4 k y v hy hv

def rAlloc (ti : TI) (t : TypeId) (h : HS) : Res :=
  let r := zeroS ti.zero h
  .val True (.ptr (lenB r.2.blks) 0) { r.2 with blks := snocB r.2.blks (.live t r.1) }

theorem rAlloc_ok {P : Program} {E : Env} {h : HS} {w : World} (hr : RelH E h w) {t : TypeId} {ti : TI} (hT : TIOk P t ti) :
    ResOk P E h w ((Instr.alloc t true (.tuple #[]) >>= fun v => pure (Next.value v)).run P w) (rAlloc ti t h) := by
  obtain ⟨i, z, hi, hs, hb, hz, hzs, hzl, hzc⟩ := hT.info
  obtain ⟨E', h1, h2, h3, h4, h5⟩ := zeroS_ok (w := w) ti.zero z.cells.toList E h hr (by simp [hzl, hzs]) (fun k u hk => (hzc k u (by simpa using hk)).2)
  intro _
  have hd : DenA E' w (zeroS ti.zero h).1 z.cells := ⟨by simpa using h3.symm, fun k x u hx hu => h4 k x u hx (by simpa using hu)⟩
  have ha := h1.alloc t _ z.cells hd (fun k u hu => (hzc k u hu).1)
  have hx : Ext E' w (E'.newB w.heap.size) (w.alloc (.cells z.cells t)) := ext_alloc h1.own _ _ rfl
  refine ⟨.pointer (some ⟨w.heap.size, 0, none⟩), w.alloc (.cells z.cells t), E'.newB w.heap.size, ?_, ?_, ha, h2.trans hx⟩
  · simp [Instr.alloc, zeroValue, typeInfo, hi, hz, newVar, newRow]
  · have := h1.nb
    have hp : Den (E'.newB w.heap.size) (w.alloc (.cells z.cells t)) (.ptr (lenB (zeroS ti.zero h).2.blks) 0) (.pointer (some ⟨(E'.newB w.heap.size).rho (lenB (zeroS ti.zero h).2.blks), 0, none⟩)) := .ptr (by simp [Env.newB, ← this])
    have e : (E'.newB w.heap.size).rho (lenB (zeroS ti.zero h).2.blks) = w.heap.size := by simp [Env.newB, ← this]
    rwa [e] at hp

def rBox (t : TypeId) (x : SV) (h : HS) : Res :=
  match cellsOf x with
  | some l => .val True (.ptr (lenB h.blks) 0) { h with blks := snocB h.blks (.live t l) }
  | none => .bad
theorem rBox_ok {P : Program} {E : Env} {h : HS} {w : World} (hr : RelH E h w) (t : TypeId) {x : SV} {v : Value} (hx : Den E w x v) :
    ResOk P E h w ((Instr.box t v >>= fun v => pure (Next.value v)).run P w) (rBox t x h) := by
  unfold rBox
  split
  · rename_i l hl
    obtain ⟨d1, d2⟩ := cellsOf_den hx hl
    intro _
    have ha := hr.alloc t l v.cells d1 d2
    refine ⟨.pointer (some ⟨w.heap.size, 0, none⟩), w.alloc (.cells v.cells t), E.newB w.heap.size, ?_, ?_, ha, ext_alloc hr.own _ _ rfl⟩
    · simp [Instr.box, newVar, newRow]
    · have := hr.nb
      have hp : Den (E.newB w.heap.size) (w.alloc (.cells v.cells t)) (.ptr (lenB h.blks) 0) (.pointer (some ⟨(E.newB w.heap.size).rho (lenB h.blks), 0, none⟩)) := .ptr (by simp [Env.newB, ← this])
      have e : (E.newB w.heap.size).rho (lenB h.blks) = w.heap.size := by simp [Env.newB, ← this]
      rwa [e] at hp
  · trivial

/-- The zero cells where no slice is to grow. -/
def zc1 : ZC → SV
  | .c x => x
  | .sl e sz => .nils e sz
def zcs : List ZC → List SV
  | [] => []
  | x :: l => zc1 x :: zcs l
theorem zcs_ok {E : Env} {w : World} : ∀ (l : List ZC) (us : List Value), l.length = us.length →
    (∀ (k : Nat) (u : Value), us[k]? = some u → match l[k]? with | some (.c x) => x = svS u | some (.sl _ sz) => u = .slice none 0 0 ∧ 0 < sz | none => False) →
    (zcs l).length = us.length ∧ ∀ (k : Nat) (x : SV) (u : Value), (zcs l)[k]? = some x → us[k]? = some u → Den E w x u
  | [], us, hl, hz => ⟨by simpa [zcs] using hl, fun k x u hx => by simp [zcs] at hx⟩
  | x :: l, us, hl, hz => by
    cases us with
    | nil => simp at hl
    | cons u us =>
      obtain ⟨h1, h2⟩ := zcs_ok (E := E) (w := w) l us (by simpa using hl) (fun k v hk => hz (k + 1) v (by simpa using hk))
      refine ⟨by simp [zcs, h1], fun k y v hy hv => ?_⟩
      cases k with
      | zero =>
        simp [zcs] at hy hv
        subst hy hv
        have h0 := hz 0 u rfl
        cases x with
        | c x => simp at h0; subst h0; exact svS_den _ _ _
        | sl e sz => simp at h0; obtain ⟨rfl, hp⟩ := h0; exact .nils hp
      | succ k => simp [zcs] at hy hv; exact h2 k y v hy hv

/-- Parts laid over cells: at off + (their place), each of the size that its place has. -/
def fillS (place : Nat → Option (Nat × Nat)) : List (Nat × SV) → List SV → Option (Prop × List SV)
  | [], cells => some (True, cells)
  | (i, x) :: r, cells => match place i, cellsOf x with
    | some (off, size), some l => match fillS place r (over cells off l) with
      | some (p, c) => some ((lenS l = size ∧ off + size ≤ lenS cells) ∧ p, c)
      | none => none
    | _, _ => none

theorem zipIdx_fold (off : Nat) : ∀ (us : List Value) (k : Nat) (cs : Array Value), off + k + us.length ≤ cs.size →
    (us.zipIdx k).foldl (fun cs (c, j) => cs.setIfInBounds (off + j) c) cs = (cs.toList.take (off + k) ++ us ++ cs.toList.drop (off + k + us.length)).toArray
  | [], k, cs, h => by simp
  | u :: us, k, cs, h => by
    simp only [List.zipIdx_cons, List.foldl_cons]
    simp only [List.length_cons] at h
    rw [zipIdx_fold off us (k + 1) (cs.setIfInBounds (off + k) u) (by simp; omega)]
    apply Array.ext'
    simp only [Array.toList_setIfInBounds, List.length_cons]
    apply List.ext_getElem?
    intro j
    simp only [List.append_assoc]
    have hk : off + k < cs.toList.length := by simp; omega
    by_cases h1 : j < off + k
    · rw [List.getElem?_append_left (by simp; omega), List.getElem?_append_left (by simp; omega), List.getElem?_take, List.getElem?_take, if_pos (by omega), if_pos h1, List.getElem?_set_ne (by omega)]
    · by_cases h2 : j = off + k
      · subst h2
        rw [List.getElem?_append_left (by simp; omega), List.getElem?_take, if_pos (by omega), List.getElem?_set_self hk, List.getElem?_append_right (by simp; omega)]
        simp only [List.length_take]
        rw [Nat.min_eq_left (by omega)]
        simp
      · by_cases h3 : j < off + k + 1 + us.length
        · rw [List.getElem?_append_right (by simp; omega), List.getElem?_append_left (by simp; omega), List.getElem?_append_right (by simp; omega)]
          simp only [List.length_take, List.length_set]
          rw [Nat.min_eq_left (by omega), Nat.min_eq_left (by omega)]
          rw [show j - (off + k) = (j - (off + (k + 1))) + 1 by omega, List.cons_append, List.getElem?_cons_succ, List.getElem?_append_left (by omega)]
        · rw [List.getElem?_append_right (by simp; omega), List.getElem?_append_right (by simp; omega), List.getElem?_append_right (by simp; omega)]
          simp only [List.length_take, List.length_set]
          rw [Nat.min_eq_left (by omega), Nat.min_eq_left (by omega)]
          rw [show j - (off + k) = (j - (off + (k + 1))) + 1 by omega, List.cons_append, List.getElem?_cons_succ, List.getElem?_append_right (by omega), List.getElem?_drop, List.getElem?_drop, List.getElem?_set_ne (by omega)]
          congr 1
          omega

theorem fillS_ok {E : Env} {w : World} {place : Nat → Option (Nat × Nat)} {place' : Nat → Option (Nat × Nat)} (hp : ∀ i x, place i = some x → place' i = some x) : ∀ (ps : List (Nat × SV)) (vs : List (Nat × Value)) (cells : List SV) (cs : Array Value),
    ps.length = vs.length → (∀ (k : Nat) (x : Nat × SV) (y : Nat × Value), ps[k]? = some x → vs[k]? = some y → x.1 = y.1 ∧ Den E w x.2 y.2) → DenA E w cells cs → (∀ (k : Nat) (u : Value), cs[k]? = some u → u.oneCell' = true) →
    ∀ p c, fillS place ps cells = some (p, c) → p → ∃ cs', Instr.fill place' cs vs = some cs' ∧ DenA E w c cs' ∧ (∀ (k : Nat) (u : Value), cs'[k]? = some u → u.oneCell' = true)
  | [], vs, cells, cs, hl, hd, hc, h1, p, c, hf, hp' => by
    cases vs with
    | nil => simp [fillS] at hf; obtain ⟨_, rfl⟩ := hf; exact ⟨cs, rfl, hc, h1⟩
    | cons v vs => simp at hl
  | (i, x) :: ps, vs, cells, cs, hl, hd, hc, h1, p, c, hf, hp' => by
    cases vs with
    | nil => simp at hl
    | cons y vs =>
      obtain ⟨i', v⟩ := y
      obtain ⟨e, hx⟩ := hd 0 (i, x) (i', v) rfl rfl
      simp only at e hx
      subst e
      simp only [fillS] at hf
      cases hpl : place i with
      | none => simp [hpl] at hf
      | some os =>
        obtain ⟨off, size⟩ := os
        cases hcl : cellsOf x with
        | none => simp [hpl, hcl] at hf
        | some l =>
          simp only [hpl, hcl] at hf
          cases hff : fillS place ps (over cells off l) with
          | none => simp [hff] at hf
          | some pc =>
            obtain ⟨p', c'⟩ := pc
            simp only [hff, Option.some.injEq, Prod.mk.injEq] at hf
            obtain ⟨rfl, rfl⟩ := hf
            obtain ⟨⟨q1, q2⟩, q3⟩ := hp'
            rw [lenS_eq] at q1 q2
            obtain ⟨d1, d2⟩ := cellsOf_den hx hcl
            have hsz := d1.1
            have hcs := hc.1
            have hcond : ¬ (v.cells.size ≠ size ∨ cs.size < off + v.cells.size) := by omega
            obtain ⟨cs', r1, r2, r3⟩ := fillS_ok hp ps vs (over cells off l) _ (by simpa using hl) (fun k x y hx hy => hd (k + 1) x y (by simpa using hx) (by simpa using hy)) (hc.over d1 (by omega)) (one_over h1 d2 off) p' c' hff q3
            refine ⟨cs', ?_, r2, r3⟩
            simp only [Instr.fill, hp i _ hpl]
            have hzf := zipIdx_fold off v.cells.toList 0 cs (by simp; omega)
            simp only [Nat.add_zero] at hzf
            have : ((v.cells.size ≠ size || decide (off + v.cells.size > cs.size)) : Bool) = false := by simp; omega
            simp only [this, Bool.false_eq_true, if_false]
            rw [← Array.foldl_toList, Array.toList_zipIdx, hzf]
            exact r1
end Go.Eng
end

/- Building values and slices, interfaces, appends; then one operation of any kind. -/
section
namespace Go.Eng
open Go.RowKit
set_option linter.unusedVariables false

def placeS (offs : List (Nat × Nat)) : Nat → Option (Nat × Nat) := fun k => nthO offs k
def placeA (se : Nat) : Nat → Option (Nat × Nat) := fun k => some (k * se, se)

def evP (t : List SV) : List (Nat × Operand) → List (Nat × SV)
  | [] => []
  | (i, x) :: r => (i, ev t x) :: evP t r
theorem evP_den {E : Env} {w : World} {t : List SV} {a : Act} (h : DenA E w t a.tmps) : ∀ (ps : List (Nat × Operand)), (evP t ps).length = (ps.map fun (i, x) => (i, a.eval x)).length ∧
    ∀ (k : Nat) (x : Nat × SV) (y : Nat × Value), (evP t ps)[k]? = some x → (ps.map fun (i, x) => (i, a.eval x))[k]? = some y → x.1 = y.1 ∧ Den E w x.2 y.2
  | [] => ⟨rfl, fun k x y hx => by simp [evP] at hx⟩
  | (i, x) :: r => by
    obtain ⟨h1, h2⟩ := evP_den h r
    refine ⟨by simp [evP, h1], fun k y z hy hz => ?_⟩
    cases k with
    | zero => simp [evP] at hy hz; subst hy hz; exact ⟨rfl, ev_den h x⟩
    | succ k => simp only [evP, List.getElem?_cons_succ, List.map_cons] at hy hz; exact h2 k y z hy hz

def fin2 (r : Option (Prop × List SV)) (h : HS) : Res :=
  match r with
  | some (p, c) => .val p (.agg c) h
  | none => .bad
/-- te: the element's table, for an array. -/
def rBuild (ti : TI) (se : Nat) (ps : List (Nat × SV)) (h : HS) : Res :=
  match ti.kind with
  | .struct offs => fin2 (fillS (placeS offs) ps (zcs ti.zero)) h
  | .array _ _ => fin2 (fillS (placeA se) ps (zcs ti.zero)) h
  | _ => .bad

theorem rBuild_ok {P : Program} {E : Env} {h : HS} {w : World} (hr : RelH E h w) {t : TypeId} {ti : TI} (hT : TIOk P t ti) (se : Nat) (hse : ∀ n e, ti.kind = .array n e → ∃ i, P.info? e = some i ∧ i.size = se)
    {ps : List (Nat × SV)} {vs : Array (Nat × Value)} (hl : ps.length = vs.toList.length) (hd : ∀ (k : Nat) (x : Nat × SV) (y : Nat × Value), ps[k]? = some x → vs.toList[k]? = some y → x.1 = y.1 ∧ Den E w x.2 y.2) :
    ResOk P E h w ((Instr.build t vs >>= fun v => pure (Next.value v)).run P w) (rBuild ti se ps h) := by
  obtain ⟨i, z, hi, hs, hb, hz, hzs, hzl, hzc⟩ := hT.info
  obtain ⟨d, hdd, _, _, hkd⟩ := hT.desc
  obtain ⟨z1, z2⟩ := zcs_ok (E := E) (w := w) ti.zero z.cells.toList (by simp [hzl, hzs]) (fun k u hk => (hzc k u (by simpa using hk)).2)
  have hz0 : DenA E w (zcs ti.zero) z.cells := ⟨by simpa using z1.symm, fun k x u hx hu => z2 k x u hx (by simpa using hu)⟩
  unfold rBuild
  split
  · rename_i offs hk
    rw [hk] at hkd
    obtain ⟨fs, rfl, hpl, _⟩ := hkd
    unfold fin2
    split
    · rename_i p c hf
      intro hp
      obtain ⟨cs', r1, r2, r3⟩ := fillS_ok (place' := fun k => offs.toArray[k]?) (fun k x hx => by simpa [placeS, nthO_eq] using hx) ps vs.toList _ _ hl hd hz0 (fun k u hu => (hzc k u hu).1) p c hf hp
      have hbuilt : P.built t vs.toList = some cs' := by
        simp only [Program.built, hi, hdd, hz, hpl]; exact r1
      exact ⟨.agg cs', w, E, by simp [run_build w t vs cs' hbuilt], .agg cs' r2.1 r3 r2.2, hr, Ext.refl E w⟩
    · trivial
  · rename_i n e hk
    rw [hk] at hkd
    subst hkd
    obtain ⟨ie, hie, hies⟩ := hse n e hk
    unfold fin2
    split
    · rename_i p c hf
      intro hp
      obtain ⟨cs', r1, r2, r3⟩ := fillS_ok (place' := fun k => some (k * ie.size, ie.size)) (fun k x hx => by rw [hies]; simpa [placeA] using hx) ps vs.toList _ _ hl hd hz0 (fun k u hu => (hzc k u hu).1) p c hf hp
      have hbuilt : P.built t vs.toList = some cs' := by
        simp only [Program.built, hi, hdd, hz, hie]; exact r1
      exact ⟨.agg cs', w, E, by simp [run_build w t vs cs' hbuilt], .agg cs' r2.1 r3 r2.2, hr, Ext.refl E w⟩
    · trivial
  · trivial

def Env.adopt (E : Env) (g n cap : Nat) (o : Nat := 0) : Env :=
  { E with nv := E.nv + 1, val := fun id ver => if id = E.nv then (if ver = 0 then some (some ⟨g, o, none⟩, n, cap) else none) else E.val id ver, own := fun k => if k = g then some (.vec E.nv) else E.own k }
theorem adopt_ext {E : Env} {w w' : World} (ho : ∀ b t, E.own b = some t → b < w.heap.size) (hx : Ext E w E w') (hold : ∀ b, b < w.heap.size → w'.heap[b]? = w.heap[b]?) {g : Nat} (hg : w.heap.size ≤ g) (n cap : Nat) (o : Nat := 0) : Ext E w (E.adopt g n cap o) w' :=
    ⟨hx.os, hx.tape, hx.output, hx.size, Nat.le_refl _, by simp [Env.adopt], fun _ _ => rfl, fun id ver x hi hv => by simp only [Env.adopt]; rw [if_neg (by omega)]; exact hv,
      fun b hb h => ⟨by simp only [Env.adopt]; rw [if_neg (by omega)]; exact h, hold b hb⟩,
      fun b h => ⟨by have := ho b _ h; simp only [Env.adopt]; rw [if_neg (by omega)]; exact h, hold b (ho b _ h)⟩⟩
theorem RelH.adoptO {E : Env} {h : HS} {w w' : World} (hr : RelH E h w) (hx : Ext E w E w') (hold : ∀ b, b < w.heap.size → w'.heap[b]? = w.heap[b]?) {g n cap o : Nat} {ty : TypeId} {sz : Nat} (hsz : 0 < sz) {f : Nat → Nat → SV} {cur : Array Value}
    (hg : w.heap.size ≤ g) (hg2 : g < w'.heap.size) (hn : n ≤ cap) (hc : cap ≤ maxLen) (hcur : w'.heap[g]? = some (.cells cur ty (0, 0))) (hs : o + cap * sz ≤ cur.size)
    (h1 : ∀ (k : Nat) (u : Value), k < n * sz → cur[o + k]? = some u → u.oneCell' = true) (hd : ∀ i j u, i < n → j < sz → cur[o + (i * sz + j)]? = some u → Den (E.adopt g n cap o) w' (f i j) u) :
    RelH (E.adopt g n cap o) { h with vecs := snocV h.vecs (.live 0 ty sz n f) } w' ∧ Ext E w (E.adopt g n cap o) w' := by
  have hx' := adopt_ext hr.own hx hold hg n cap o
  refine ⟨⟨hr.nb, by simp [Env.adopt, lenV_snoc, hr.nv], ?_, ?_, ?_, fun nm st pend fid t params assign body hb => (hr.lp _ _ _ _ _ _ _ _ hb).ext hx' (fun ho => ⟨rfl, hold _ (hr.own _ _ ho), by have := hr.own _ _ ho; simp only [Env.adopt]; rw [if_neg (by omega)]⟩), fun nm m hb => (hr.mp _ _ hb).ext hx' (fun ho => ⟨rfl, hold _ (hr.own _ _ ho), by have := hr.own _ _ ho; simp only [Env.adopt]; rw [if_neg (by omega)]⟩)⟩, hx'⟩
  · intro nm ty' cells hb
    obtain ⟨cs, a1, a2, a3, a4⟩ := hr.blk nm ty' cells hb
    have hlt := hr.own _ _ a4
    exact ⟨cs, (hold _ hlt).trans a1, a2.ext hx', a3, by simp only [Env.adopt]; rw [if_neg (by omega)]; exact a4⟩
  · intro id ver ty' sz' n' f' hv
    simp only [getV_snoc] at hv
    split at hv
    · rename_i e
      cases hv
      have e' : id = E.nv := e.trans hr.nv.symm
      refine ⟨hsz, ⟨some ⟨g, o, none⟩, cap, by simp [Env.adopt, e'], .inr ⟨g, o, cur, rfl, hn, hc, hcur, hs, by simp [Env.adopt, e'], h1, fun i j u hi hj hu => hd i j u hi hj hu⟩⟩, fun v' hv' => ?_⟩
      simp only [Env.adopt, e', if_true]
      rw [if_neg (by omega)]
    · rename_i e
      have e' : id ≠ E.nv := fun e' => e (e'.trans hr.nv)
      obtain ⟨h0, ⟨a, cap, k1, k2⟩, k3⟩ := hr.vec id ver ty' sz' n' f' hv
      refine ⟨h0, ⟨a, cap, by simp only [Env.adopt, e', if_false]; exact k1, k2.ext hx' (fun g hg => ⟨hold g (hr.own _ _ hg), by have := hr.own _ _ hg; simp only [Env.adopt]; rw [if_neg (by omega)]⟩)⟩, fun v' hv' => by simp only [Env.adopt, e', if_false]; exact k3 v' hv'⟩
  · intro b t hb
    simp only [Env.adopt] at hb
    split at hb
    · rename_i e; subst e; exact hg2
    · have := hr.own b t hb; have := hx.size; omega
theorem RelH.adopt {E : Env} {h : HS} {w w' : World} (hr : RelH E h w) (hx : Ext E w E w') (hold : ∀ b, b < w.heap.size → w'.heap[b]? = w.heap[b]?) {g n cap : Nat} {ty : TypeId} {sz : Nat} (hsz : 0 < sz) {f : Nat → Nat → SV} {cur : Array Value}
    (hg : w.heap.size ≤ g) (hg2 : g < w'.heap.size) (hn : n ≤ cap) (hc : cap ≤ maxLen) (hcur : w'.heap[g]? = some (.cells cur ty (0, 0))) (hs : cap * sz ≤ cur.size)
    (h1 : ∀ (k : Nat) (u : Value), k < n * sz → cur[k]? = some u → u.oneCell' = true) (hd : ∀ i j u, i < n → j < sz → cur[i * sz + j]? = some u → Den (E.adopt g n cap) w' (f i j) u) :
    RelH (E.adopt g n cap) { h with vecs := snocV h.vecs (.live 0 ty sz n f) } w' ∧ Ext E w (E.adopt g n cap) w' :=
  hr.adoptO hx hold (o := 0) hsz hg hg2 hn hc hcur (by rw [Nat.zero_add]; exact hs) (fun k u hk hu => h1 k u hk (by rw [Nat.zero_add] at hu; exact hu)) (fun i j u hi hj hu => hd i j u hi hj (by rw [Nat.zero_add] at hu; exact hu))
/-- An own slice without room, wherever it points. -/
def Env.newVA (E : Env) (a : Option Addr) : Env :=
  { E with nv := E.nv + 1, val := fun id ver => if id = E.nv then (if ver = 0 then some (a, 0, 0) else none) else E.val id ver }
theorem ext_newVA (E : Env) (w : World) (a : Option Addr) : Ext E w (E.newVA a) w :=
  ⟨rfl, rfl, rfl, Nat.le_refl _, Nat.le_refl _, by simp [Env.newVA], fun _ _ => rfl, fun id ver x hi hv => by simp only [Env.newVA]; rw [if_neg (by omega)]; exact hv, fun _ _ h => ⟨h, rfl⟩, fun _ h => ⟨h, rfl⟩⟩
theorem RelH.newVecA {E : Env} {h : HS} {w : World} (hr : RelH E h w) (ty : TypeId) (sz : Nat) (hsz : 0 < sz) (f : Nat → Nat → SV) (a : Option Addr) (ha : ∀ A, a = some A → ∃ b o, A = ⟨b, o, none⟩) :
    RelH (E.newVA a) { h with vecs := snocV h.vecs (.live 0 ty sz 0 f) } w := by
  have hx := ext_newVA E w a
  refine ⟨hr.nb, by simp [Env.newVA, lenV_snoc, hr.nv], ?_, ?_, hr.own, fun nm st pend fid t params assign body hb => (hr.lp _ _ _ _ _ _ _ _ hb).ext hx (fun _ => ⟨rfl, rfl, rfl⟩), fun nm m hb => (hr.mp _ _ hb).ext hx (fun _ => ⟨rfl, rfl, rfl⟩)⟩
  · intro nm ty' cells hb
    obtain ⟨cs, a1, a2, a3, a4⟩ := hr.blk nm ty' cells hb
    exact ⟨cs, a1, a2.ext hx, a3, a4⟩
  · intro id ver ty' sz' n f' hv
    simp only [getV_snoc] at hv
    split at hv
    · rename_i e
      cases hv
      have e' : id = E.nv := e.trans hr.nv.symm
      refine ⟨hsz, ⟨a, 0, by simp [Env.newVA, e'], .inl ⟨ha, rfl, rfl⟩⟩, fun v' hv' => ?_⟩
      simp only [Env.newVA, e', if_true]
      rw [if_neg (by omega)]
    · rename_i e
      have e' : id ≠ E.nv := fun e' => e (e'.trans hr.nv)
      obtain ⟨h0, ⟨b, cap, k1, k2⟩, k3⟩ := hr.vec id ver ty' sz' n f' hv
      refine ⟨h0, ⟨b, cap, by simp only [Env.newVA, e', if_false]; exact k1, k2.ext hx (fun g hg => ⟨rfl, rfl⟩)⟩, fun v' hv' => by simp only [Env.newVA, e', if_false]; exact k3 v' hv'⟩

def repZ (z : List SV) : Nat → List SV
  | 0 => []
  | n + 1 => z ++ repZ z n
def cellAt (cells : List SV) (sz : Nat) : Nat → Nat → SV := fun i j => nth cells (i * sz + j)
def oneF (cells : List SV) : Nat → Nat → SV := fun _ j => nth cells j
def fin3 (r : Option (Prop × List SV)) (e len sz : Nat) (h : HS) : Res :=
  match r with
  | some (p, c) => .val (p ∧ 0 < sz ∧ 0 < len ∧ len * sz ≤ 16777216) (.vec (lenV h.vecs) 0) { h with vecs := snocV h.vecs (.live 0 e sz len (if len = 1 then oneF c else cellAt c sz)) }
  | none => .bad
def rBuildSlice (e : TypeId) (te : TI) (len : Nat) (ps : List (Nat × SV)) (h : HS) : Res :=
  match len, ps with
  | 0, [] => .val (0 < te.size) (.vec (lenV h.vecs) 0) { h with vecs := snocV h.vecs (.live 0 e te.size 0 (fun _ _ => .any)) }
  | _, _ => fin3 (fillS (placeA te.size) ps (repZ (zcs te.zero) len)) e len te.size h

theorem fillS_len {place : Nat → Option (Nat × Nat)} : ∀ (ps : List (Nat × SV)) (cells : List SV) (p : Prop) (c : List SV), fillS place ps cells = some (p, c) → c.length = cells.length
  | [], cells, p, c, h => by simp [fillS] at h; rw [h.2]
  | (i, x) :: ps, cells, p, c, h => by
    simp only [fillS] at h
    cases hpl : place i with
    | none => simp [hpl] at h
    | some os =>
      obtain ⟨off, size⟩ := os
      cases hcl : cellsOf x with
      | none => simp [hpl, hcl] at h
      | some l =>
        simp only [hpl, hcl] at h
        cases hff : fillS place ps (over cells off l) with
        | none => simp [hff] at h
        | some pc =>
          obtain ⟨p', c'⟩ := pc
          simp only [hff, Option.some.injEq, Prod.mk.injEq] at h
          obtain ⟨_, rfl⟩ := h
          rw [fillS_len ps _ _ _ hff, over_len]

def Env.newVO (E : Env) (g : Nat) : Env :=
  { E with nv := E.nv + 1, val := fun id ver => if id = E.nv then (if ver = 0 then some (some ⟨g, 0, none⟩, 0, 0) else none) else E.val id ver, own := fun k => if k = g then some (.vec E.nv) else E.own k }
theorem RelH.newVecO {E : Env} {h : HS} {w : World} (hr : RelH E h w) (ty : TypeId) (sz : Nat) (hsz : 0 < sz) (f : Nat → Nat → SV) :
    RelH (E.newVO w.heap.size) { h with vecs := snocV h.vecs (.live 0 ty sz 0 f) } (w.alloc (.cells #[] ty)) ∧ Ext E w (E.newVO w.heap.size) (w.alloc (.cells #[] ty)) := by
  have hx : Ext E w (E.newVO w.heap.size) (w.alloc (.cells #[] ty)) :=
    ⟨rfl, rfl, rfl, by simp, Nat.le_refl _, by simp [Env.newVO], fun _ _ => rfl, fun id ver x hi hv => by simp only [Env.newVO]; rw [if_neg (by omega)]; exact hv,
      fun b hb h => ⟨by simp only [Env.newVO]; rw [if_neg (by omega)]; exact h, Below.heap_alloc w _ b hb⟩,
      fun b h => ⟨by have := hr.own b _ h; simp only [Env.newVO]; rw [if_neg (by omega)]; exact h, Below.heap_alloc w _ b (hr.own b _ h)⟩⟩
  have hold : ∀ b, b < w.heap.size → (w.alloc (.cells #[] ty)).heap[b]? = w.heap[b]? := fun b hb => Below.heap_alloc w _ b hb
  refine ⟨⟨hr.nb, by simp [Env.newVO, lenV_snoc, hr.nv], ?_, ?_, ?_, fun nm st pend fid t params assign body hb => (hr.lp _ _ _ _ _ _ _ _ hb).ext hx (fun ho => ⟨rfl, hold _ (hr.own _ _ ho), by have := hr.own _ _ ho; simp only [Env.newVO]; rw [if_neg (by omega)]⟩), fun nm m hb => (hr.mp _ _ hb).ext hx (fun ho => ⟨rfl, hold _ (hr.own _ _ ho), by have := hr.own _ _ ho; simp only [Env.newVO]; rw [if_neg (by omega)]⟩)⟩, hx⟩
  · intro nm ty' cells hb
    obtain ⟨cs, a1, a2, a3, a4⟩ := hr.blk nm ty' cells hb
    have hlt := hr.own _ _ a4
    exact ⟨cs, (hold _ hlt).trans a1, a2.ext hx, a3, by simp only [Env.newVO]; rw [if_neg (by omega)]; exact a4⟩
  · intro id ver ty' sz' n f' hv
    simp only [getV_snoc] at hv
    split at hv
    · rename_i e
      cases hv
      have e' : id = E.nv := e.trans hr.nv.symm
      refine ⟨hsz, ⟨some ⟨w.heap.size, 0, none⟩, 0, by simp [Env.newVO, e'], .inr ⟨w.heap.size, 0, #[], rfl, Nat.le_refl _, by simp [maxLen], heap_alloc_new w _, by simp, by simp [Env.newVO, e'], fun k u hk => by simp at hk, fun i j u hi => by omega⟩⟩, fun v' hv' => ?_⟩
      simp only [Env.newVO, e', if_true]
      rw [if_neg (by omega)]
    · rename_i e
      have e' : id ≠ E.nv := fun e' => e (e'.trans hr.nv)
      obtain ⟨h0, ⟨a, cap, k1, k2⟩, k3⟩ := hr.vec id ver ty' sz' n f' hv
      refine ⟨h0, ⟨a, cap, by simp only [Env.newVO, e', if_false]; exact k1, k2.ext hx (fun g hg => ⟨hold g (hr.own _ _ hg), by have := hr.own _ _ hg; simp only [Env.newVO]; rw [if_neg (by omega)]⟩)⟩, fun v' hv' => by simp only [Env.newVO, e', if_false]; exact k3 v' hv'⟩
  · intro b t hb
    simp only [Env.newVO] at hb
    split at hb
    · rename_i e; subst e; simp
    · have := hr.own b t hb; simp; omega

theorem repZ_get (z : List SV) (hz : 0 < z.length) : ∀ (n k : Nat), k < n * z.length → (repZ z n)[k]? = z[k % z.length]?
  | 0, k, h => by simp at h
  | n + 1, k, h => by
    simp only [repZ]
    by_cases hk : k < z.length
    · rw [List.getElem?_append_left hk, Nat.mod_eq_of_lt hk]
    · have h2 : (n + 1) * z.length = n * z.length + z.length := by rw [Nat.add_mul, Nat.one_mul]
      rw [List.getElem?_append_right (by omega), repZ_get z hz n _ (by omega), ← Nat.mod_eq_sub_mod (by omega)]
theorem repZ_len (z : List SV) : ∀ n, (repZ z n).length = n * z.length
  | 0 => by simp [repZ]
  | n + 1 => by simp [repZ, repZ_len z n, Nat.add_mul, Nat.add_comm]

theorem rBuildSlice_ok {P : Program} {E : Env} {h : HS} {w : World} (hr : RelH E h w) {t e : TypeId} {te : TI} (ht : P.underlying t = some (.slice e)) (hE : TIOk P e te) (len : Nat)
    {ps : List (Nat × SV)} {vs : Array (Nat × Value)} (hl : ps.length = vs.toList.length) (hd : ∀ (k : Nat) (x : Nat × SV) (y : Nat × Value), ps[k]? = some x → vs.toList[k]? = some y → x.1 = y.1 ∧ Den E w x.2 y.2) :
    ResOk P E h w ((Instr.buildSlice t len vs >>= fun v => pure (Next.value v)).run P w) (rBuildSlice e te len ps h) := by
  obtain ⟨i, z, hi, hs, hb, hz, hzs, hzl, hzc⟩ := hE.info
  have hS : (sizeOf e).run P w = .ok te.size w := by simp [sizeOf, typeInfo, hi, hs]
  unfold rBuildSlice
  split
  · -- an empty literal
    intro hsz
    obtain ⟨vl⟩ := vs
    have hv : vl = [] := by simpa using hl.symm
    subst hv
    obtain ⟨h1, h2⟩ := hr.newVecO e te.size hsz (fun _ _ => .any)
    refine ⟨.slice (some ⟨w.heap.size, 0, none⟩) 0 0, _, _, ?_, .vec (by simp only [Env.newVO, hr.nv]; omega) (by simp [Env.newVO, hr.nv]), h1, h2⟩
    have hr0 : Array.range 0 = #[] := by apply Array.ext'; simp
    simp [Instr.buildSlice, run_underlying ht, hS, Instr.fill, newRow, hr0]
  unfold fin3
  split
  · rename_i p c hf
    rintro ⟨hp, hsz, hlen, hbig⟩
    have h0 : len * te.size ≠ 0 := by have := Nat.mul_pos hlen hsz; omega
    obtain ⟨z1, z2⟩ := zcs_ok (E := E) (w := w) te.zero z.cells.toList (by simp [hzl, hzs]) (fun k u hk => (hzc k u (by simpa using hk)).2)
    have hzlen : (zcs te.zero).length = te.size := by rw [z1]; simp [hzs]
    have key : ∀ (k : Nat) (u : Value), ((Array.range (len * te.size)).map (fun k => z.cells[k % z.cells.size]!))[k]? = some u → k < len * te.size ∧ z.cells[k % te.size]? = some u := by
      intro k u hu
      rw [Array.getElem?_map, Array.getElem?_range] at hu
      by_cases hk : k < len * te.size
      · rw [if_pos hk] at hu
        simp only [Option.map_some, Option.some.injEq] at hu
        refine ⟨hk, ?_⟩
        rw [← hu, hzs]
        have : k % te.size < z.cells.size := by rw [hzs]; exact Nat.mod_lt _ hsz
        rw [Array.getElem?_eq_getElem this, getElem!_pos z.cells _ this]
      · rw [if_neg hk] at hu; simp at hu
    have b1 : DenA E w (repZ (zcs te.zero) len) ((Array.range (len * te.size)).map (fun k => z.cells[k % z.cells.size]!)) := by
      refine ⟨by simp [repZ_len, hzlen], fun k x u hx hu => ?_⟩
      obtain ⟨hk, hu'⟩ := key k u hu
      rw [repZ_get _ (by omega) _ _ (by rw [hzlen]; exact hk), hzlen] at hx
      exact z2 _ x u hx (by simpa using hu')
    obtain ⟨cs', r1, r2, r3⟩ := fillS_ok (place' := fun k => some (k * te.size, te.size)) (fun k x hx => by simpa [placeA] using hx) ps vs.toList _ _ hl hd b1 (fun k u hu => (hzc _ u (key k u hu).2).1) p c hf hp
    have hrun : (Instr.buildSlice t len vs).run P w = .ok (.slice (some ⟨w.heap.size, 0, none⟩) len len) (w.alloc (.cells cs' e)) := by
      have hbig' : ¬ (16777216 < len * te.size) := by omega
      have hz0 : (zeroValue e).run P w = .ok z w := by simp [zeroValue, typeInfo, hi, hz]
      simp only [Instr.buildSlice, Sem.run_bind, run_underlying ht, Result.andThen_ok, hS]
      rw [if_neg (by simpa using hbig'), if_neg h0]
      simp only [Sem.run_bind, Sem.run_pure, hz0, Result.andThen_ok, r1]
      simp [newRow]
    have hx : Ext E w E (w.alloc (.cells cs' e)) := ext_of_grow hr.own rfl rfl rfl (by simp) (fun b hb => Below.heap_alloc w _ b hb)
    have hcl : c.length = len * te.size := by rw [fillS_len _ _ _ _ hf, repZ_len, hzlen]
    have hcsz : cs'.size = len * te.size := r2.1.trans hcl
    have hll : len ≤ maxLen := by
      have := Nat.le_mul_of_pos_right len hsz
      simp only [maxLen]; omega
    obtain ⟨q1, q2⟩ := hr.adopt hx (fun b hb => Below.heap_alloc w _ b hb) (g := w.heap.size) (n := len) (cap := len) (ty := e) (sz := te.size) hsz (f := if len = 1 then oneF c else cellAt c te.size) (cur := cs') (Nat.le_refl _) (by simp) (Nat.le_refl _) hll (heap_alloc_new w _) (by omega)
      (fun k u hk hu => r3 k u hu)
      (fun i j u hi' hj hu => by
        have hx' := adopt_ext hr.own hx (fun b hb => Below.heap_alloc w _ b hb) (Nat.le_refl w.heap.size) len len
        have hk := idx_lt hi' hj
        have hden : Den (E.adopt w.heap.size len len) (w.alloc (.cells cs' e)) (nth c (i * te.size + j)) u := by
          have := (r2.nth (i * te.size + j)).ext hx'
          have e1 : cs'.getD (i * te.size + j) undef = u := by rw [Array.getD_eq_getD_getElem?, hu]; rfl
          rwa [e1] at this
        split
        · rename_i e1
          subst e1
          have : i = 0 := by omega
          subst this
          simpa [oneF] using hden
        · exact hden)
    exact ⟨.slice (some ⟨w.heap.size, 0, none⟩) len len, _, _, by simp [hrun], .vec (a := some ⟨w.heap.size, 0, none⟩) (n := len) (cap := len) (by simp only [Env.adopt, hr.nv]; omega) (by simp [Env.adopt, hr.nv]), q1, q2⟩
  · trivial
end Go.Eng
end

/- One operation of any kind. -/
section
namespace Go.Eng
open Go.RowKit
set_option linter.unusedVariables false

def rIface (ti : TI) (t : TypeId) (x : SV) (h : HS) : Res := if ti.ifc then .bad else .val True (.iface t x) h
theorem rIface_ok {P : Program} {E : Env} {h : HS} {w : World} (hr : RelH E h w) {t : TypeId} {ti : TI} (hT : TIOk P t ti) {x : SV} {v : Value} (hx : Den E w x v) :
    ResOk P E h w ((Instr.makeInterface t v >>= fun v => pure (Next.value v)).run P w) (rIface ti t x h) := by
  obtain ⟨d, hd, hifc, _⟩ := hT.desc
  unfold rIface
  split
  · trivial
  · rename_i hn
    refine ResOk.pure hr (fun _ => ?_) (.iface hx)
    cases d <;> simp at hifc <;> first | (simp [Instr.makeInterface, run_underlying hd]; done) | (exact absurd hifc hn)

def rExtract (x : SV) (i : Nat) (h : HS) : Res :=
  match x with
  | .tup l => .val (i < lenS l) (nth l i) h
  | _ => .bad
theorem rExtract_ok {P : Program} {E : Env} {h : HS} {w : World} (hr : RelH E h w) {x : SV} {v : Value} (hx : Den E w x v) (i : Nat) :
    ResOk P E h w ((Instr.extract v i >>= fun v => pure (Next.value v)).run P w) (rExtract x i h) := by
  unfold rExtract
  split
  · cases hx
    rename_i l vs hs hd
    intro hi
    rw [lenS_eq] at hi
    have hi' : i < vs.size := by omega
    refine ⟨vs[i], w, E, by simp [Instr.extract, hi'], ?_, hr, Ext.refl E w⟩
    rw [nth_eq]
    simpa [List.getD, List.getElem?_eq_getElem hi] using hd i l[i] vs[i] (List.getElem?_eq_getElem hi) (Array.getElem?_eq_getElem hi')
  · trivial

def zeroV (ti : TI) : SV := if ti.agg then .agg (zcs ti.zero) else nth (zcs ti.zero) 0
def rAssert (ti : TI) (t : TypeId) (x : SV) (ok : Bool) (h : HS) : Res :=
  if ti.ifc then .bad else
  match x with
  | .iface t' v => if t' = t then .val True (if ok then .tup [v, .bool true] else v) h else .bad
  | _ => .bad
theorem rAssert_ok {P : Program} {E : Env} {h : HS} {w : World} (hr : RelH E h w) {t : TypeId} {ti : TI} (hT : TIOk P t ti) {x : SV} {v : Value} (hx : Den E w x v) (xt : TypeId) (ok : Bool) :
    ResOk P E h w ((Instr.typeAssert v xt t ok >>= fun v => pure (Next.value v)).run P w) (rAssert ti t x ok h) := by
  obtain ⟨d, hd, hifc, _⟩ := hT.desc
  unfold rAssert
  split
  · trivial
  · rename_i hn
    split
    · cases hx
      rename_i t' y u hy
      split
      · rename_i e
        subst e
        cases ok with
        | true =>
          refine ResOk.pure (val := .tuple #[u, .bool true]) hr (fun _ => ?_) (.tup _ rfl (fun i a b ha hb => ?_))
          · cases d <;> simp at hifc <;> first | (simp [Instr.typeAssert, run_underlying hd]; done) | (exact absurd hifc hn)
          · match i, ha, hb with
            | 0, ha, hb => simp at ha hb; subst ha hb; exact hy
            | 1, ha, hb => simp at ha hb; subst ha hb; exact .bool _
            | i + 2, ha, hb => simp at ha
        | false =>
          refine ResOk.pure hr (fun _ => ?_) hy
          cases d <;> simp at hifc <;> first | (simp [Instr.typeAssert, run_underlying hd]; done) | (exact absurd hifc hn)
      · trivial
    · trivial

/-- x[lo:hi] of a row. -/
def rSlice (ti : TI) (x : SV) (lo hi : Option SV) (h : HS) : Res :=
  match ti.kind, x, lo, hi with
  | .slice _, .row n sz f, some (.int _ l), some (.int _ u) => .val (0 ≤ l ∧ l ≤ u ∧ u ≤ (n : Int)) (.row (u.toNat - l.toNat) sz (fun i j => f (l.toNat + i) j)) h
  | .slice _, .row n sz f, some (.int _ l), none => .val (0 ≤ l ∧ l ≤ (n : Int)) (.row (n - l.toNat) sz (fun i j => f (l.toNat + i) j)) h
  | .slice _, .row n sz f, none, some (.int _ u) => .val (0 ≤ u ∧ u ≤ (n : Int)) (.row u.toNat sz f) h
  | _, _, _, _ => .bad
theorem row_cut {E : Env} {w : World} {n sz : Nat} {f : Nat → Nat → SV} {v : Value} (hx : Den E w (.row n sz f) v) (l u : Nat) (hlu : l ≤ u) (hun : u ≤ n) :
    ∃ a cap, v = .slice a n cap ∧ n ≤ cap ∧ Den E w (.row (u - l) sz (fun i j => f (l + i) j)) (.slice (if cap = l then a else a.map (·.add (l * sz))) (u - l) (cap - l)) := by
  cases hx
  · rename_i A cap g hA ho hn hc h1 hd
    refine ⟨some A, cap, rfl, hn, ?_⟩
    by_cases e : cap = l
    · have : u - l = 0 := by omega
      rw [this]
      exact .rowZ _ _
    · rw [if_neg e]
      refine .row (A.add (l * sz)) (cap - l) (fun i j => g (l + i) j) (by rw [add_block]; exact hA) (by rw [add_block]; exact ho) (by omega) (fun i j hi hj => ?_) (fun i j hi hj => h1 _ _ (by omega) hj) (fun i j hi hj => hd _ _ (by omega) hj)
      rw [Addr.add_add]
      have := hc (l + i) j (by omega) hj
      rwa [Nat.add_mul, Nat.add_assoc] at this
  · rename_i a cap
    refine ⟨a, cap, rfl, Nat.zero_le _, ?_⟩
    have : u - l = 0 := by omega
    rw [this]
    exact .rowZ _ _

theorem rSlice_ok {P : Program} {E : Env} {h : HS} {w : World} (hr : RelH E h w) {t e : TypeId} {ti te : TI} (hT : TIOk P t ti) (hk : ti.kind = .slice e) (hE : TIOk P e te) {x : SV} {v : Value} (hx : Den E w x v)
    {lo hi : Option SV} {vlo vhi : Option Value} (hlo : match lo, vlo with | some a, some b => Den E w a b | none, none => True | _, _ => False) (hhi : match hi, vhi with | some a, some b => Den E w a b | none, none => True | _, _ => False)
    (hsz : ∀ n sz f, x = .row n sz f → te.size = sz) :
    ResOk P E h w ((Instr.sliceAt t v vlo vhi none >>= fun v => pure (Next.value v)).run P w) (rSlice ti x lo hi h) := by
  obtain ⟨d, hd, _, _, hkd⟩ := hT.desc
  rw [hk] at hkd
  simp only at hkd
  subst hkd
  obtain ⟨i0, z0, hi0, hs0, _⟩ := hE.info
  have hS : (sizeOf e).run P w = .ok te.size w := by simp [sizeOf, typeInfo, hi0, hs0]
  unfold rSlice
  split
  · rename_i e' n sz f k l k' u _ 
    rintro ⟨p1, p2, p3⟩
    cases vlo with
    | none => exact hlo.elim
    | some vl =>
      cases vhi with
      | none => exact hhi.elim
      | some vu =>
        simp only at hlo hhi
        cases hlo
        cases hhi
        obtain ⟨a, cap, rfl, hcap, hden⟩ := row_cut hx l.toNat u.toNat (by omega) (by omega)
        refine ⟨_, w, E, ?_, hden, hr, Ext.refl E w⟩
        have q1 : 0 ≤ u := by omega
        have q2 : u ≤ (cap : Int) := by omega
        simp [Instr.sliceAt, Instr.slice, run_underlying hd, Instr.sliceBounds, Instr.sliceBound, asIntOf, p1, q1, q2, p2, hS, hsz n sz f rfl]
        intro hc; omega
  · rename_i e' n sz f k l _
    rintro ⟨p1, p2⟩
    cases vlo with
    | none => exact hlo.elim
    | some vl =>
      cases vhi with
      | some vu => exact hhi.elim
      | none =>
        simp only at hlo
        cases hlo
        obtain ⟨a, cap, rfl, hcap, hden⟩ := row_cut hx l.toNat n (by omega) (by omega)
        refine ⟨_, w, E, ?_, hden, hr, Ext.refl E w⟩
        simp [Instr.sliceAt, Instr.slice, run_underlying hd, Instr.sliceBounds, Instr.sliceBound, asIntOf, p1, p2, hS, hsz n sz f rfl]
  · rename_i e' n sz f k u _
    rintro ⟨p1, p2⟩
    cases vlo with
    | some vl => exact hlo.elim
    | none =>
      cases vhi with
      | none => exact hhi.elim
      | some vu =>
        simp only at hhi
        cases hhi
        obtain ⟨a, cap, rfl, hcap, hden⟩ := row_cut hx 0 u.toNat (by omega) (by omega)
        have q2 : u ≤ (cap : Int) := by omega
        refine ⟨_, w, E, ?_, by simpa using hden, hr, Ext.refl E w⟩
        cases a <;> simp [Instr.sliceAt, Instr.slice, run_underlying hd, Instr.sliceBounds, Instr.sliceBound, asIntOf, p1, q2, hS, hsz n sz f rfl]
  · trivial

/-- What is appended: whether its name is fresh, how many, of how many cells, which. -/
def srcV (ver : Nat) : Vc → Option (Prop × Nat × Nat × (Nat → Nat → SV))
  | .live ver' _ sz m g => some (ver = ver', m, sz, g)
  | .dead => none
def srcC (ver sz lo n : Nat) : Vc → Option (Prop × Nat × Nat × (Nat → Nat → SV))
  | .live ver' _ sz' _ g => some (ver = ver' ∧ sz = sz', n, sz, fun i j => g (lo + i) j)
  | .dead => none
def srcB (off n : Nat) : Blk → Option (Prop × Nat × Nat × (Nat → Nat → SV))
  | .live _ cells => some (off + n ≤ lenS cells, n, 1, fun i _ => nth cells (off + i))
  | _ => none
def srcOf (h : HS) : SV → Option (Prop × Nat × Nat × (Nat → Nat → SV))
  | .row m sz g => some (True, m, sz, g)
  | .vec id ver => srcV ver (getV h.vecs id)
  | .vcut id ver sz lo n _ => srcC ver sz lo n (getV h.vecs id)
  | .bsl nm off n => srcB off n (getB h.blks nm)
  | .nils _ sz => some (True, 0, sz, fun _ _ => .any)
  | _ => none
theorem cutSrc {E : Env} {w : World} {id : Nat} {ty : TypeId} {sz N : Nat} {f : Nat → Nat → SV} {a a' : Option Addr} {cap : Nat} (h : VecAt E w id ty sz N f a cap) {lo n M : Nat} (hn : lo + n ≤ N) (hM : lo + n ≤ M) (ha : M ≠ lo → a' = a.map (·.add (lo * sz))) :
    (∃ A c, (.slice a' n (M - lo) : Value) = .slice (some A) n c ∧ SrcAt E w A n sz (fun i j => f (lo + i) j)) ∨ (n = 0 ∧ ∃ b c, (.slice a' n (M - lo) : Value) = .slice b 0 c) := by
  by_cases h0 : n = 0
  · subst h0; exact .inr ⟨rfl, _, _, rfl⟩
  rcases h with ⟨_, hN, _⟩ | ⟨g, o, cur, h1, h2, h3, h4, h5, h6, h7, h8⟩
  · omega
  · subst h1
    refine .inl ⟨⟨g, o + lo * sz, none⟩, M - lo, ?_, ?_⟩
    · rw [ha (by omega)]
      simp [Addr.add_lit]
    · have hle : o + N * sz ≤ cur.size := Nat.le_trans (Nat.add_le_add_left (Nat.mul_le_mul_right _ h2) _) h5
      have hln : (lo + n) * sz ≤ N * sz := Nat.mul_le_mul_right _ hn
      rw [Nat.add_mul] at hln
      refine ⟨(cur.toList.drop (o + lo * sz)).take (n * sz), by simp; omega, ?_, ?_, ?_⟩
      · intro k u hu
        rw [List.getElem?_take] at hu
        split at hu
        · rw [List.getElem?_drop] at hu
          rw [Addr.add_lit]
          simp only [World.cell?, h4]
          simpa using hu
        · cases hu
      · intro u hu
        obtain ⟨k, hk⟩ := List.getElem?_of_mem hu
        rw [List.getElem?_take] at hk
        split at hk
        · rename_i hlt
          rw [List.getElem?_drop] at hk
          exact h7 (lo * sz + k) u (by omega) (by rw [← Nat.add_assoc]; simpa using hk)
        · cases hk
      · intro i j u hi hj hu
        rw [List.getElem?_take, if_pos (idx_lt hi hj), List.getElem?_drop] at hu
        refine h8 (lo + i) j u (by omega) hj ?_
        rw [show o + ((lo + i) * sz + j) = o + lo * sz + (i * sz + j) by rw [Nat.add_mul]; omega]
        simpa using hu
theorem srcOf_ok {E : Env} {h : HS} {w : World} (hr : RelH E h w) {x : SV} {vx : Value} (hx : Den E w x vx) {p : Prop} {m sz : Nat} {g : Nat → Nat → SV} (hs : srcOf h x = some (p, m, sz, g)) (hp : p) (hsz : 0 < sz) :
    (∃ A c, vx = .slice (some A) m c ∧ SrcAt E w A m sz g) ∨ (m = 0 ∧ ∃ a' c, vx = .slice a' 0 c) := by
  unfold srcOf at hs
  split at hs
  · cases hs
    cases hx
    · rename_i A c g' hA ho hn hc h1 hd
      exact .inl ⟨A, c, rfl, srcAt_row hsz g' hc h1 hd⟩
    · exact .inr ⟨rfl, _, _, rfl⟩
  · rename_i id2 ver2
    unfold srcV at hs
    split at hs
    · rename_i ver2' e2 sz' m g hv2
      cases hs
      subst hp
      obtain ⟨_, ⟨a2, cap2, l1, l2⟩, _⟩ := hr.vec _ _ _ _ _ _ hv2
      cases hx
      rename_i a3 n3 cap3 hid3 hval3
      rw [l1] at hval3
      simp only [Option.some.injEq, Prod.mk.injEq] at hval3
      obtain ⟨rfl, rfl, rfl⟩ := hval3
      cases a2 with
      | none =>
        rcases l2 with ⟨_, h0, _⟩ | ⟨_, _, _, h0, _⟩
        · exact .inr ⟨h0, none, cap2, by rw [h0]⟩
        · cases h0
      | some A => exact .inl ⟨A, cap2, rfl, l2.src⟩
    · cases hs
  · rename_i id2 ver2 sz2 lo n2 x2
    unfold srcC at hs
    split at hs
    · rename_i ver2' e2 sz' N g hv2
      cases hs
      obtain ⟨rfl, rfl⟩ := hp
      obtain ⟨_, ⟨a2, cap2, l1, l2⟩, _⟩ := hr.vec _ _ _ _ _ _ hv2
      obtain ⟨a3, a4, N3, cap3, rfl, hid3, hval3, hn3, hc3, ha3, h03, hA3, hB3⟩ := hx.vcut_inv
      rw [l1] at hval3
      simp only [Option.some.injEq, Prod.mk.injEq] at hval3
      obtain ⟨rfl, rfl, rfl⟩ := hval3
      exact cutSrc l2 hn3 (by cases x2 <;> simp <;> omega) ha3
    · cases hs
  · rename_i nm off n
    unfold srcB at hs
    split at hs
    · rename_i ty cells hb
      cases hs
      obtain ⟨cs, b1, b2, b3, b4⟩ := hr.blk _ _ _ hb
      rw [lenS_eq] at hp
      have hsz := b2.1
      cases hx
      rename_i cap hn hc
      refine .inl ⟨⟨E.rho nm, off, none⟩, cap, rfl, (cs.toList.drop off).take m, by simp; omega, ?_, ?_, ?_⟩
      · intro k u hu
        rw [List.getElem?_take] at hu
        split at hu
        · rw [List.getElem?_drop] at hu
          rw [Addr.add_lit]
          simp only [World.cell?, b1]
          simpa using hu
        · cases hu
      · intro u hu
        obtain ⟨k, hk⟩ := List.getElem?_of_mem hu
        rw [List.getElem?_take] at hk
        split at hk
        · rw [List.getElem?_drop] at hk
          exact b3 (off + k) u (by simpa using hk)
        · cases hk
      · intro i j u hi hj hu
        obtain rfl : j = 0 := by omega
        simp only [Nat.mul_one, Nat.add_zero] at hu
        rw [List.getElem?_take, if_pos hi] at hu
        · rw [List.getElem?_drop] at hu
          have hl : off + i < cells.length := by omega
          show Den E w (nth cells (off + i)) u
          rw [nth_eq]
          have := b2.2 (off + i) (cells[off + i]) u (List.getElem?_eq_getElem hl) (by simpa using hu)
          simpa [List.getD, List.getElem?_eq_getElem hl] using this
    · cases hs
  · cases hs
    cases hx
    exact .inr ⟨rfl, _, _, rfl⟩
  · cases hs

def apV (e : TypeId) (te : TI) (id ver : Nat) (h : HS) (v : Vc) (s : Option (Prop × Nat × Nat × (Nat → Nat → SV))) : Res :=
  match v, s with
  | .live ver' e' sz n f, some (p, m, sz', g) => .val (p ∧ ver = ver' ∧ e = e' ∧ sz = te.size ∧ sz' = sz ∧ ((n + m : Nat) : Int) * (te.bytes : Int) ≤ 140737488355328 ∧ ((n + m : Nat) : Int) ≤ 9223372036854775807) (.vec id (ver + 1)) { h with vecs := setV h.vecs id (.live (ver' + 1) e' sz (n + m) (catF n f g)) }
  | _, _ => .bad
def apC (e : TypeId) (te : TI) (id ver sz lo n : Nat) (h : HS) (v : Vc) (s : Option (Prop × Nat × Nat × (Nat → Nat → SV))) : Res :=
  match v, s with
  | .live ver' e' sz2 _ f, some (p, m, sz', g) => .val (p ∧ ver = ver' ∧ e = e' ∧ sz = te.size ∧ sz2 = sz ∧ sz' = sz ∧ lo = 0 ∧ ((n + m : Nat) : Int) * (te.bytes : Int) ≤ 140737488355328 ∧ ((n + m : Nat) : Int) ≤ 9223372036854775807) (.vec id (ver + 2)) { h with vecs := setV h.vecs id (.live (ver' + 2) e' sz2 (n + m) (catF n f g)) }
  | _, _ => .bad
/-- Onto a nil slice: an own slice. -/
def apN (e : TypeId) (te : TI) (e' sz : Nat) (h : HS) (s : Option (Prop × Nat × Nat × (Nat → Nat → SV))) : Res :=
  match s with
  | some (p, m, sz', g) => .val (p ∧ e = e' ∧ sz = te.size ∧ sz' = sz ∧ ((0 + m : Nat) : Int) * (te.bytes : Int) ≤ 140737488355328 ∧ ((0 + m : Nat) : Int) ≤ 9223372036854775807) (.vec (lenV h.vecs) 1) { h with vecs := snocV h.vecs (.live 1 e' sz (0 + m) (catF 0 (fun _ _ => .any) g)) }
  | none => .bad
theorem setV_last : ∀ (l : List Vc) (a b : Vc), setV (snocV l a) (lenV l) b = snocV l b
  | [], _, _ => rfl
  | x :: l, a, b => by simp [setV, snocV, lenV, setV_last l a b]
/-- Onto a part whose room ends with it: a new slice. -/
def apX (e : TypeId) (te : TI) (ver sz lo n : Nat) (h : HS) (v : Vc) (s : Option (Prop × Nat × Nat × (Nat → Nat → SV))) : Res :=
  match v, s with
  | .live ver' e' sz2 _ f, some (p, m, sz', g) => .val (p ∧ 0 < m ∧ ver = ver' ∧ e = e' ∧ sz = te.size ∧ sz2 = sz ∧ sz' = sz ∧ ((n + m : Nat) : Int) * (te.bytes : Int) ≤ 140737488355328 ∧ ((n + m : Nat) : Int) ≤ 9223372036854775807) (.vec (lenV h.vecs) 0) { h with vecs := snocV h.vecs (.live 0 e' sz2 (n + m) (catF n (fun i j => f (lo + i) j) g)) }
  | _, _ => .bad
def apCX (e : TypeId) (te : TI) (id ver sz n : Nat) (h : HS) (v : Vc) (s : Option (Prop × Nat × Nat × (Nat → Nat → SV))) : Nat → Bool → Res
  | lo + 1, true => apX e te ver sz (lo + 1) n h v s
  | lo, _ => apC e te id ver sz lo n h v s
def rAppend (e : TypeId) (te : TI) (s x : SV) (h : HS) : Res :=
  match s with
  | .vec id ver => apV e te id ver h (getV h.vecs id) (srcOf h x)
  | .vcut id ver sz lo n x' => apCX e te id ver sz n h (getV h.vecs id) (srcOf h x) lo x'
  | .nils e' sz => apN e te e' sz h (srcOf h x)
  | _ => .bad

theorem setV_setV : ∀ (l : List Vc) (n : Nat) (a b : Vc), setV (setV l n a) n b = setV l n b
  | [], _, _, _ => rfl
  | _ :: _, 0, _, _ => rfl
  | x :: l, n + 1, a, b => by simp only [setV, setV_setV l n a b]
theorem SrcAt.ext {E E' : Env} {w w' : World} (hx : Ext E w E' w') (hw : w' = w) {A : Addr} {m sz : Nat} {g : Nat → Nat → SV} (h : SrcAt E w A m sz g) : SrcAt E' w' A m sz g := by
  subst hw
  obtain ⟨news, h1, h2, h3, h4⟩ := h
  exact ⟨news, h1, h2, h3, fun i j u hi hj hu => (h4 i j u hi hj hu).ext hx⟩
/-- An own slice goes on as its first part. -/
theorem cut_ok {E : Env} {h : HS} {w : World} (hr : RelH E h w) {id ver : Nat} {ty : TypeId} {sz N : Nat} {f : Nat → Nat → SV} (hv : getV h.vecs id = .live ver ty sz N f) {a : Option Addr} {cap : Nat} (hval : E.val id ver = some (a, N, cap)) {n c : Nat} (hn : n ≤ N) (hc1 : n ≤ c) (hc2 : c ≤ cap) :
    Ext E w (E.bump id (ver + 1) (a, n, c)) w ∧ RelH (E.bump id (ver + 1) (a, n, c)) { h with vecs := setV h.vecs id (.live (ver + 1) ty sz n f) } w := by
  obtain ⟨hsz, ⟨a2, cap2, k1, k2⟩, k3⟩ := hr.vec _ _ _ _ _ _ hv
  rw [hval] at k1
  simp only [Option.some.injEq, Prod.mk.injEq, true_and] at k1
  obtain ⟨rfl, rfl⟩ := k1
  have hxx := bump_ext hr hv (Ext.refl E w) (a, n, c)
  refine ⟨hxx, hr.moved hv hxx rfl rfl rfl (fun i v hi => by simp [Env.bump, hi]) (fun b t hb _ => ⟨rfl, rfl⟩) hr.own (a := a) (cap := c) (by simp [Env.bump]) ?_ (bump_none k3)⟩
  rcases k2 with h1 | ⟨g1, o, cur, h1, h2, h3, h4, h5, h6, h7, h8⟩
  · exact .inl ⟨h1.1, by omega, by omega⟩
  · have := Nat.mul_le_mul_right sz hn
    exact .inr ⟨g1, o, cur, h1, hc1, by omega, h4, Nat.le_trans (Nat.add_le_add_left (Nat.mul_le_mul_right _ hc2) _) h5, h6, fun k u hk hu => h7 k u (by omega) hu, fun i j u hi hj hu => (h8 i j u (by omega) hj hu).ext hxx⟩

theorem apX_ok {P : Program} {E : Env} {h : HS} {w : World} (hr : RelH E h w) {t e : TypeId} {te : TI} (ht : P.underlying t = some (.slice e)) (hE : TIOk P e te) (tr : TypeId) {id ver sz lo n : Nat} {x : SV} {vs vx : Value} (hs : Den E w (.vcut id ver sz lo n true) vs) (hx : Den E w x vx) :
    ResOk P E h w ((Builtin.append_ #[t, t] tr #[vs, vx] >>= fun v => pure (Next.value v)).run P w) (apX e te ver sz lo n h (getV h.vecs id) (srcOf h x)) := by
  obtain ⟨i, z, hi, hsz, hby, hz, hzs, _⟩ := hE.info
  unfold apX
  split
  rotate_left
  · trivial
  rename_i ver' e' sz2 N f p m sz' g hv hsr
  obtain ⟨hz', ⟨a0, cap0, k1, k2⟩, k3⟩ := hr.vec _ _ _ _ _ _ hv
  rintro ⟨hp, hm, rfl, rfl, hs', e2, rfl, hb, hl⟩
  subst e2
  subst hs'
  obtain ⟨a, a', N', cap, rfl, hid, hval, hn, hc, ha9, h09, hA9, hB9⟩ := hs.vcut_inv
  simp only [if_true] at ha9 ⊢
  rw [show lo + n - lo = n by omega]
  rw [k1] at hval
  simp only [Option.some.injEq, Prod.mk.injEq] at hval
  obtain ⟨rfl, rfl, rfl⟩ := hval
  have hsrc := srcOf_ok hr hx hsr hp hz'
  obtain ⟨A, c, rfl, news, hln, hnews, hone, hden⟩ : ∃ A c, vx = .slice (some A) m c ∧ SrcAt E w A m te.size g := by
    rcases hsrc with hx | ⟨h0, _⟩
    · exact hx
    · omega
  rw [← hby] at hb
  have h63 : ((n + m : Nat) : Int) ≤ 9223372036854775807 := hl
  have hby2 : (n + m) * i.bytes ≤ 140737488355328 := by rw [← Int.natCast_mul] at hb; omega
  -- what was there
  have old : ∃ olds : List Value, olds.length = n * te.size ∧ (∀ j u, olds[j]? = some u → ∀ A, a' = some A → w.cell? (A.add j) = some u) ∧ (∀ (k : Nat) (u : Value), olds[k]? = some u → u.oneCell' = true) ∧
      (∀ i' j u, i' < n → j < te.size → olds[i' * te.size + j]? = some u → Den E w (f (lo + i') j) u) ∧ (a' = none → n = 0) := by
    by_cases hn0 : n = 0
    · exact ⟨[], by simp [hn0], fun j u hu => by simp at hu, fun k u hu => by simp at hu, fun i' j u hi' => by omega, fun _ => hn0⟩
    · rcases k2 with ⟨_, h1, _⟩ | ⟨g1, o, cur, rfl, h2, h3, h4, h5, h6, h7, h8⟩
      · omega
      · have ha' := ha9 (by omega)
        simp only [Option.map_some] at ha'
        subst ha'
        have hle : o + N * te.size ≤ cur.size := Nat.le_trans (Nat.add_le_add_left (Nat.mul_le_mul_right _ h2) _) h5
        have hin : (lo + n) * te.size ≤ N * te.size := Nat.mul_le_mul_right _ hn
        rw [Nat.add_mul] at hin
        have hg : ∀ j, j < n * te.size → ((cur.toList.drop (o + lo * te.size)).take (n * te.size))[j]? = cur[o + lo * te.size + j]? := fun j hj => by
          rw [List.getElem?_take, if_pos hj, List.getElem?_drop]
          simp
        have hlen : ((cur.toList.drop (o + lo * te.size)).take (n * te.size)).length = n * te.size := by simp; omega
        have hlt : ∀ j u, ((cur.toList.drop (o + lo * te.size)).take (n * te.size))[j]? = some u → j < n * te.size := fun j u hu => by
          rw [← hlen]; exact (List.getElem?_eq_some_iff.1 hu).1
        refine ⟨(cur.toList.drop (o + lo * te.size)).take (n * te.size), hlen, fun j u hu A hA => ?_, fun k u hu => ?_, fun i' j u hi' hj hu => ?_, fun h => by cases h⟩
        · cases hA
          have hj := hlt j u hu
          rw [hg j hj] at hu
          rw [Addr.add_lit, Addr.add_lit]
          simp only [World.cell?, h4]
          simpa using hu
        · have hk := hlt k u hu
          rw [hg k hk] at hu
          exact h7 (lo * te.size + k) u (by omega) (by rw [← Nat.add_assoc]; exact hu)
        · have hk := hlt _ u hu
          rw [hg _ hk] at hu
          exact h8 (lo + i') j u (by omega) hj (by rw [show o + ((lo + i') * te.size + j) = o + lo * te.size + (i' * te.size + j) by rw [Nat.add_mul]; omega]; exact hu)
  obtain ⟨olds, ho1, ho2, ho3, ho4, ho5⟩ := old
  have fin : ∀ (cap' : Nat) (zs : Array Value), n + m ≤ cap' → cap' ≤ maxLen → zs.size = (cap' - (n + m)) * te.size →
      (Builtin.append_ #[t, t] tr #[.slice a' n n, .slice (some A) m c]).run P w = .ok (.slice (some ⟨w.heap.size, 0, none⟩) (n + m) cap') (w.drew.alloc (.cells (olds.toArray ++ news.toArray ++ zs) e)) →
      ∃ val w' E', (Builtin.append_ #[t, t] tr #[.slice a' n n, .slice (some A) m c] >>= fun v => pure (Next.value v)).run P w = .ok (.value val) w' ∧ Den E' w' (.vec (lenV h.vecs) 0) val ∧
        RelH E' { h with vecs := snocV h.vecs (.live 0 e te.size (n + m) (catF n (fun i j => f (lo + i) j) g)) } w' ∧ Ext E w E' w' := by
    intro cap' zs hc1 hc2 hzl hrun
    have hxx : Ext E w E (w.drew.alloc (.cells (olds.toArray ++ news.toArray ++ zs) e)) := ext_of_grow hr.own rfl rfl rfl (by simp) (fun b hb => Below.heap_alloc w.drew _ b hb)
    have hxa := adopt_ext (n := n + m) (cap := cap') hr.own hxx (fun b hb => Below.heap_alloc w.drew _ b hb) (Nat.le_refl w.heap.size)
    have hcat : ∀ k : Nat, (olds.toArray ++ news.toArray ++ zs)[k]? = (olds ++ news ++ zs.toList)[k]? := fun k => by
      rw [← Array.getElem?_toList]; congr 1; simp
    obtain ⟨q1, q2⟩ := hr.adopt (n := n + m) (cap := cap') (ty := e) (f := catF n (fun i j => f (lo + i) j) g) hxx (fun b hb => Below.heap_alloc w.drew _ b hb) hz' (Nat.le_refl w.heap.size) (by simp) hc1 hc2 (heap_alloc_new w.drew _) (by
        simp only [Array.size_append, List.size_toArray, ho1, hln, hzl, ← Nat.add_mul]
        refine Nat.le_of_eq ?_
        congr 1
        omega) (fun k u hk hu => by
        rw [hcat] at hu
        have hk2 : k < (olds ++ news).length := by rw [List.length_append, ho1, hln, ← Nat.add_mul]; exact hk
        rw [List.getElem?_append_left hk2] at hu
        by_cases hk3 : k < olds.length
        · rw [List.getElem?_append_left hk3] at hu; exact ho3 k u hu
        · rw [List.getElem?_append_right (by omega)] at hu; exact hone u (List.mem_of_getElem? hu)) (fun i' j u hi' hj hu => by
        rw [hcat] at hu
        have hk2 : i' * te.size + j < (olds ++ news).length := by rw [List.length_append, ho1, hln, ← Nat.add_mul]; exact idx_lt hi' hj
        rw [List.getElem?_append_left hk2] at hu
        by_cases hin : i' < n
        · rw [List.getElem?_append_left (by rw [ho1]; exact idx_lt hin hj)] at hu
          simp only [catF, hin, if_true]
          exact (ho4 i' j u hin hj hu).ext hxa
        · obtain ⟨q, rfl⟩ : ∃ q, i' = n + q := ⟨i' - n, by omega⟩
          have e1 : (n + q) * te.size + j = olds.length + (q * te.size + j) := by rw [ho1, Nat.add_mul]; omega
          rw [e1, List.getElem?_append_right (by omega), Nat.add_sub_cancel_left] at hu
          simp only [catF]
          rw [if_neg hin, Nat.add_sub_cancel_left]
          exact (hden q j u (by omega) hj hu).ext hxa)
    refine ⟨_, _, _, by rw [Sem.run_bind, hrun]; rfl, ?_, q1, q2⟩
    rw [← hr.nv]
    exact .vec (by simp [Env.adopt]) (by simp [Env.adopt])
  have hsz2 : ∀ q : Nat, q * i.size = q * te.size := fun q => by rw [hsz]
  cases a' with
  | none =>
    have hn0 := ho5 rfl
    subst hn0
    have hold0 : olds = [] := List.length_eq_zero_iff.1 (by rw [ho1]; simp)
    have hrun := run_append_nil (P := P) w t tr e i z ht hi hz A m c news (by rw [hsz2]; exact hln) hnews (by omega) (by simpa using h63) (by simp only [Nat.zero_add] at hby2; omega)
    refine fin (grownCap w m 0 e) (Builtin.zeroCells z.cells (grownCap w m 0 e - m)) (by have := grownCap_ge w m 0 e; omega) (by simpa using grownCap_le_maxLen w m 0 e (by simp only [maxLen]; omega)) (by rw [size_zeroCells', hzs]; simp) ?_
    rw [hold0]
    simpa using hrun
  | some B =>
    have hrun := run_append_grow (P := P) w t tr e i z ht hi hz B n n olds (by rw [hsz2]; exact ho1) (fun j u hu => ho2 j u hu B rfl) A m c news (by rw [hsz2]; exact hln) hnews (by omega) h63 (growslice_fits (by omega) hby2)
    exact fin (grownCap w (n + m) n e) (Builtin.zeroCells z.cells (grownCap w (n + m) n e - (n + m))) (grownCap_ge w (n + m) n e) (grownCap_le_maxLen w (n + m) n e (by simp only [maxLen]; omega)) (by rw [size_zeroCells', hzs]) hrun
theorem rAppend_ok {P : Program} {E : Env} {h : HS} {w : World} (hr : RelH E h w) {t e : TypeId} {te : TI} (ht : P.underlying t = some (.slice e)) (hE : TIOk P e te) (tr : TypeId) {s x : SV} {vs vx : Value} (hs : Den E w s vs) (hx : Den E w x vx) :
    ResOk P E h w ((Builtin.append_ #[t, t] tr #[vs, vx] >>= fun v => pure (Next.value v)).run P w) (rAppend e te s x h) := by
  obtain ⟨i, z, hi, hsz, hby, hz, hzs, _⟩ := hE.info
  have go : ∀ {E : Env} {h : HS} {id ver e' sz n f a cap m g}, RelH E h w → getV h.vecs id = .live ver e' sz n f → E.val id ver = some (a, n, cap) → e = e' → sz = te.size →
      ((∃ A c, vx = .slice (some A) m c ∧ SrcAt E w A m sz g) ∨ (m = 0 ∧ ∃ a' c, vx = .slice a' 0 c)) → ((n + m : Nat) : Int) * (te.bytes : Int) ≤ 140737488355328 → ((n + m : Nat) : Int) ≤ 9223372036854775807 →
      ∃ val w' E', (Builtin.append_ #[t, t] tr #[.slice a n cap, vx] >>= fun v => pure (Next.value v)).run P w = .ok (.value val) w' ∧ Den E' w' (.vec id (ver + 1)) val ∧
        RelH E' { h with vecs := setV h.vecs id (.live (ver + 1) e' sz (n + m) (catF n f g)) } w' ∧ Ext E w E' w' := by
    intro E h id ver e' sz n f a cap m g hr hv hval he hs' hsrc hb hl
    subst he
    subst hs'
    obtain ⟨a', cap', w', E', r1, r2, r3, r4, r5⟩ := append_ok hr hv t tr i z ht hi hz hsz hzs hval vx m g hsrc (by simp only [maxLen]; omega) (by rw [hby]; rw [← Int.natCast_mul] at hb; omega)
    exact ⟨_, w', E', by simp [r1], .vec r5 r4, r3, r2⟩
  unfold rAppend
  split
  · rename_i id ver
    unfold apV
    split
    · rename_i ver' e' sz n f p m sz' g hv hsr
      obtain ⟨hz', ⟨a0, cap0, k1, k2⟩, k3⟩ := hr.vec _ _ _ _ _ _ hv
      rintro ⟨hp, rfl, he, hs', rfl, hb, hl⟩
      cases hs
      rename_i a n' cap hid hval
      have hval' := hval
      rw [k1] at hval
      simp only [Option.some.injEq, Prod.mk.injEq] at hval
      obtain ⟨rfl, rfl, rfl⟩ := hval
      exact go hr hv hval' he hs' (srcOf_ok hr hx hsr hp hz') hb hl
    · trivial
  · rename_i id ver sz lo n x1
    unfold apCX
    split
    · exact apX_ok hr ht hE tr hs hx
    unfold apC
    split
    · rename_i ver' e' sz2 N f p m sz' g hv hsr
      obtain ⟨hz', ⟨a0, cap0, k1, k2⟩, k3⟩ := hr.vec _ _ _ _ _ _ hv
      rintro ⟨hp, rfl, he, hs', e1, e2, rfl, hb, hl⟩
      subst e2
      subst e1
      obtain ⟨a, a', N', cap, rfl, hid, hval, hn, hc, ha9, h09, hA9, hB9⟩ := hs.vcut_inv
      obtain rfl := h09 rfl
      have hval' := hval
      rw [k1] at hval
      simp only [Option.some.injEq, Prod.mk.injEq] at hval
      obtain ⟨rfl, rfl, rfl⟩ := hval
      simp only [Nat.zero_add] at hn
      have hsrc := srcOf_ok hr hx hsr hp hz'
      obtain ⟨hxx, hr2⟩ := cut_ok hr hv hval' hn (c := if x1 then n else cap0) (by cases x1 <;> simp <;> omega) (by cases x1 <;> simp <;> omega)
      have hsrc2 : (∃ A c, vx = .slice (some A) m c ∧ SrcAt (E.bump id (ver + 1) (a0, n, if x1 then n else cap0)) w A m sz2 g) ∨ (m = 0 ∧ ∃ a' c, vx = .slice a' 0 c) := by
        rcases hsrc with ⟨A, c, h1, h2⟩ | h1
        · exact .inl ⟨A, c, h1, h2.ext hxx rfl⟩
        · exact .inr h1
      have hv2 : getV (setV h.vecs id (.live (ver + 1) e' sz2 n f)) id = .live (ver + 1) e' sz2 n f := by rw [getV_set, if_pos ⟨rfl, getV_lt hv⟩]
      obtain ⟨val, w', E', r1, r2, r3, r4⟩ := go hr2 hv2 (a := a0) (n := n) (cap := if x1 then n else cap0) (by simp [Env.bump]) he hs' hsrc2 hb hl
      refine ⟨val, w', E', ?_, r2, ?_, hxx.trans r4⟩
      · cases x1 <;> simpa using r1
      · simpa [setV_setV] using r3
    · trivial
  · rename_i e1 sz
    unfold apN
    split
    · rename_i p m sz' g hsr
      rintro ⟨hp, rfl, hs', rfl, hb, hl⟩
      cases hs
      rename_i hz'
      have hsrc := srcOf_ok hr hx hsr hp hz'
      have hxn := ext_newV E w
      have hrn := hr.newVec e sz' hz' (fun _ _ => .any)
      have hvn : getV (snocV h.vecs (.live 0 e sz' 0 (fun _ _ => .any))) (lenV h.vecs) = .live 0 e sz' 0 (fun _ _ => .any) := by rw [getV_snoc, if_pos rfl]
      have hsrc2 : (∃ A c, vx = .slice (some A) m c ∧ SrcAt E.newV w A m sz' g) ∨ (m = 0 ∧ ∃ a' c, vx = .slice a' 0 c) := by
        rcases hsrc with ⟨A, c, h1, h2⟩ | h1
        · exact .inl ⟨A, c, h1, h2.ext hxn rfl⟩
        · exact .inr h1
      obtain ⟨val, w', E', r1, r2, r3, r4⟩ := go hrn hvn (a := none) (n := 0) (cap := 0) (by simp [Env.newV, hr.nv]) rfl hs' hsrc2 hb hl
      refine ⟨val, w', E', r1, r2, ?_, hxn.trans r4⟩
      simpa [setV_last] using r3
    · trivial
  · trivial

/- ### parts of own slices -/
def intO (d : Int) : Option SV → Option Int
  | none => some d
  | some (.int _ l) => some l
  | _ => none
/-- Without a third bound, or with one that is the second. -/
def maxO (u : Int) : Option SV → Option (Prop × Bool)
  | none => some (True, false)
  | some (.int _ m) => some (m = u, true)
  | _ => none
def cutR (p : Prop) (id ver sz lo n : Nat) (h : HS) (l u : Option Int) (mx : Option SV) : Res :=
  match l, u with
  | some l, some u => match maxO u mx with
    | some (q, x) => .val (p ∧ q ∧ 0 ≤ l ∧ l ≤ u ∧ u ≤ (n : Int)) (.vcut id ver sz (lo + l.toNat) (u.toNat - l.toNat) x) h
    | none => .bad
  | _, _ => .bad
def sliV (se id ver : Nat) (lo hi mx : Option SV) (h : HS) : Vc → Res
  | .live ver' _ sz n _ => cutR (ver = ver' ∧ se = sz) id ver sz 0 n h (intO 0 lo) (intO (n : Int) hi) mx
  | .dead => .bad
def sliC (se id ver sz lo0 n : Nat) (x : Bool) (lo hi mx : Option SV) (h : HS) : Res :=
  match x, mx with
  | true, none => .bad
  | _, mx => cutR (se = sz) id ver sz lo0 n h (intO 0 lo) (intO (n : Int) hi) mx
def rSliceV (se : Nat) (x : SV) (lo hi mx : Option SV) (h : HS) : Res :=
  match x with
  | .vec id ver => sliV se id ver lo hi mx h (getV h.vecs id)
  | .vcut id ver sz lo0 n x => sliC se id ver sz lo0 n x lo hi mx h
  | _ => .bad
def DenO (E : Env) (w : World) : Option SV → Option Value → Prop
  | some a, some b => Den E w a b
  | none, none => True
  | _, _ => False
theorem run_cut {P : Program} {w : World} {t e : TypeId} (hd : P.underlying t = some (.slice e)) {sz : Nat} (hS : (sizeOf e).run P w = .ok sz w) (a : Option Addr) (n cap : Nat) {vlo vhi vmx : Option Value} {l u : Int}
    (h1 : (vlo = none ∧ l = 0) ∨ ∃ k, vlo = some (.int k l)) (h2 : (vhi = none ∧ u = n) ∨ ∃ k, vhi = some (.int k u)) (x : Bool) (h3 : (vmx = none ∧ x = false) ∨ ∃ k m, vmx = some (.int k m) ∧ m = u ∧ x = true ∧ vhi ≠ none)
    (p1 : 0 ≤ l) (p2 : l ≤ u) (p3 : u ≤ (cap : Int)) :
    (Instr.sliceAt t (.slice a n cap) vlo vhi vmx >>= fun v => pure (Next.value v)).run P w = .ok (.value (.slice (if (if x then u.toNat else cap) = l.toNat then a else a.map (·.add (l.toNat * sz))) (u.toNat - l.toNat) ((if x then u.toNat else cap) - l.toNat))) w := by
  have q1 : 0 ≤ u := by omega
  have q3 : u ≤ max u 0 := by omega
  have q4 : l ≤ max u 0 := by omega
  rcases h3 with ⟨rfl, rfl⟩ | ⟨k3, m, rfl, rfl, rfl, h4⟩
  · rcases h1 with ⟨rfl, rfl⟩ | ⟨k1, rfl⟩ <;> rcases h2 with ⟨rfl, rfl⟩ | ⟨k2, rfl⟩ <;>
      (simp [Instr.sliceAt, Instr.slice, run_underlying hd, Instr.sliceBounds, Instr.sliceBound, asIntOf, p1, q1, p2, p3, q3, q4, hS]; try (intros; omega))
  · rcases h2 with ⟨rfl, _⟩ | ⟨k2, rfl⟩
    · exact absurd rfl h4
    · rcases h1 with ⟨rfl, rfl⟩ | ⟨k1, rfl⟩ <;>
        (simp [Instr.sliceAt, Instr.slice, run_underlying hd, Instr.sliceBounds, Instr.sliceBound, asIntOf, p1, q1, p2, p3, q3, q4, hS]; try (intros; omega))
theorem intO_den {E : Env} {w : World} {d l : Int} {o : Option SV} {v : Option Value} (h : DenO E w o v) (hl : intO d o = some l) : (v = none ∧ l = d) ∨ ∃ k, v = some (.int k l) := by
  unfold intO at hl
  split at hl
  · cases hl
    cases v with
    | none => exact .inl ⟨rfl, rfl⟩
    | some _ => exact h.elim
  · cases hl
    cases v with
    | none => exact h.elim
    | some b => simp only [DenO] at h; cases h; exact .inr ⟨_, rfl⟩
  · cases hl
theorem cutR_ok {P : Program} {E : Env} {h : HS} {w : World} (hr : RelH E h w) {t e : TypeId} (hd : P.underlying t = some (.slice e)) {id ver sz lo n : Nat} {p : Prop} (hS : p → (sizeOf e).run P w = .ok sz w) {v : Value} {lo' hi mx : Option SV} {vlo vhi vmx : Option Value}
    (hlo : DenO E w lo' vlo) (hhi : DenO E w hi vhi) (hmx : DenO E w mx vmx) (hmh : vmx ≠ none → vhi ≠ none)
    (hv : p → ∃ a a' N cap c, id < E.nv ∧ E.val id ver = some (a, N, cap) ∧ N ≤ cap ∧ lo + n ≤ N ∧ v = .slice a' n (c - lo) ∧ lo + n ≤ c ∧ c ≤ cap ∧ (vmx = none → c = cap) ∧ (∀ A, a = some A → ∃ b o, A = ⟨b, o, none⟩) ∧ (c ≠ lo → a' = a.map (·.add (lo * sz))) ∧ (lo = 0 → a' = a) ∧ ∀ A, a' = some A → ∃ b o, A = ⟨b, o, none⟩) :
    ResOk P E h w ((Instr.sliceAt t v vlo vhi vmx >>= fun v => pure (Next.value v)).run P w) (cutR p id ver sz lo n h (intO 0 lo') (intO (n : Int) hi) mx) := by
  unfold cutR
  split
  · rename_i l u hl hu
    split
    · rename_i q x hq
      rintro ⟨hp, hq', p1, p2, p3⟩
      obtain ⟨a, a', N, cap, c, c1, c2, c3, c4, rfl, c5, c6, c7, c8, c9, c10, c11⟩ := hv hp
      have h1 := intO_den hlo hl
      have h2 := intO_den hhi hu
      have h3 : (vmx = none ∧ x = false) ∨ ∃ k m, vmx = some (.int k m) ∧ m = u ∧ x = true ∧ vhi ≠ none := by
        unfold maxO at hq
        split at hq
        · cases hq
          cases vmx with
          | none => exact .inl ⟨rfl, rfl⟩
          | some _ => exact hmx.elim
        · cases hq
          cases vmx with
          | none => exact hmx.elim
          | some b => simp only [DenO] at hmx; cases hmx; exact .inr ⟨_, _, rfl, hq', rfl, hmh (by simp)⟩
        · cases hq
      have hcx : x = false → c = cap := fun hx => c7 (by
        rcases h3 with ⟨h, _⟩ | ⟨_, _, _, _, h, _⟩
        · exact h
        · rw [hx] at h; cases h)
      have hrun := run_cut (P := P) (w := w) hd (hS hp) a' n (c - lo) h1 h2 x h3 p1 p2 (by omega)
      refine ⟨_, w, E, hrun, ?_, hr, Ext.refl E w⟩
      have e2 : (if x then u.toNat else c - lo) - l.toNat = (if x then lo + l.toNat + (u.toNat - l.toNat) else cap) - (lo + l.toNat) := by
        cases x with
        | true => simp <;> omega
        | false => have := hcx rfl; simp <;> omega
      rw [e2]
      have h8' : ∀ A, (if (if x then u.toNat else c - lo) = l.toNat then a' else a'.map (·.add (l.toNat * sz))) = some A → ∃ b o, A = ⟨b, o, none⟩ := fun A hA => by
        by_cases hq : (if x then u.toNat else c - lo) = l.toNat
        · rw [if_pos hq] at hA; exact c11 A hA
        · rw [if_neg hq] at hA
          cases a' with
          | none => cases hA
          | some B =>
            obtain ⟨b, o, rfl⟩ := c11 B rfl
            simp only [Option.map_some, Addr.add_lit, Option.some.injEq] at hA
            exact ⟨_, _, hA.symm⟩
      refine .vcut c1 c2 (by omega) c3 (fun hne => ?_) (fun h0 => ?_) c8 h8'
      · have hx1 : ¬ ((if x = true then u.toNat else c - lo) = l.toNat) := by
          cases x with
          | true => simp at hne ⊢; omega
          | false => have := hcx rfl; simp at hne ⊢; omega
        have hcl : c ≠ lo := by
          cases x with
          | true => simp at hne; omega
          | false => have := hcx rfl; simp at hne; omega
        rw [if_neg hx1, c9 hcl]
        cases a with
        | none => rfl
        | some A =>
          obtain ⟨b, o, rfl⟩ := c8 A rfl
          simp [Addr.add_lit, Nat.add_mul, Nat.add_assoc]
      · have hl0 : lo = 0 := by omega
        have hl1 : l.toNat = 0 := by omega
        have hm : a.map (fun x => x.add (0 * sz)) = a := by
          cases a with
          | none => rfl
          | some A =>
            obtain ⟨b, o, rfl⟩ := c8 A rfl
            simp [Addr.add_lit]
        rw [hl1, c10 hl0, hm]
        exact ite_self _
    · trivial
  · trivial
theorem rSliceV_ok {P : Program} {E : Env} {h : HS} {w : World} (hr : RelH E h w) {t e : TypeId} {te : TI} (hd : P.underlying t = some (.slice e)) (hE : TIOk P e te) {x : SV} {v : Value} (hx : Den E w x v) {lo hi mx : Option SV} {vlo vhi vmx : Option Value}
    (hlo : DenO E w lo vlo) (hhi : DenO E w hi vhi) (hmx : DenO E w mx vmx) (hmh : vmx ≠ none → vhi ≠ none) :
    ResOk P E h w ((Instr.sliceAt t v vlo vhi vmx >>= fun v => pure (Next.value v)).run P w) (rSliceV te.size x lo hi mx h) := by
  obtain ⟨i0, z0, hi0, hs0, _⟩ := hE.info
  have hS : (sizeOf e).run P w = .ok te.size w := by simp [sizeOf, typeInfo, hi0, hs0]
  unfold rSliceV
  split
  · rename_i id ver
    unfold sliV
    split
    · rename_i ver' ty sz n f hv
      obtain ⟨hz', ⟨a0, cap0, k1, k2⟩, k3⟩ := hr.vec _ _ _ _ _ _ hv
      have hb : n ≤ cap0 ∧ ∀ A, a0 = some A → ∃ b o, A = ⟨b, o, none⟩ := by
        rcases k2 with ⟨hA, rfl, rfl⟩ | ⟨g1, o, cur, rfl, h2, _⟩
        · exact ⟨Nat.le_refl _, hA⟩
        · exact ⟨h2, fun A h => by cases h; exact ⟨_, _, rfl⟩⟩
      refine cutR_ok hr hd (fun hp => by rw [← hp.2]; exact hS) hlo hhi hmx hmh (fun ⟨h1, h2⟩ => ?_)
      subst h1
      cases hx
      rename_i a n' cap hid hval
      have hval' := hval
      rw [k1] at hval
      simp only [Option.some.injEq, Prod.mk.injEq] at hval
      obtain ⟨rfl, rfl, rfl⟩ := hval
      refine ⟨a0, a0, n, cap0, cap0, hid, hval', hb.1, by omega, by simp, by omega, Nat.le_refl _, fun _ => rfl, hb.2, fun _ => ?_, fun _ => rfl, hb.2⟩
      cases a0 with
      | none => rfl
      | some A => obtain ⟨b, o, rfl⟩ := hb.2 A rfl; simp [Addr.add_lit]
    · trivial
  · rename_i id ver sz lo0 n x1
    have main : (x1 = false ∨ vmx ≠ none) → ResOk P E h w ((Instr.sliceAt t v vlo vhi vmx >>= fun v => pure (Next.value v)).run P w) (cutR (te.size = sz) id ver sz lo0 n h (intO 0 lo) (intO (n : Int) hi) mx) := fun hxm => by
      obtain ⟨a, a', N, cap, rfl, hid, hval, hn, hc, ha, h0, hA, hB⟩ := hx.vcut_inv
      refine cutR_ok hr hd (fun hp => by rw [← hp]; exact hS) hlo hhi hmx hmh (fun h1 => ?_)
      subst h1
      refine ⟨a, a', N, cap, if x1 then lo0 + n else cap, hid, hval, hc, hn, rfl, by cases x1 <;> simp <;> omega, by cases x1 <;> simp <;> omega, fun hm => ?_, hA, ha, h0, hB⟩
      rcases hxm with h | h
      · rw [h]; rfl
      · exact absurd hm h
    unfold sliC
    split
    · trivial
    · rename_i hne
      refine main ?_
      cases x1 with
      | false => exact .inl rfl
      | true =>
        right
        intro h
        cases mx with
        | none => exact hne rfl rfl
        | some m => rw [h] at hmx; exact hmx.elim
  · trivial
end Go.Eng
end

/- Own slices that are made whole, and cleared. -/
section
namespace Go.Eng
open Go.RowKit
set_option linter.unusedVariables false

theorem setV_same : ∀ {l : List Vc} {n : Nat} {a b c d e}, getV l n = .live a b c d e → setV l n (.live a b c d e) = l
  | [], _, _, _, _, _, _, h => by simp [getV] at h
  | x :: l, 0, _, _, _, _, _, h => by simp only [getV] at h; subst h; rfl
  | x :: l, n + 1, _, _, _, _, _, h => by simp only [getV] at h; simp only [setV, setV_same (l := l) (n := n) h]

/-- Elements lo, lo + 1, .. are zero now. -/
def clrF (f : Nat → Nat → SV) (lo n : Nat) (z : List SV) : Nat → Nat → SV := fun i j => if lo ≤ i ∧ i < lo + n then nth z j else f i j
def clrV (te : TI) (id ver sz lo n : Nat) (h : HS) : Vc → Res
  | .live ver' ty sz' N f => .val (ver = ver' ∧ sz = sz' ∧ te.size = sz) (.tup []) { h with vecs := setV h.vecs id (.live ver' ty sz' N (clrF f lo n (zcs te.zero))) }
  | .dead => .bad
def clrW (te : TI) (id ver : Nat) (h : HS) : Vc → Res
  | .live ver' ty sz N f => .val (ver = ver' ∧ te.size = sz) (.tup []) { h with vecs := setV h.vecs id (.live ver' ty sz N (clrF f 0 N (zcs te.zero))) }
  | .dead => .bad
def rClear (te : TI) (x : SV) (h : HS) : Res :=
  match x with
  | .vec id ver => clrW te id ver h (getV h.vecs id)
  | .vcut id ver sz lo n _ => clrV te id ver sz lo n h (getV h.vecs id)
  | _ => .bad
theorem zeroCells_get (z : Array Value) (hz : 0 < z.size) (n k : Nat) (hk : k < n * z.size) : (Builtin.zeroCells z n)[k]? = z[k % z.size]? := by
  have hm := Nat.mod_lt k hz
  simp [Builtin.zeroCells, hk, Array.getElem?_eq_getElem hm, getElem!_pos z (k % z.size) hm]
theorem clr_core {P : Program} {E : Env} {h : HS} {w : World} (hr : RelH E h w) {e : TypeId} {te : TI} (hE : TIOk P e te) {id ver : Nat} {ty : TypeId} {N : Nat} {f : Nat → Nat → SV} (hv : getV h.vecs id = .live ver ty te.size N f) {a : Option Addr} {cap : Nat}
    (hval : E.val id ver = some (a, N, cap)) {lo n : Nat} (hn : lo + n ≤ N) (h0 : 0 < n) {z : Value} {i : TypeInfo} (hi : P.info? e = some i) (hz : i.zero = some z) :
    ∃ g o w', a = some ⟨g, o, none⟩ ∧ (storeCells ⟨g, o + lo * te.size, none⟩ (Builtin.zeroCells z.cells n).toList).run P w = .ok () w' ∧ RelH E { h with vecs := setV h.vecs id (.live ver ty te.size N (clrF f lo n (zcs te.zero))) } w' ∧ Ext E w E w' := by
  obtain ⟨i', z', hi', hsz, hby, hz', hzs, hzl, hzc⟩ := hE.info
  rw [hi] at hi'
  cases hi'
  rw [hz] at hz'
  cases hz'
  obtain ⟨hs0, ⟨a2, cap2, k1, k2⟩, k3⟩ := hr.vec _ _ _ _ _ _ hv
  have hval' := hval
  rw [k1] at hval
  simp only [Option.some.injEq, Prod.mk.injEq, true_and] at hval
  obtain ⟨rfl, rfl⟩ := hval
  rcases k2 with ⟨_, h1, _⟩ | ⟨g, o, cur, rfl, h2, h3, h4, h5, h6, h7, h8⟩
  · omega
  obtain ⟨zl, zd⟩ := zcs_ok (E := E) (w := w) te.zero z.cells.toList (by simp [hzs, hzl]) (fun k u hu => (hzc k u (by simpa using hu)).2)
  have hzlen : (Builtin.zeroCells z.cells n).toList.length = n * te.size := by simp [Builtin.zeroCells, hzs]
  have hle : o + N * te.size ≤ cur.size := Nat.le_trans (Nat.add_le_add_left (Nat.mul_le_mul_right _ h2) _) h5
  have hln : (lo + n) * te.size ≤ N * te.size := Nat.mul_le_mul_right _ hn
  rw [Nat.add_mul] at hln
  have hzg : ∀ k, k < n * te.size → (Builtin.zeroCells z.cells n).toList[k]? = z.cells[k % te.size]? := fun k hk => by
    have := zeroCells_get z.cells (by omega) n k (by rw [hzs]; exact hk)
    rw [hzs] at this
    simpa using this
  have h1c : ∀ v ∈ (Builtin.zeroCells z.cells n).toList, v.oneCell' = true := fun v hv => by
    obtain ⟨k, hk⟩ := List.getElem?_of_mem hv
    have hkl : k < n * te.size := by rw [← hzlen]; exact (List.getElem?_eq_some_iff.1 hk).1
    rw [hzg k hkl] at hk
    exact (hzc _ _ hk).1
  have hst := run_storeCells_at P g (o + lo * te.size) ty (Builtin.zeroCells z.cells n).toList 0 cur w h4 (by rw [hzlen]; omega) h1c
  simp only [Nat.add_zero] at hst
  have hget : ∀ k, (cur.toList.take (o + lo * te.size) ++ (Builtin.zeroCells z.cells n).toList ++ cur.toList.drop (o + lo * te.size + (Builtin.zeroCells z.cells n).toList.length)).toArray[k]? =
      if o + lo * te.size ≤ k ∧ k < o + lo * te.size + n * te.size then z.cells[(k - (o + lo * te.size)) % te.size]? else cur[k]? := fun k => by
    simp only [List.getElem?_toArray]
    by_cases c1 : k < o + lo * te.size
    · rw [List.append_assoc, List.getElem?_append_left (by simp; omega), List.getElem?_take, if_pos c1, if_neg (by omega)]; simp
    · by_cases c2 : k < o + lo * te.size + n * te.size
      · rw [List.append_assoc, List.getElem?_append_right (by simp; omega), List.getElem?_append_left (by rw [hzlen]; simp only [List.length_take, Array.length_toList]; omega), if_pos (by omega)]
        simp only [List.length_take, Array.length_toList]
        rw [Nat.min_eq_left (by omega), hzg _ (by omega)]
      · rw [List.getElem?_append_right (by simp only [List.length_append, hzlen]; simp; omega), if_neg (by omega), List.getElem?_drop]
        simp only [List.length_append, List.length_take, hzlen, Array.length_toList]
        rw [Nat.min_eq_left (by omega)]
        have : o + lo * te.size + n * te.size + (k - (o + lo * te.size + n * te.size)) = k := by omega
        rw [this]; simp
  obtain ⟨r1, r2⟩ := hr.vwrite hv hval' h4 h6 (cur.toList.take (o + lo * te.size) ++ (Builtin.zeroCells z.cells n).toList ++ cur.toList.drop (o + lo * te.size + (Builtin.zeroCells z.cells n).toList.length)).toArray (clrF f lo n (zcs te.zero)) (by simp only [List.size_toArray, List.length_append, List.length_take, List.length_drop, hzlen, Array.length_toList]; omega)
    (fun k u hk hu => by
      rw [hget] at hu
      split at hu
      · exact (hzc _ _ hu).1
      · exact h7 k u hk hu)
    (fun i' j u hi' hj hu => by
      rw [hget] at hu
      simp only [clrF]
      have m1 : ∀ a b : Nat, a < b → a * te.size + te.size ≤ b * te.size := fun a b hab => by
        have := Nat.mul_le_mul_right te.size (Nat.succ_le_of_lt hab)
        rwa [Nat.succ_mul] at this
      by_cases c : lo ≤ i' ∧ i' < lo + n
      · have q1 := Nat.mul_le_mul_right te.size c.1
        have q2 := m1 _ _ c.2
        rw [Nat.add_mul] at q2
        rw [if_pos c]
        rw [if_pos (by omega)] at hu
        have e : (o + (i' * te.size + j) - (o + lo * te.size)) % te.size = j := by
          have : o + (i' * te.size + j) - (o + lo * te.size) = j + te.size * (i' - lo) := by
            rw [Nat.mul_comm te.size, Nat.sub_mul]; omega
          rw [this, Nat.add_mul_mod_self_left, Nat.mod_eq_of_lt hj]
        rw [e] at hu
        rw [nth_eq]
        have hjl : j < (zcs te.zero).length := by rw [zl]; simp; omega
        have := zd j (zcs te.zero)[j] u (List.getElem?_eq_getElem hjl) (by simpa using hu)
        simpa [List.getD, List.getElem?_eq_getElem hjl] using this
      · rw [if_neg c]
        rw [if_neg ?_] at hu
        · exact h8 i' j u hi' hj hu
        · rintro ⟨c1, c2⟩
          apply c
          constructor
          · rcases Nat.lt_or_ge i' lo with hh | hh
            · have := m1 _ _ hh; omega
            · exact hh
          · rcases Nat.lt_or_ge i' (lo + n) with hh | hh
            · exact hh
            · have := Nat.mul_le_mul_right te.size hh
              rw [Nat.add_mul] at this
              omega)
  exact ⟨g, o, _, rfl, hst, r1, r2⟩
theorem clrF_0 (f : Nat → Nat → SV) (lo : Nat) (z : List SV) : clrF f lo 0 z = f := by
  funext i j
  simp only [clrF]
  rw [if_neg (by omega)]
theorem rClear_ok {P : Program} {E : Env} {h : HS} {w : World} (hr : RelH E h w) {t e : TypeId} {te : TI} (ht : P.underlying t = some (.slice e)) (hE : TIOk P e te) (tr : TypeId) {x : SV} {v : Value} (hx : Den E w x v) :
    ResOk P E h w ((Builtin.clear_ #[t] tr #[v] >>= fun v => pure (Next.value v)).run P w) (rClear te x h) := by
  obtain ⟨i, z, hi, hsz, hby, hz, hzs, hzl, hzc⟩ := hE.info
  have dtup : ∀ {E : Env} {w : World}, Den E w (.tup []) (.tuple #[]) := .tup #[] rfl (fun i x u hx => by simp at hx)
  unfold rClear
  split
  · rename_i id ver
    unfold clrW
    split
    · rename_i ver' ty sz N f hv
      rintro ⟨rfl, rfl⟩
      obtain ⟨hz', ⟨a0, cap0, k1, k2⟩, k3⟩ := hr.vec _ _ _ _ _ _ hv
      cases hx
      rename_i a n' cap hid hval
      have hval' := hval
      rw [k1] at hval
      simp only [Option.some.injEq, Prod.mk.injEq] at hval
      obtain ⟨rfl, rfl, rfl⟩ := hval
      rcases Nat.eq_zero_or_pos N with h0 | h0
      · subst h0
        refine ⟨_, w, E, ?_, dtup, by rw [clrF_0, setV_same hv]; exact hr, Ext.refl E w⟩
        cases a0 <;> simp [Builtin.clear_, run_underlying ht]
      · obtain ⟨g, o, w', rfl, q1, q2, q3⟩ := clr_core hr hE hv hval' (lo := 0) (n := N) (by omega) h0 hi hz
        refine ⟨_, w', E, ?_, dtup, q2, q3⟩
        have hN : N ≠ 0 := by omega
        simp only [Nat.zero_mul, Nat.add_zero] at q1
        simp [Builtin.clear_, run_underlying ht, hN, zeroValue, typeInfo, hi, hz, q1]
    · trivial
  · rename_i id ver sz lo n x1
    unfold clrV
    split
    · rename_i ver' ty sz' N f hv
      rintro ⟨rfl, rfl, rfl⟩
      obtain ⟨hz', ⟨a0, cap0, k1, k2⟩, k3⟩ := hr.vec _ _ _ _ _ _ hv
      obtain ⟨a, a1, n', cap, rfl, hid, hval, hn, hc, ha, h00, hA, hB⟩ := hx.vcut_inv
      have hval' := hval
      rw [k1] at hval
      simp only [Option.some.injEq, Prod.mk.injEq] at hval
      obtain ⟨rfl, rfl, rfl⟩ := hval
      rcases Nat.eq_zero_or_pos n with h0 | h0
      · subst h0
        refine ⟨_, w, E, ?_, dtup, by rw [clrF_0, setV_same hv]; exact hr, Ext.refl E w⟩
        cases a1 <;> simp [Builtin.clear_, run_underlying ht]
      · obtain ⟨g, o, w', rfl, q1, q2, q3⟩ := clr_core hr hE hv hval' hn h0 hi hz
        refine ⟨_, w', E, ?_, dtup, q2, q3⟩
        have hN : n ≠ 0 := by omega
        have ha' := ha (by cases x1 <;> simp <;> omega)
        simp only [Option.map_some, Addr.add_lit] at ha'
        subst ha'
        simp [Builtin.clear_, run_underlying ht, hN, zeroValue, typeInfo, hi, hz, q1]
    · trivial
  · trivial

/-- A slice that is made with n zero elements. -/
def rMake (e : TypeId) (te : TI) (l c : SV) (h : HS) : Res :=
  match l, c with
  | .int _ l, .int _ c => .val (l = c ∧ 0 < te.size ∧ 0 ≤ l ∧ (te.bytes : Int) * l ≤ 281474976710656 ∧ l ≤ 9223372036854775807) (.vec (lenV h.vecs) 0) { h with vecs := snocV h.vecs (.live 0 e te.size l.toNat (fun _ j => nth (zcs te.zero) j)) }
  | _, _ => .bad
theorem rMake_ok {P : Program} {E : Env} {h : HS} {w : World} (hr : RelH E h w) {t e : TypeId} {te : TI} (ht : P.underlying t = some (.slice e)) (hE : TIOk P e te) {l c : SV} {vl vc : Value} (hl : Den E w l vl) (hc : Den E w c vc) :
    ResOk P E h w ((Instr.makeSlice t vl vc >>= fun v => pure (Next.value v)).run P w) (rMake e te l c h) := by
  obtain ⟨i, z, hi, hsz, hby, hz, hzs, hzl, hzc⟩ := hE.info
  unfold rMake
  split
  · rename_i k1 l k2 c
    rintro ⟨rfl, hs0, p1, p2, p3⟩
    cases hl
    cases hc
    have hrun := run_make (P := P) w t e i z ht hi hz k1 k2 l l p1 (Int.le_refl _) (by rw [hby]; exact p2) p3
    obtain ⟨zl, zd⟩ := zcs_ok (E := E) (w := w) te.zero z.cells.toList (by simp [hzs, hzl]) (fun k u hu => (hzc k u (by simpa using hu)).2)
    have hold : ∀ b, b < w.heap.size → (w.alloc (.cells (madeCells z.cells (l.toNat * i.size)) e)).heap[b]? = w.heap[b]? := fun b hb => Below.heap_alloc w _ b hb
    have hx : Ext E w E (w.alloc (.cells (madeCells z.cells (l.toNat * i.size)) e)) := ext_of_grow hr.own rfl rfl rfl (by simp) hold
    have hzg : ∀ k, k < l.toNat * te.size → (madeCells z.cells (l.toNat * i.size))[k]? = z.cells[k % te.size]? := fun k hk => by
      have hm := Nat.mod_lt k (show 0 < z.cells.size by omega)
      rw [hzs] at hm
      have hm' : k % te.size < z.cells.size := by omega
      simp [madeCells, hsz, hk, hzs, Array.getElem?_eq_getElem hm', getElem!_pos z.cells (k % te.size) hm']
    obtain ⟨r1, r2⟩ := hr.adopt hx hold (g := w.heap.size) (n := l.toNat) (cap := l.toNat) (ty := e) (sz := te.size) hs0 (f := fun _ j => nth (zcs te.zero) j) (cur := madeCells z.cells (l.toNat * i.size)) (Nat.le_refl _) (by simp) (Nat.le_refl _) (by simp only [maxLen]; omega)
      (heap_alloc_new w _) (by rw [size_madeCells, hsz]; exact Nat.le_refl _)
      (fun k u hk hu => by rw [hzg k hk] at hu; exact (hzc _ _ hu).1)
      (fun a j u ha hj hu => by
        have := idx_lt ha hj
        rw [hzg _ this] at hu
        rw [Nat.add_comm, Nat.add_mul_mod_self_right, Nat.mod_eq_of_lt hj] at hu
        rw [nth_eq]
        obtain ⟨zl', zd'⟩ := zcs_ok (E := E.adopt w.heap.size l.toNat l.toNat) (w := w.alloc (.cells (madeCells z.cells (l.toNat * i.size)) e)) te.zero z.cells.toList (by simp [hzs, hzl]) (fun k u hu => (hzc k u (by simpa using hu)).2)
        have hjl : j < (zcs te.zero).length := by rw [zl]; simp; omega
        have := zd' j (zcs te.zero)[j] u (List.getElem?_eq_getElem hjl) (by simpa using hu)
        simpa [List.getD, List.getElem?_eq_getElem hjl] using this)
    refine ⟨.slice (some ⟨w.heap.size, 0, none⟩) l.toNat l.toNat, _, _, by simp [hrun], .vec (a := some ⟨w.heap.size, 0, none⟩) (n := l.toNat) (cap := l.toNat) ?_ ?_, r1, r2⟩
    · simp only [Env.adopt, hr.nv]; omega
    · simp [Env.adopt, hr.nv]
  · trivial
end Go.Eng
end

/- A part of an array, and copying. -/
section
namespace Go.Eng
open Go.RowKit
set_option linter.unusedVariables false

/-- The first elements of an own array, as a slice. -/
def rSlA (n : Nat) (te : TI) (x : SV) (lo hi mx : Option SV) (h : HS) : Res :=
  match x, lo, mx with
  | .ptr nm off, none, none => match intO (n : Int) hi with
    | some u => .val (te.size = 1 ∧ 0 ≤ u ∧ u ≤ (n : Int)) (.bsl nm off u.toNat) h
    | none => .bad
  | _, _, _ => .bad
theorem rSlA_ok {P : Program} {E : Env} {h : HS} {w : World} (hr : RelH E h w) {t e : TypeId} {n : Nat} {te : TI} (hd : P.underlying t = some (.array n e)) (hE : TIOk P e te) {x : SV} {v : Value} (hx : Den E w x v) {lo hi mx : Option SV} {vlo vhi vmx : Option Value}
    (hlo : DenO E w lo vlo) (hhi : DenO E w hi vhi) (hmx : DenO E w mx vmx) :
    ResOk P E h w ((Instr.sliceAt t v vlo vhi vmx >>= fun v => pure (Next.value v)).run P w) (rSlA n te x lo hi mx h) := by
  obtain ⟨i0, z0, hi0, hs0, _⟩ := hE.info
  have hS : (sizeOf e).run P w = .ok te.size w := by simp [sizeOf, typeInfo, hi0, hs0]
  unfold rSlA
  split
  · rename_i nm off
    split
    · rename_i u hu
      rintro ⟨h1, h2, h3⟩
      have e1 : vlo = none := by cases vlo with | none => rfl | some _ => exact hlo.elim
      have e2 : vmx = none := by cases vmx with | none => rfl | some _ => exact hmx.elim
      subst e1 e2
      have h4 := intO_den hhi hu
      cases hx
      rename_i hnm
      have hA : ((⟨E.rho nm, off, none⟩ : Addr).add (0 * te.size)) = ⟨E.rho nm, off, none⟩ := by rw [Addr.add_lit]; simp
      refine ⟨.slice (some ⟨E.rho nm, off, none⟩) u.toNat n, w, E, ?_, .bsl hnm (by omega), hr, Ext.refl E w⟩
      rcases h4 with ⟨rfl, rfl⟩ | ⟨k, rfl⟩
      · simp [Instr.sliceAt, Instr.sureAddr, run_underlying hd, Instr.sliceBounds, hS, Addr.add_lit]
      · simp [Instr.sliceAt, Instr.sureAddr, run_underlying hd, Instr.sliceBounds, Instr.sliceBound, asIntOf, h2, h3, hS, Addr.add_lit]
    · trivial
  · trivial

/-- The first k elements of g, over cells from off on. -/
def cpB (g : Nat → Nat → SV) (off : Nat) : Nat → List SV → List SV
  | 0, cells => cells
  | k + 1, cells => upd (cpB g off k cells) (off + k) (g k 0)
def cpF (f g : Nat → Nat → SV) (k : Nat) : Nat → Nat → SV := fun i j => if i < k then g i j else f i j
def cpyB (nm off n : Nat) (h : HS) (b : Blk) (s : Option (Prop × Nat × Nat × (Nat → Nat → SV))) : Res :=
  match b, s with
  | .live ty cells, some (p, m, sz, g) => .val (p ∧ sz = 1 ∧ off + min m n ≤ lenS cells) (.int .i64 ((min m n : Nat) : Int)) { h with blks := setB h.blks nm (.live ty (cpB g off (min m n) cells)) }
  | _, _ => .bad
def cpyV (te : TI) (id ver : Nat) (h : HS) (v : Vc) (s : Option (Prop × Nat × Nat × (Nat → Nat → SV))) : Res :=
  match v, s with
  | .live ver' ty sz' n f, some (p, m, sz, g) => .val (p ∧ ver = ver' ∧ sz = sz' ∧ te.size = sz') (.int .i64 ((min m n : Nat) : Int)) { h with vecs := setV h.vecs id (.live ver' ty sz' n (cpF f g (min m n))) }
  | _, _ => .bad
def rCopy (te : TI) (d s : SV) (h : HS) : Res :=
  match d with
  | .bsl nm off n => if te.size = 1 then cpyB nm off n h (getB h.blks nm) (srcOf h s) else .bad
  | .vec id ver => cpyV te id ver h (getV h.vecs id) (srcOf h s)
  | _ => .bad

theorem cpB_get (g : Nat → Nat → SV) (off : Nat) (cells : List SV) : ∀ (k i : Nat), (cpB g off k cells)[i]? = if off ≤ i ∧ i < off + k ∧ i < cells.length then some (g (i - off) 0) else cells[i]?
  | 0, i => by rw [if_neg (by omega)]; rfl
  | k + 1, i => by
    have hl : ∀ k, (cpB g off k cells).length = cells.length := fun k => by
      induction k with
      | zero => rfl
      | succ k ih => simp [cpB, upd_eq, ih]
    simp only [cpB, upd_eq, List.getElem?_set, hl, cpB_get g off cells k i]
    by_cases h1 : off + k = i
    · subst h1
      simp only [if_true]
      by_cases h2 : off + k < cells.length
      · rw [if_pos h2, if_pos ⟨by omega, by omega, h2⟩]; congr 2; omega
      · rw [if_neg h2, if_neg (by omega)]
        exact (List.getElem?_eq_none (by omega)).symm
    · rw [if_neg h1]
      by_cases h2 : off ≤ i ∧ i < off + k ∧ i < cells.length
      · rw [if_pos h2, if_pos (by omega)]
      · rw [if_neg h2, if_neg (by omega)]
theorem cpB_len (g : Nat → Nat → SV) (off : Nat) (cells : List SV) : ∀ k, (cpB g off k cells).length = cells.length
  | 0 => rfl
  | k + 1 => by simp [cpB, upd_eq, cpB_len g off cells k]

/-- The first k elements of a source. -/
theorem src_first {P : Program} {E : Env} {w : World} {vs : Value} {m sz : Nat} {G : Nat → Nat → SV} (hsz : 0 < sz) (hs : (∃ A c, vs = .slice (some A) m c ∧ SrcAt E w A m sz G) ∨ (m = 0 ∧ ∃ a' c, vs = .slice a' 0 c)) (k : Nat) (hk : k ≤ m) :
    (Builtin.lenOf vs).run P w = .ok m w ∧ ∃ cs : List Value, cs.length = k * sz ∧ (Builtin.firstCells sz k vs).run P w = .ok cs.toArray w ∧ (∀ u ∈ cs, u.oneCell' = true) ∧ ∀ i j u, i < k → j < sz → cs[i * sz + j]? = some u → Den E w (G i j) u := by
  rcases hs with ⟨A, c, rfl, news, hl, hnews, hone, hden⟩ | ⟨rfl, a', c, rfl⟩
  · refine ⟨by simp [Builtin.lenOf], news.take (k * sz), ?_, ?_, ?_, ?_⟩
    · rw [List.length_take, hl]
      exact Nat.min_eq_left (Nat.mul_le_mul_right _ hk)
    · have h := run_loadCells_list (P := P) w A (news.take (k * sz)) (fun j v hj => by
        rw [List.getElem?_take] at hj
        split at hj
        · exact hnews j v hj
        · cases hj)
      rw [List.length_take, hl, Nat.min_eq_left (Nat.mul_le_mul_right _ hk)] at h
      simpa [Builtin.firstCells] using h
    · intro u hu
      exact hone u (List.mem_of_mem_take hu)
    · intro i j u hi hj hu
      rw [List.getElem?_take, if_pos (idx_lt hi hj)] at hu
      exact hden i j u (by omega) hj hu
  · obtain rfl : k = 0 := by omega
    refine ⟨by simp [Builtin.lenOf], [], by simp, ?_, by simp, fun i j u hi => absurd hi (by omega)⟩
    cases a' <;> simp [Builtin.firstCells, loadCells, loadCellsFrom]

theorem seg_get (cur : List Value) (o : Nat) (cs : List Value) (h : o + cs.length ≤ cur.length) (k : Nat) :
    (cur.take o ++ cs ++ cur.drop (o + cs.length))[k]? = if o ≤ k ∧ k < o + cs.length then cs[k - o]? else cur[k]? := by
  by_cases h1 : k < o
  · rw [List.append_assoc, List.getElem?_append_left (by simp; omega), List.getElem?_take, if_pos h1, if_neg (by omega)]
  · by_cases h2 : k < o + cs.length
    · rw [List.append_assoc, List.getElem?_append_right (by simp; omega), List.getElem?_append_left (by simp; omega), if_pos (by omega)]
      simp only [List.length_take]
      rw [Nat.min_eq_left (by omega)]
    · rw [List.getElem?_append_right (by simp; omega), if_neg (by omega), List.getElem?_drop]
      simp only [List.length_append, List.length_take]
      rw [Nat.min_eq_left (by omega)]
      congr 1
      omega

theorem rCopy_ok {P : Program} {E : Env} {h : HS} {w : World} (hr : RelH E h w) {t t' e : TypeId} {te : TI} (ht : P.underlying t = some (.slice e)) (hE : TIOk P e te) (tr : TypeId) {d s : SV} {vd vs : Value} (hd : Den E w d vd) (hs : Den E w s vs) :
    ResOk P E h w ((Builtin.copy_ #[t, t'] tr #[vd, vs] >>= fun v => pure (Next.value v)).run P w) (rCopy te d s h) := by
  obtain ⟨i0, z0, hi0, hs0, _⟩ := hE.info
  have hS : (sizeOf e).run P w = .ok te.size w := by simp [sizeOf, typeInfo, hi0, hs0]
  unfold rCopy
  split
  · rename_i nm off n
    split
    · rename_i h1
      unfold cpyB
      split
      · rename_i ty cells p m sz G hb hsrc
        rintro ⟨hp, rfl, hfit⟩
        have hsr := srcOf_ok hr hs hsrc hp (by omega)
        obtain ⟨cs, a1, a2, a3, a4⟩ := hr.blk nm ty cells hb
        obtain ⟨l1, xs, g1, g2, g3, g4⟩ := src_first (P := P) (by omega) hsr (min m n) (Nat.min_le_left _ _)
        simp only [Nat.mul_one] at g1 g4
        rw [lenS_eq] at hfit
        cases hd
        rename_i cap hnm hcap
        have hfit' : off + 0 + xs.length ≤ cs.size := by rw [g1, a2.1]; omega
        have hst := run_storeCells_at P (E.rho nm) off ty xs 0 cs w a1 hfit' g3
        simp only [Nat.add_zero] at hst hfit'
        have hrun : (Builtin.copy_ #[t, t'] tr #[.slice (some ⟨E.rho nm, off, none⟩) n cap, vs]).run P w = .ok (.int .i64 ((min m n : Nat) : Int)) (w.setRow (E.rho nm) (cs.toList.take off ++ xs ++ cs.toList.drop (off + xs.length)).toArray) := by
          rw [h1] at hS
          simp [Builtin.copy_, run_underlying ht, l1, hS, show m.min n = min m n from rfl, g2, hst, goInt]
        have hget : ∀ k, (cs.toList.take off ++ xs ++ cs.toList.drop (off + xs.length)).toArray[k]? = if off ≤ k ∧ k < off + xs.length then xs[k - off]? else cs[k]? := fun k => by
          simpa using seg_get cs.toList off xs (by simpa using hfit') k
        have hx0 : Ext E w E (w.setRow (E.rho nm) (cs.toList.take off ++ xs ++ cs.toList.drop (off + xs.length)).toArray) := ext_setRow a4 (by intro e; cases e) _
        refine ⟨_, _, E, by simp [hrun], .int _ _, hr.write hb (cpB G off (min m n) cells) _ ⟨?_, ?_⟩ ?_, hx0⟩
        · simp only [List.size_toArray, List.length_append, List.length_take, List.length_drop, Array.length_toList, cpB_len]
          have := a2.1
          omega
        · intro i x u hx hu
          rw [cpB_get] at hx
          rw [hget] at hu
          split at hx
          · rename_i hc
            cases hx
            rw [if_pos (by omega)] at hu
            exact g4 (i - off) 0 u (by omega) (by omega) hu
          · rename_i hc
            rw [if_neg ?_] at hu
            · exact a2.2 i x u hx hu
            · intro hc2
              have := (List.getElem?_eq_some_iff.1 hx).1
              omega
        · intro k u hu
          rw [hget] at hu
          split at hu
          · exact g3 u (List.mem_of_getElem? hu)
          · exact a3 k u hu
      · trivial
    · trivial
  · rename_i id ver
    unfold cpyV
    split
    · rename_i ver' ty sz' n f p m sz G hv hsrc
      rintro ⟨hp, rfl, rfl, hte⟩
      obtain ⟨hz', ⟨a, cap, k1, k2⟩, k3⟩ := hr.vec _ _ _ _ _ _ hv
      have hsr := srcOf_ok hr hs hsrc hp hz'
      obtain ⟨l1, xs, g1, g2, g3, g4⟩ := src_first (P := P) hz' hsr (min m n) (Nat.min_le_left _ _)
      cases hd
      rename_i a' n' cap' hid hval
      have hval' := hval
      rw [k1] at hval
      simp only [Option.some.injEq, Prod.mk.injEq] at hval
      obtain ⟨rfl, rfl, rfl⟩ := hval
      rw [hte] at hS
      rcases k2 with ⟨hA0, rfl, rfl⟩ | ⟨g, o, cur, rfl, h2, h3, h4, h5, h6, h7, h8⟩
      · have hrun : (Builtin.copy_ #[t, t'] tr #[.slice a 0 0, vs]).run P w = .ok (.int .i64 ((min m 0 : Nat) : Int)) w := by
          have e0 : min m 0 = 0 := by omega
          rw [e0] at g2
          have g0 : xs = [] := List.length_eq_zero_iff.1 (by rw [g1]; simp)
          subst g0
          cases a <;> simp [Builtin.copy_, run_underlying ht, l1, hS, show m.min 0 = 0 from Nat.min_zero m, g2, goInt, storeCells]
        refine ⟨_, w, E, by simp [hrun], .int _ _, ?_, Ext.refl E w⟩
        exact hr.moved hv (Ext.refl E w) rfl rfl rfl (fun _ _ _ => rfl) (fun _ _ _ _ => ⟨rfl, rfl⟩) hr.own k1 (.inl ⟨hA0, rfl, rfl⟩) k3
      · have hle : xs.length ≤ n * sz := by rw [g1]; exact Nat.mul_le_mul_right _ (Nat.min_le_right _ _)
        have hle2 : o + n * sz ≤ cur.size := Nat.le_trans (Nat.add_le_add_left (Nat.mul_le_mul_right _ h2) _) h5
        have hst := run_storeCells_at P g o ty xs 0 cur w h4 (by omega) g3
        simp only [Nat.add_zero, Nat.zero_add] at hst
        have hrun : (Builtin.copy_ #[t, t'] tr #[.slice (some ⟨g, o, none⟩) n cap, vs]).run P w = .ok (.int .i64 ((min m n : Nat) : Int)) (w.setRow g (cur.toList.take o ++ xs ++ cur.toList.drop (o + xs.length)).toArray) := by
          simp [Builtin.copy_, run_underlying ht, l1, hS, show m.min n = min m n from rfl, g2, hst, goInt]
        have hget : ∀ k, (cur.toList.take o ++ xs ++ cur.toList.drop (o + xs.length)).toArray[k]? = if o ≤ k ∧ k < o + xs.length then xs[k - o]? else cur[k]? := fun k => by
          have := seg_get cur.toList o xs (by simp; omega) k
          simpa using this
        obtain ⟨r1, r2⟩ := hr.vwrite hv hval' h4 h6 (cur.toList.take o ++ xs ++ cur.toList.drop (o + xs.length)).toArray (cpF f G (min m n)) (by simp; omega)
          (fun k u hk hu => by
            rw [hget] at hu
            split at hu
            · exact g3 u (List.mem_of_getElem? hu)
            · exact h7 k u hk hu)
          (fun i j u hi hj hu => by
            rw [hget] at hu
            simp only [cpF]
            by_cases hc : i < min m n
            · have := idx_lt hc hj
              rw [if_pos hc]
              rw [if_pos (by omega), Nat.add_sub_cancel_left] at hu
              exact g4 i j u hc hj hu
            · rw [if_neg hc]
              rw [if_neg ?_] at hu
              · exact h8 i j u hi hj hu
              · rw [g1]
                have := Nat.mul_le_mul_right sz (Nat.le_of_not_lt hc)
                omega)
        exact ⟨_, _, E, by simp [hrun], .int _ _, r1, r2⟩
    · trivial
  · trivial
/-- An element of an array that is a value. -/
def rIdx (n : Nat) (te : TI) (x idx : SV) (h : HS) : Res :=
  match x, idx with
  | .agg l, .int _ i => if te.agg then .bad else .val (0 ≤ i ∧ i < (n : Int) ∧ i.toNat < lenS l ∧ te.size = 1) (nth l i.toNat) h
  | _, _ => .bad
theorem rIdx_ok {P : Program} {E : Env} {h : HS} {w : World} (hr : RelH E h w) {t e : TypeId} {n : Nat} {te : TI} (hd : P.underlying t = some (.array n e)) (hE : TIOk P e te) {x y : SV} {v u : Value} (hx : Den E w x v) (hy : Den E w y u) :
    ResOk P E h w ((Instr.index t v u >>= fun v => pure (Next.value v)).run P w) (rIdx n te x y h) := by
  obtain ⟨i0, z0, hi0, hs0, _⟩ := hE.info
  obtain ⟨d, hd', _, hag, _⟩ := hE.desc
  have hS : (sizeOf e).run P w = .ok te.size w := by simp [sizeOf, typeInfo, hi0, hs0]
  unfold rIdx
  split
  · rename_i l k i
    split
    · trivial
    · rename_i hb
      rintro ⟨p1, p2, p3, p4⟩
      rw [lenS_eq] at p3
      obtain ⟨vs, rfl, hs, hden⟩ := hx.agg_inv
      cases hy
      have hA : (isAgg e).run P w = .ok false w := by
        have hb' : te.agg = false := by simpa using hb
        rw [hb'] at hag
        unfold isAgg
        cases d <;> simp at hag <;> simp [run_underlying hd']
      have hlt : i.toNat < vs.size := by rw [hs]; exact p3
      refine ⟨vs[i.toNat], w, E, ?_, ?_, hr, Ext.refl E w⟩
      · simp [Instr.index, asIntOf, run_underlying hd, p1, p2, hS, p4, part, hA, hlt]
      · have := hden i.toNat l[i.toNat] vs[i.toNat] (List.getElem?_eq_getElem p3) (Array.getElem?_eq_getElem hlt)
        rw [nth_eq]
        simpa [List.getD, List.getElem?_eq_getElem p3] using this
  · trivial
end Go.Eng
end

/- Maps from numbers to numbers: made, read, written; a field of a struct's value. -/
section
namespace Go.Eng
open Go.RowKit
set_option linter.unusedVariables false

/-- The i-th number of a list. -/
def gt : List Int → Nat → Int
  | [], _ => 0
  | x :: _, 0 => x
  | _ :: l, n + 1 => gt l n
theorem gt_eq : ∀ (l : List Int) (i : Nat), gt l i = l.getD i 0
  | [], i => by simp [gt]
  | x :: l, 0 => by simp [gt]
  | x :: l, i + 1 => by simp [gt, gt_eq l i]
def svN : LK → Int → SV
  | .i, x => .int .i64 x
  | .b, x => .bool (decide (x ≠ 0))
def svsN : List LK → List Int → Nat → List SV
  | [], _, _ => []
  | k :: ks, l, i => svN k (gt l i) :: svsN ks l (i + 1)
/-- A value out of numbers. -/
def valS (agg : Bool) (ks : List LK) (l : List Int) : SV := if agg then .agg (svsN ks l 0) else nth (svsN ks l 0) 0
def b2i (b : Bool) : Int := if b then 1 else 0
/-- The numbers of a value. -/
def numK : List LK → List SV → Option (List Int)
  | [], [] => some []
  | .i :: ks, .int .i64 x :: l => match numK ks l with
    | some r => some (x :: r)
    | none => none
  | .b :: ks, .bool b :: l => match numK ks l with
    | some r => some (b2i b :: r)
    | none => none
  | _, _ => none
def numV (agg : Bool) (ks : List LK) (x : SV) : Option (List Int) :=
  match agg with
  | true => match x with
    | .agg l => numK ks l
    | _ => none
  | false => match ks with
    | [k] => numK [k] [x]
    | _ => none
def findM : List (List Int × List Int) → List Int → Option (List Int)
  | [], _ => none
  | (k', v) :: es, k => if k' = k then some v else findM es k
def hasM (es : List (List Int × List Int)) (k : List Int) : Bool := (findM es k).isSome
def lookM (es : List (List Int × List Int)) (k : List Int) : List Int := (findM es k).getD []
def putM : List (List Int × List Int) → List Int → List Int → List (List Int × List Int)
  | [], k, v => [(k, v)]
  | (k', v') :: es, k, v => if k' = k then (k, v) :: es else (k', v') :: putM es k v

theorem cellsN_len : ∀ (ks : List LK) (l : List Int), (cellsN ks l).length = ks.length
  | [], _ => rfl
  | k :: ks, [] => by simp [cellsN, cellsN_len ks []]
  | k :: ks, x :: l => by simp [cellsN, cellsN_len ks l]
theorem cellsN_get : ∀ (ks : List LK) (l : List Int) (i : Nat), (cellsN ks l)[i]? = (ks[i]?).map fun k => cellN k (l.getD i 0)
  | [], l, i => by simp [cellsN]
  | k :: ks, [], 0 => by simp [cellsN]
  | k :: ks, [], i + 1 => by simp [cellsN, cellsN_get ks [] i]
  | k :: ks, x :: l, 0 => by simp [cellsN]
  | k :: ks, x :: l, i + 1 => by simp [cellsN, cellsN_get ks l i]
theorem svsN_len : ∀ (ks : List LK) (l : List Int) (n : Nat), (svsN ks l n).length = ks.length
  | [], _, _ => rfl
  | k :: ks, l, n => by simp [svsN, svsN_len ks l (n + 1)]
theorem svsN_get : ∀ (ks : List LK) (l : List Int) (n i : Nat), (svsN ks l n)[i]? = (ks[i]?).map fun k => svN k (gt l (n + i))
  | [], _, _, i => by simp [svsN]
  | k :: ks, l, n, 0 => by simp [svsN]
  | k :: ks, l, n, i + 1 => by simp [svsN, svsN_get ks l (n + 1) i, Nat.add_comm 1 i, Nat.add_assoc]
theorem svN_den (E : Env) (w : World) (k : LK) (x : Int) : Den E w (svN k x) (cellN k x) := by
  cases k
  · exact .int _ _
  · exact .bool _
theorem svsN_den (E : Env) (w : World) (ks : List LK) (l : List Int) : DenA E w (svsN ks l 0) (cellsN ks l).toArray := by
  refine ⟨by simp [svsN_len, cellsN_len], fun i x u hx hu => ?_⟩
  rw [svsN_get] at hx
  rw [List.getElem?_toArray, cellsN_get] at hu
  cases hk : ks[i]? with
  | none => simp [hk] at hx
  | some k =>
    simp [hk] at hx hu
    subst hx hu
    rw [gt_eq]
    simpa using svN_den E w k (l.getD i 0)
theorem cellN_one (k : LK) (x : Int) : (cellN k x).oneCell' = true := by cases k <;> rfl
theorem cellsN_one {ks : List LK} {l : List Int} {i : Nat} {u : Value} (h : (cellsN ks l)[i]? = some u) : u.oneCell' = true := by
  rw [cellsN_get] at h
  cases hk : ks[i]? with
  | none => simp [hk] at h
  | some k => simp [hk] at h; subst h; exact cellN_one _ _
theorem valS_den (E : Env) (w : World) (agg : Bool) (ks : List LK) (l : List Int) : Den E w (valS agg ks l) (valN agg ks l) := by
  unfold valS valN
  cases agg
  · cases ks with
    | nil => exact .any _
    | cons k ks =>
      simp only [svsN, nth]
      rw [if_neg (by simp), if_neg (by simp)]
      cases l with
      | nil => exact svN_den E w k 0
      | cons x l => exact svN_den E w k x
  · obtain ⟨h1, h2⟩ := svsN_den E w ks l
    exact .agg _ h1 (fun i u hu => cellsN_one (by simpa using hu)) h2
theorem numK_den {E : Env} {w : World} : ∀ {ks : List LK} {l : List SV} {r : List Int}, numK ks l = some r → r.length = ks.length ∧ l.length = ks.length ∧ ∀ (us : List Value), us.length = l.length → (∀ (i : Nat) (x : SV) (u : Value), l[i]? = some x → us[i]? = some u → Den E w x u) → us = cellsN ks r := by
  intro ks l
  fun_induction numK ks l with
  | case1 => intro r h; cases h; exact ⟨rfl, rfl, fun us h _ => by cases us <;> simp at h ⊢; rfl⟩
  | case2 ks x l r0 h0 ih =>
    intro r h
    cases h
    obtain ⟨h1, h2, h3⟩ := ih h0
    refine ⟨by simp [h1], by simp [h2], fun us hl hd => ?_⟩
    cases us with
    | nil => simp at hl
    | cons u us =>
      have a1 := hd 0 _ _ rfl rfl
      cases a1
      rw [cellsN, h3 us (by simpa using hl) (fun i x u hx hu => hd (i + 1) x u (by simpa using hx) (by simpa using hu))]
      rfl
  | case3 => intro r h; cases h
  | case4 ks b l r0 h0 ih =>
    intro r h
    cases h
    obtain ⟨h1, h2, h3⟩ := ih h0
    refine ⟨by simp [h1], by simp [h2], fun us hl hd => ?_⟩
    cases us with
    | nil => simp at hl
    | cons u us =>
      have a1 := hd 0 _ _ rfl rfl
      cases a1
      rw [cellsN, h3 us (by simpa using hl) (fun i x u hx hu => hd (i + 1) x u (by simpa using hx) (by simpa using hu))]
      cases b <;> rfl
  | case5 => intro r h; cases h
  | case6 => intro r h; cases h
theorem numV_den {E : Env} {w : World} {agg : Bool} {ks : List LK} {x : SV} {r : List Int} (h : numV agg ks x = some r) {v : Value} (hd : Den E w x v) : r.length = ks.length ∧ v = valN agg ks r := by
  unfold numV at h
  split at h
  · split at h
    · rename_i l
      obtain ⟨h1, h2, h3⟩ := numK_den (E := E) (w := w) h
      match v, hd with
      | _, .agg vs hs h1' hd =>
        refine ⟨h1, ?_⟩
        have := h3 vs.toList (by simpa using hs) (fun i x u hx hu => hd i x u hx (by simpa using hu))
        simp [valN, ← this]
    · cases h
  · split at h
    · rename_i k
      obtain ⟨h1, h2, h3⟩ := numK_den (E := E) (w := w) h
      refine ⟨h1, ?_⟩
      have := h3 [v] rfl (fun i y u hy hu => by
        cases i with
        | zero => simp at hy hu; subst hy hu; exact hd
        | succ i => simp at hy)
      simp [valN, ← this]
    · cases h

/- ### keys -/
def isI : List LK → Bool
  | [] => true
  | .i :: l => isI l
  | .b :: _ => false
theorem eqV_cells : ∀ (ks : List LK) (a b : List Int), isI ks = true → a.length = ks.length → b.length = ks.length → eqV ks (cellsN ks a) (cellsN ks b) = some (decide (a = b))
  | [], [], [], _, _, _ => by simp [cellsN, eqV]
  | .i :: ks, x :: a, y :: b, h, ha, hb => by
    have := eqV_cells ks a b h (by simpa using ha) (by simpa using hb)
    simp only [cellsN, cellN, eqV, if_true, this]
    simp
  | .b :: _, _, _, h, _, _ => by simp [isI] at h
  | .i :: _, [], _, _, h, _ => by simp at h
  | .i :: _, _ :: _, [], _, _, h => by simp at h
  | [], _ :: _, _, _, h, _ => by simp at h
  | [], [], _ :: _, _, _, h => by simp at h

/-- A part of a flat type is there, and can be a key. -/
def ChkAt (P : Program) (w : World) (em : Bool) (D t off : Nat) (xs : Array Value) : Prop :=
  ∃ a, (part t xs off).run P w = .ok a w ∧ (Instr.checkKey em D t a).run P w = .ok () w
theorem goF_ext {P : Program} {rec : Nat → Option (List LK)} : ∀ (fs : List Field) (acc ks : List LK), goF P rec fs acc = some ks → ∃ js, ks = acc ++ js
  | [], acc, ks, h => by simp only [goF, Option.some.injEq] at h; exact ⟨[], by simp [h]⟩
  | f :: fs, acc, ks, h => by
    simp only [goF] at h
    split at h
    · split at h
      · split at h
        · rename_i k1 hk1
          obtain ⟨js, e⟩ := goF_ext fs _ _ h
          exact ⟨k1 ++ js, by rw [e, List.append_assoc]⟩
        · cases h
      · cases h
    · cases h
theorem goF_each {P : Program} {rec : Nat → Option (List LK)} {cs : List Value} {q : Bool} : ∀ (fs : List Field) (acc ks : List LK), goF P rec fs acc = some ks → eqV ks cs cs = some q →
    ∀ f ∈ fs, f.name ≠ "_" ∧ ∃ k1 q1, rec f.type = some k1 ∧ eqV k1 ((cs.drop f.offset).take k1.length) ((cs.drop f.offset).take k1.length) = some q1
  | [], acc, ks, h, hq => by simp
  | f :: fs, acc, ks, h, hq => by
    intro g hg
    have h0 := h
    simp only [goF] at h
    split at h
    · rename_i hn
      split at h
      · rename_i ho
        split at h
        · rename_i k1 hk1
          rcases List.mem_cons.1 hg with rfl | hg
          · obtain ⟨js, e⟩ := goF_ext fs _ _ h
            rw [e, List.append_assoc] at hq
            obtain ⟨a, b, ha, hb, _⟩ := eqV_app hq
            obtain ⟨c, d, hc, hd, _⟩ := eqV_app hb
            exact ⟨hn, k1, c, hk1, by rw [ho]; exact hc⟩
          · exact goF_each fs _ _ h hq g hg
        · cases h
      · cases h
    · cases h
theorem repK_each {ks : List LK} {cs : List Value} : ∀ (n : Nat) (q : Bool) (off : Nat), eqV (repK ks n) (cs.drop off) (cs.drop off) = some q → ∀ i, i < n → ∃ q1, eqV ks ((cs.drop (off + i * ks.length)).take ks.length) ((cs.drop (off + i * ks.length)).take ks.length) = some q1
  | 0, q, off, hq, i, hi => by omega
  | n + 1, q, off, hq, i, hi => by
    simp only [repK] at hq
    obtain ⟨a, b, ha, hb, _⟩ := eqV_app hq
    cases i with
    | zero => exact ⟨a, by simpa using ha⟩
    | succ i =>
      rw [List.drop_drop] at hb
      obtain ⟨q1, h1⟩ := repK_each n b (off + ks.length) hb i (by omega)
      refine ⟨q1, ?_⟩
      rw [show off + (i + 1) * ks.length = off + ks.length + i * ks.length by rw [Nat.add_mul]; omega]
      exact h1
theorem chk_flat {P : Program} {w : World} {em : Bool} : ∀ (d : Nat) (t : Nat) (ks : List LK), flatK P d t = some ks → ∀ D, d ≤ D → ∀ (xs : Array Value) (off : Nat) (q : Bool),
    eqV ks ((xs.toList.drop off).take ks.length) ((xs.toList.drop off).take ks.length) = some q → ChkAt P w em D t off xs
  | 0, t, ks, h => by simp [flatK] at h
  | d + 1, t, ks, h => by
    intro D hD xs off q hq
    obtain ⟨D, rfl⟩ : ∃ D', D = D' + 1 := ⟨D - 1, by omega⟩
    have one : ∀ (u : Value), (xs.toList.drop off).take 1 = [u] → xs[off]? = some u := by
      intro u h
      have : ((xs.toList.drop off).take 1)[0]? = some u := by rw [h]; rfl
      simpa [List.getElem?_take, List.getElem?_drop] using this
    have e2 : ∀ n, (xs.extract off (off + n)).toList = (xs.toList.drop off).take n := by
      intro n
      rw [Array.toList_extract]
      simp [List.extract]
    unfold flatK at h
    split at h
    · rename_i k hu
      cases h
      simp only [List.length_cons, List.length_nil, Nat.zero_add] at hq
      generalize ha : (xs.toList.drop off).take 1 = la at hq
      cases la with
      | nil => simp [eqV] at hq
      | cons u la =>
        have la0 : la = [] := by have := congrArg List.length ha; simp at this; exact List.length_eq_zero_iff.1 (by omega)
        subst la0
        cases u <;> simp only [eqV, reduceCtorEq] at hq
        rename_i k1 x
        exact ⟨.int k1 x, by simp [part, isAgg, run_underlying hu, one _ ha], by simp [Instr.checkKey, run_underlying hu]⟩
    · rename_i hu
      cases h
      simp only [List.length_cons, List.length_nil, Nat.zero_add] at hq
      generalize ha : (xs.toList.drop off).take 1 = la at hq
      cases la with
      | nil => simp [eqV] at hq
      | cons u la =>
        have la0 : la = [] := by have := congrArg List.length ha; simp at this; exact List.length_eq_zero_iff.1 (by omega)
        subst la0
        cases u <;> simp only [eqV, reduceCtorEq] at hq
        rename_i x
        exact ⟨.bool x, by simp [part, isAgg, run_underlying hu, one _ ha], by simp [Instr.checkKey, run_underlying hu]⟩
    · rename_i fs hu
      split at h
      · split at h
        · rename_i ks' hg
          split at h
          · rename_i i hi
            split at h
            · rename_i hsz
              cases h
              have hA : (isAgg t).run P w = .ok true w := by simp [isAgg, run_underlying hu]
              have hS : (sizeOf t).run P w = .ok ks.length w := by simp [sizeOf, typeInfo, hi, hsz]
              refine ⟨.agg (xs.extract off (off + ks.length)), by simp [part, hA, hS], ?_⟩
              have each := goF_each fs.toList [] ks hg (cs := (xs.extract off (off + ks.length)).toList) (q := q) (by rw [e2]; exact hq)
              rw [Instr.checkKey]
              simp only [Sem.run_bind, run_underlying hu, Result.andThen_ok]
              rw [← Array.forIn_toList]
              generalize fs.toList = L at each
              induction L with
              | nil => simp
              | cons f L ih =>
                obtain ⟨hn, k1, q1, hk1, h1⟩ := each f (by simp)
                obtain ⟨a, p1, p2⟩ := chk_flat (w := w) (em := em) d _ k1 hk1 D (by omega) (xs.extract off (off + ks.length)) f.offset q1 h1
                simp only [List.forIn_cons, Sem.run_bind, hn, ne_eq, not_false_eq_true, if_true, Result.andThen_ok, p1, p2, Sem.run_pure]
                exact ih (fun y hy => each y (by simp [hy]))
            · cases h
          · cases h
        · cases h
      · cases h
    · rename_i n e hu
      split at h
      · rename_i ke hke
        split at h
        · rename_i i hi
          split at h
          · rename_i ie hie
            split at h
            · rename_i hh
              cases h
              obtain ⟨hs1, hs2, hs3⟩ := hh
              have hA : (isAgg t).run P w = .ok true w := by simp [isAgg, run_underlying hu]
              have hS : (sizeOf t).run P w = .ok (repK ke n).length w := by simp [sizeOf, typeInfo, hi, hs2, repK_len]
              have hE : (sizeOf e).run P w = .ok ke.length w := by simp [sizeOf, typeInfo, hie, hs1]
              refine ⟨.agg (xs.extract off (off + (repK ke n).length)), by simp [part, hA, hS], ?_⟩
              have each := repK_each n q 0 (cs := (xs.extract off (off + (repK ke n).length)).toList) (ks := ke) (by rw [e2]; simpa using hq)
              rw [Instr.checkKey]
              simp only [Sem.run_bind, run_underlying hu, Result.andThen_ok]
              simp only [Std.Legacy.Range.forIn_eq_forIn_range', Std.Legacy.Range.size, Nat.sub_zero, Nat.add_one_sub_one, Nat.div_one]
              have each : ∀ i, i ∈ List.range' 0 n → ∃ q1, eqV ke (((xs.extract off (off + (repK ke n).length)).toList.drop (i * ke.length)).take ke.length) (((xs.extract off (off + (repK ke n).length)).toList.drop (i * ke.length)).take ke.length) = some q1 := fun i hi => by
                simp only [List.mem_range'_1] at hi
                simpa using each i (by omega)
              generalize List.range' 0 n = is at each
              induction is with
              | nil => simp
              | cons j is ih =>
                obtain ⟨q1, h1⟩ := each j (by simp)
                obtain ⟨a, p1, p2⟩ := chk_flat (w := w) (em := em) d _ ke hke D (by omega) (xs.extract off (off + (repK ke n).length)) (j * ke.length) q1 h1
                simp only [List.forIn_cons, Sem.run_bind, hE, Result.andThen_ok, p1, p2, Sem.run_pure]
                exact ih (fun y hy => each y (by simp [hy]))
            · cases h
          · cases h
        · cases h
      · cases h
    · cases h

theorem part_all {P : Program} {w : World} {t : Nat} {ks : List LK} {d : Nat} (h : flatK P d t = some ks) {dd : TypeDesc} (hag : true = (match dd with | .struct _ | .array _ _ => true | _ => false)) (hd : P.underlying t = some dd) {xs : Array Value} (hx : xs.size = ks.length) :
    (part t xs 0).run P w = .ok (.agg xs) w := by
  obtain ⟨i, hi, hs⟩ := flatK_size h hag hd
  have hA : (isAgg t).run P w = .ok true w := by
    cases dd <;> simp at hag <;> simp [isAgg, run_underlying hd]
  have hS : (sizeOf t).run P w = .ok ks.length w := by simp [sizeOf, typeInfo, hi, hs]
  have : xs.extract 0 ks.length = xs := by rw [← hx]; simp
  simp [part, hA, hS, this]

/-- What a key is made of. -/
def keyKs (tk : TI) : Option (Bool × List LK) :=
  match tk.agg, tk.eq with
  | true, some ks => if isI ks then some (true, ks) else none
  | false, _ => match tk.kind with
    | .int .i64 => some (false, [.i])
    | _ => none
  | _, _ => none
structure KeyOk (P : Program) (kt : Nat) (ka : Bool) (ks : List LK) : Prop where
  check : ∀ (w : World) (em : Bool) (k : List Int), k.length = ks.length → (Instr.checkKey em 10000 kt (valN ka ks k)).run P w = .ok () w
  find : ∀ (w : World) (va : Bool) (vs : List LK) (k : List Int) (es : List MapEntry) (ms : List (List Int × List Int)), k.length = ks.length → es.length = ms.length →
    (∀ (j : Nat) (e : MapEntry) (k' v : List Int), es[j]? = some e → ms[j]? = some (k', v) → e.key = valN ka ks k' ∧ e.val = valN va vs v ∧ k'.length = ks.length) →
    (Instr.findKey kt (valN ka ks k) es).run P w = .ok none w ∧ findM ms k = none ∨ ∃ j v, (Instr.findKey kt (valN ka ks k) es).run P w = .ok (some (j, valN va vs v)) w ∧ ms[j]? = some (k, v) ∧ findM ms k = some v ∧ ∀ i, i < j → ∀ q, ms[i]? = some q → q.1 ≠ k
  same : ∀ k, k.length = ks.length → Instr.sameBits 10000 (valN ka ks k) (valN ka ks k) = true
theorem findAsk {P : Program} {w : World} {kt : Nat} {ka : Bool} {ks : List LK} (heq : ∀ a b : List Int, a.length = ks.length → b.length = ks.length → (Op.equal kt (valN ka ks a) (valN ka ks b)).run P w = .ok (decide (a = b)) w)
    (va : Bool) (vs : List LK) (k : List Int) (hk : k.length = ks.length) : ∀ (es : List MapEntry) (ms : List (List Int × List Int)) (i : Nat), es.length = ms.length →
    (∀ (j : Nat) (e : MapEntry) (k' v : List Int), es[j]? = some e → ms[j]? = some (k', v) → e.key = valN ka ks k' ∧ e.val = valN va vs v ∧ k'.length = ks.length) →
    (Instr.findAsking kt (valN ka ks k) es i).run P w = .ok none w ∧ findM ms k = none ∨ ∃ j v, (Instr.findAsking kt (valN ka ks k) es i).run P w = .ok (some (i + j, valN va vs v)) w ∧ ms[j]? = some (k, v) ∧ findM ms k = some v ∧ ∀ i, i < j → ∀ q, ms[i]? = some q → q.1 ≠ k
  | [], [], i, _, _ => .inl ⟨by simp [Instr.findAsking], rfl⟩
  | [], _ :: _, _, h, _ => by simp at h
  | _ :: _, [], _, h, _ => by simp at h
  | e :: es, (k', v) :: ms, i, hl, ha => by
    obtain ⟨h1, h2, h3⟩ := ha 0 e k' v rfl rfl
    have hq := heq k k' hk h3
    by_cases hkk : k' = k
    · subst hkk
      right
      refine ⟨0, v, ?_, rfl, by simp [findM], fun i hi => by omega⟩
      simp only [decide_true] at hq
      simp [Instr.findAsking, h1, h2, hq]
    · have : (decide (k = k')) = false := by simp; exact fun e => hkk e.symm
      rw [this] at hq
      rcases findAsk heq va vs k hk es ms (i + 1) (by simpa using hl) (fun j e k' v h1 h2 => ha (j + 1) e k' v (by simpa using h1) (by simpa using h2)) with ⟨p1, p2⟩ | ⟨j, v', p1, p2, p3, p4⟩
      · left
        exact ⟨by simp [Instr.findAsking, h1, hq, p1], by simp [findM, hkk, p2]⟩
      · right
        refine ⟨j + 1, v', by simp [Instr.findAsking, h1, hq, p1, Nat.add_assoc, Nat.add_comm 1 j], by simpa using p2, by simp [findM, hkk, p3], fun i hi q hq' => ?_⟩
        cases i with
        | zero => simp at hq'; subst hq'; exact hkk
        | succ i => exact p4 i (by omega) q (by simpa using hq')
theorem findNw {P : Program} {w : World} (va : Bool) (vs : List LK) (x : Int) : ∀ (es : List MapEntry) (ms : List (List Int × List Int)) (i : Nat), es.length = ms.length →
    (∀ (j : Nat) (e : MapEntry) (k' v : List Int), es[j]? = some e → ms[j]? = some (k', v) → e.key = valN false [.i] k' ∧ e.val = valN va vs v ∧ k'.length = 1) →
    Instr.findNow (.int .i64) (.int .i64 x) es i = some none ∧ findM ms [x] = none ∨ ∃ j v, Instr.findNow (.int .i64) (.int .i64 x) es i = some (some (i + j, valN va vs v)) ∧ ms[j]? = some ([x], v) ∧ findM ms [x] = some v ∧ ∀ i, i < j → ∀ q, ms[i]? = some q → q.1 ≠ [x]
  | [], [], i, _, _ => .inl ⟨by simp [Instr.findNow], rfl⟩
  | [], _ :: _, _, h, _ => by simp at h
  | _ :: _, [], _, h, _ => by simp at h
  | e :: es, (k', v) :: ms, i, hl, ha => by
    obtain ⟨h1, h2, h3⟩ := ha 0 e k' v rfl rfl
    obtain ⟨y, rfl⟩ : ∃ y, k' = [y] := by
      cases k' with
      | nil => simp at h3
      | cons y l => cases l with
        | nil => exact ⟨y, rfl⟩
        | cons _ _ => simp at h3
    have hy : e.key = .int .i64 y := by rw [h1]; rfl
    by_cases hkk : y = x
    · subst hkk
      right
      exact ⟨0, v, by simp [Instr.findNow, hy, Instr.sameNow, h2], rfl, by simp [findM], fun i hi => by omega⟩
    · have hxy : (x == y) = false := by simp; exact fun e => hkk e.symm
      rcases findNw (P := P) (w := w) va vs x es ms (i + 1) (by simpa using hl) (fun j e k' v h1 h2 => ha (j + 1) e k' v (by simpa using h1) (by simpa using h2)) with ⟨p1, p2⟩ | ⟨j, v', p1, p2, p3, p4⟩
      · left
        exact ⟨by simp [Instr.findNow, hy, Instr.sameNow, hxy, p1], by simp [findM, hkk, p2]⟩
      · right
        refine ⟨j + 1, v', by simp [Instr.findNow, hy, Instr.sameNow, hxy, p1, Nat.add_assoc, Nat.add_comm 1 j], by simpa using p2, by simp [findM, hkk, p3], fun i hi q hq' => ?_⟩
        cases i with
        | zero => simp at hq'; subst hq'; simpa using hkk
        | succ i => exact p4 i (by omega) q (by simpa using hq')
theorem sameBits_cells (n : Nat) : ∀ (ks : List LK) (l : List Int), (((cellsN ks l).zip (cellsN ks l)).all fun (x, y) => Instr.sameBits n x y) = true
  | [], _ => rfl
  | k :: ks, [] => by
    have := sameBits_cells n ks []
    simp only [cellsN, List.zip_cons_cons, List.all_cons, this, Bool.and_true]
    cases k <;> cases n <;> simp [cellN, Instr.sameBits]
  | k :: ks, x :: l => by
    have := sameBits_cells n ks l
    simp only [cellsN, List.zip_cons_cons, List.all_cons, this, Bool.and_true]
    cases k <;> cases n <;> simp [cellN, Instr.sameBits]
theorem keyKs_ok {P : Program} {kt : Nat} {tk : TI} (hT : TIOk P kt tk) {ka : Bool} {ks : List LK} (h : keyKs tk = some (ka, ks)) : KeyOk P kt ka ks := by
  obtain ⟨d, hd, _, hag, hk⟩ := hT.desc
  unfold keyKs at h
  split at h
  · rename_i ks' ha he
    split at h
    · rename_i hi
      cases h
      obtain ⟨hf, _⟩ := hT.eqv _ he
      rw [ha] at hag
      have hcells : ∀ k : List Int, ((cellsN ks k).toArray).size = ks.length := fun k => by simp [cellsN_len]
      have hv : ∀ k, valN true ks k = .agg (cellsN ks k).toArray := fun k => by simp [valN]
      have heq : ∀ (w : World) (a b : List Int), a.length = ks.length → b.length = ks.length → (Op.equal kt (valN true ks a) (valN true ks b)).run P w = .ok (decide (a = b)) w := fun w a b h1 h2 => by
        have h0 := eqV_cells ks a b hi h1 h2
        obtain ⟨x, y, p1, p2, p3⟩ := flatK_ok (w := w) 8 kt ks hf Op.maxDepth (by decide) (cellsN ks a).toArray (cellsN ks b).toArray 0 _ (by
          have e1 : ∀ k : List Int, (((cellsN ks k).toArray).toList.drop 0).take ks.length = cellsN ks k := fun k => by simp [← cellsN_len ks k]
          rw [e1, e1]; exact h0)
        rw [part_all hf hag hd (hcells a)] at p1
        rw [part_all hf hag hd (hcells b)] at p2
        cases p1; cases p2
        rw [hv, hv]
        exact p3
      refine ⟨fun w em k hl => ?_, fun w va vs k es ms hl hlen hall => ?_, fun k hl => ?_⟩
      · have h0 := eqV_cells ks k k hi hl hl
        obtain ⟨x, p1, p2⟩ := chk_flat (w := w) (em := em) 8 kt ks hf 10000 (by decide) (cellsN ks k).toArray 0 _ (by
          have e1 : (((cellsN ks k).toArray).toList.drop 0).take ks.length = cellsN ks k := by simp [← cellsN_len ks k]
          rw [e1]; exact h0)
        rw [part_all hf hag hd (hcells k)] at p1
        cases p1
        rw [hv]
        exact p2
      · have hwide : (match P.underlying kt with | some (.array _ _) | some (.struct _) => true | _ => false) = true := by
          rw [hd]; cases d <;> simp at hag <;> rfl
        rw [Go.run_findKey_eq w hwide]
        simpa using findAsk (heq w) va vs k hl es ms 0 hlen hall
      · rw [hv]
        have := sameBits_cells 9999 ks k
        rw [show (10000 : Nat) = 9999 + 1 from rfl, Instr.sameBits]
        simpa using this
    · cases h
  · rename_i ha
    split at h
    · rename_i hkd
      cases h
      rw [hkd] at hk
      subst hk
      refine ⟨fun w em k hl => ?_, fun w va vs k es ms hl hlen hall => ?_, fun k hl => ?_⟩
      · rw [show (10000 : Nat) = 9999 + 1 from rfl, Instr.checkKey]
        simp [run_underlying hd]
      · obtain ⟨x, rfl⟩ : ∃ y, k = [y] := by
          cases k with
          | nil => simp at hl
          | cons y l => cases l with
            | nil => exact ⟨y, rfl⟩
            | cons _ _ => simp at hl
        have hx : valN false [LK.i] [x] = .int .i64 x := rfl
        rw [hx]
        rcases findNw (P := P) (w := w) va vs x es ms 0 hlen hall with ⟨p1, p2⟩ | ⟨j, v', p1, p2, p3, p4⟩
        · exact .inl ⟨MapKept.run_findKey hd p1, p2⟩
        · exact .inr ⟨j, v', by simpa using MapKept.run_findKey (w := w) hd p1, p2, p3, p4⟩
      · cases k <;> simp [valN, cellsN, cellN, Instr.sameBits]
    · cases h
  · cases h

/- ### the operations -/
def valKs : List ZC → Option (List LK)
  | [] => some []
  | .c (.int .i64 0) :: l => match valKs l with
    | some r => some (.i :: r)
    | none => none
  | .c (.bool false) :: l => match valKs l with
    | some r => some (.b :: r)
    | none => none
  | _ => none
theorem valKs_ok : ∀ {zs : List ZC} {vs : List LK} {us : List Value}, valKs zs = some vs → zs.length = us.length → (∀ (k : Nat) (u : Value), us[k]? = some u → u.oneCell' = true ∧ match zs[k]? with | some (.c x) => x = svS u | some (.sl _ sz) => u = .slice none 0 0 ∧ 0 < sz | none => False) → us = cellsN vs [] := by
  intro zs
  fun_induction valKs zs with
  | case1 => intro vs us h hl _; cases h; cases us <;> simp at hl; rfl
  | case2 l r h0 ih =>
    intro vs us h hl hz
    cases h
    cases us with
    | nil => simp at hl
    | cons u us =>
      have a := (hz 0 u rfl).2
      simp only [List.getElem?_cons_zero] at a
      have : u = .int .i64 0 := by
        unfold svS at a
        split at a <;> simp_all
      rw [cellsN, ← ih h0 (by simpa using hl) (fun k u hu => by simpa using hz (k + 1) u (by simpa using hu)), this]
      rfl
  | case3 => intro vs us h; cases h
  | case4 l r h0 ih =>
    intro vs us h hl hz
    cases h
    cases us with
    | nil => simp at hl
    | cons u us =>
      have a := (hz 0 u rfl).2
      simp only [List.getElem?_cons_zero] at a
      have : u = .bool false := by
        unfold svS at a
        split at a <;> simp_all
      rw [cellsN, ← ih h0 (by simpa using hl) (fun k u hu => by simpa using hz (k + 1) u (by simpa using hu)), this]
      rfl
  | case5 => intro vs us h; cases h
  | case6 => intro vs us h; cases h
theorem zero_val {P : Program} {w : World} {e : Nat} {te : TI} (hE : TIOk P e te) {vs : List LK} (hv : valKs te.zero = some vs) : (zeroValue e).run P w = .ok (valN te.agg vs []) w := by
  obtain ⟨i, z, hi, h1, h2, hz, h3, h4, h5⟩ := hE.info
  obtain ⟨d, hd, _, hag, _⟩ := hE.desc
  have hc : z.cells.toList = cellsN vs [] := valKs_ok hv (by simp [h3, h4]) (fun k u hu => h5 k u (by simpa using hu))
  have hzv : (zeroValue e).run P w = .ok z w := by simp [zeroValue, typeInfo, hi, hz]
  rw [hzv]
  have ha := hE.zag i z hi hz
  have hv : valN te.agg vs [] = z := by
    rw [← ha]
    cases z <;> simp only [Value.cells] at hc <;> simp only [aggV, valN]
    case agg cs => simp [← hc]
    all_goals (rw [← hc]; simp)
  rw [hv]

def gLook (m : MapS) (ok : Bool) (k : List Int) (h : HS) : Res :=
  match ok with
  | true => .val True (.tup [valS m.va m.vs (lookM m.es k), .bool (hasM m.es k)]) h
  | false => .val True (valS m.va m.vs (lookM m.es k)) h
def rLookB (ok : Bool) (kx : Option (Bool × List LK)) (vx : Option (List LK)) (va : Bool) (y : SV) (h : HS) : Blk → Res
  | .mp m => match kx, vx, m.it with
    | some (ka, ks), some vs, none => if m.ka = ka ∧ m.ks = ks ∧ m.va = va ∧ m.vs = vs then match numV ka ks y with
      | some k => gLook m ok k h
      | none => .bad
      else .bad
    | _, _, _ => .bad
  | _ => .bad
def rLookup (tk tv : TI) (ok : Bool) (x y : SV) (h : HS) : Res :=
  match x with
  | .mapp nm => rLookB ok (keyKs tk) (valKs tv.zero) tv.agg y h (getB h.blks nm)
  | _ => .bad
def rUpdB (nm : Nat) (kx : Option (Bool × List LK)) (y z : SV) (h : HS) : Blk → Res
  | .mp m => match kx, m.it with
    | some (ka, ks), none => if m.ka = ka ∧ m.ks = ks then match numV ka ks y, numV m.va m.vs z with
      | some k, some v => .skip True { h with blks := setB h.blks nm (.mp { m with es := putM m.es k v }) }
      | _, _ => .bad
      else .bad
    | _, _ => .bad
  | _ => .bad
def rUpdate (tk : TI) (x y z : SV) (h : HS) : Res :=
  match x with
  | .mapp nm => rUpdB nm (keyKs tk) y z h (getB h.blks nm)
  | _ => .bad
def mkMp (k v : Nat) (va : Bool) (h : HS) : Option (Bool × List LK) → Option (List LK) → Res
  | some (ka, ks), some vs => .val True (.mapp (lenB h.blks)) { h with blks := snocB h.blks (.mp ⟨k, v, ka, ks, va, vs, [], none⟩) }
  | _, _ => .bad
def rMakeMap (k v : Nat) (tk tv : TI) (h : HS) : Res := mkMp k v tv.agg h (keyKs tk) (valKs tv.zero)

theorem RelH.newMp {E : Env} {h : HS} {w : World} (hr : RelH E h w) (m : MapS) (ob : Obj) (hnew : MpAt (E.newB w.heap.size) (w.alloc ob) E.nb m) :
    RelH (E.newB w.heap.size) { h with blks := snocB h.blks (.mp m) } (w.alloc ob) := by
  have hx : Ext E w (E.newB w.heap.size) (w.alloc ob) := ext_alloc hr.own _ _ rfl
  have hold : ∀ b, b < w.heap.size → (w.alloc ob).heap[b]? = w.heap[b]? := fun b hb => Below.heap_alloc w _ b hb
  refine ⟨by simp [Env.newB, lenB_snoc, hr.nb], hr.nv, ?_, ?_, ?_, ?_, ?_⟩
  · intro nm ty' cells' hb
    simp only [getB_snoc] at hb
    split at hb
    · cases hb
    · rename_i e
      have e' : nm ≠ E.nb := fun e' => e (e'.trans hr.nb)
      obtain ⟨cs', k1, k2, k3, k4⟩ := hr.blk nm ty' cells' hb
      have hlt := hr.own _ _ k4
      refine ⟨cs', ?_, k2.ext hx, k3, ?_⟩
      · simp only [Env.newB, e', if_false]; exact (hold _ hlt).trans k1
      · simp only [Env.newB, e', if_false]; rw [if_neg (by omega)]; exact k4
  · intro id ver ty' sz n f hv
    obtain ⟨h0, ⟨a, cap, k1, k2⟩, k3⟩ := hr.vec id ver ty' sz n f hv
    refine ⟨h0, ⟨a, cap, k1, k2.ext hx (fun g hg => ?_)⟩, k3⟩
    have hlt := hr.own _ _ hg
    exact ⟨hold g hlt, by simp only [Env.newB]; rw [if_neg (by omega)]⟩
  · intro b t hb
    simp only [Env.newB] at hb
    split at hb
    · rename_i e; subst e; simp
    · have := hr.own b t hb; simp; omega
  · intro nm st' pend' fid' t' params' assign' body' hb
    simp only [getB_snoc] at hb
    split at hb
    · cases hb
    · rename_i e
      have e' : nm ≠ E.nb := fun e' => e (e'.trans hr.nb)
      refine (hr.lp _ _ _ _ _ _ _ _ hb).ext hx (fun ho => ?_)
      have hlt := hr.own _ _ ho
      exact ⟨by simp only [Env.newB, e', if_false], hold _ hlt, by simp only [Env.newB]; rw [if_neg (by omega)]⟩
  · intro nm m' hb
    simp only [getB_snoc] at hb
    split at hb
    · rename_i e
      have e' : nm = E.nb := e.trans hr.nb.symm
      cases hb
      rw [e']
      exact hnew
    · rename_i e
      have e' : nm ≠ E.nb := fun e' => e (e'.trans hr.nb)
      refine (hr.mp _ _ hb).ext hx (fun ho => ?_)
      have hlt := hr.own _ _ ho
      exact ⟨by simp only [Env.newB, e', if_false], hold _ hlt, by simp only [Env.newB]; rw [if_neg (by omega)]⟩

theorem RelH.newMap {E : Env} {h : HS} {w : World} (hr : RelH E h w) (m : MapS) (hm : m.es = []) (hit : m.it = none) :
    RelH (E.newB w.heap.size) { h with blks := snocB h.blks (.mp m) } (w.alloc (.map #[] 0)) := by
  refine hr.newMp m _ ⟨by simp only [Env.newB, if_true], ?_⟩
  rw [hit]
  exact ⟨#[], by simp only [Env.newB, if_true]; exact heap_alloc_new w _, by simp [hm], fun i e k v h => by simp at h, fun i e h => by simp at h⟩

/-- A map moves on. -/
theorem RelH.setMap {E : Env} {h : HS} {w w' : World} (hr : RelH E h w) {nm : Nat} {m : MapS} (hb : getB h.blks nm = .mp m) (m' : MapS)
    (hx : Ext E w E w') (hsz : w'.heap.size = w.heap.size) (hoth : ∀ b, b ≠ E.rho nm → w'.heap[b]? = w.heap[b]?) (hnew : MpAt E w' nm m') :
    RelH E { h with blks := setB h.blks nm (.mp m') } w' := by
  have b3 := (hr.mp _ _ hb).1
  have hne : ∀ b tg, E.own b = some tg → tg ≠ .blk nm → b ≠ E.rho nm := fun b tg ho ht e => by rw [e, b3] at ho; cases ho; exact ht rfl
  refine ⟨by simp [lenB_set, hr.nb], hr.nv, ?_, ?_, fun b t hb => by rw [hsz]; exact hr.own b t hb, ?_, ?_⟩
  · intro nm' ty' c' hb'
    simp only [getB_set] at hb'
    split at hb'
    · cases hb'
    · rename_i e
      have hn : nm' ≠ nm := fun e' => e ⟨e', getB_ltM hb⟩
      obtain ⟨c, k1, k2, k3, k4⟩ := hr.blk nm' ty' c' hb'
      exact ⟨c, (hoth _ (hne _ _ k4 (fun e => hn (by injection e)))).trans k1, k2.ext hx, k3, k4⟩
  · intro id ver ty' sz n f hv
    obtain ⟨h0, ⟨a, cap, k1, k2⟩, k3⟩ := hr.vec id ver ty' sz n f hv
    exact ⟨h0, ⟨a, cap, k1, k2.ext hx (fun g hg => ⟨hoth g (hne _ _ hg (by intro e; cases e)), rfl⟩)⟩, k3⟩
  · intro nm' st2 pend2 fid2 t2 params2 assign2 body2 hb'
    simp only [getB_set] at hb'
    split at hb'
    · cases hb'
    · rename_i e
      have hn : nm' ≠ nm := fun e' => e ⟨e', getB_ltM hb⟩
      exact (hr.lp _ _ _ _ _ _ _ _ hb').ext hx (fun ho => ⟨rfl, hoth _ (hne _ _ ho (fun e => hn (by injection e))), rfl⟩)
  · intro nm' m2 hb'
    simp only [getB_set] at hb'
    split at hb'
    · rename_i e
      obtain ⟨rfl, _⟩ := e
      cases hb'
      exact hnew
    · rename_i e
      have hn : nm' ≠ nm := fun e' => e ⟨e', getB_ltM hb⟩
      exact (hr.mp _ _ hb').ext hx (fun ho => ⟨rfl, hoth _ (hne _ _ ho (fun e => hn (by injection e))), rfl⟩)

theorem gt_getD (k : List Int) (h : k.length = 0) : k = [] := List.length_eq_zero_iff.1 h
theorem valS_val (E : Env) (w : World) (agg : Bool) (ks : List LK) (l : List Int) : Den E w (valS agg ks l) (valN agg ks l) := valS_den E w agg ks l

theorem rLookup_ok {P : Program} {E : Env} {h : HS} {w : World} (hr : RelH E h w) {t kt et : TypeId} (ht : P.underlying t = some (.map kt et)) {tk tv : TI} (hK : TIOk P kt tk) (hV : TIOk P et tv) (ok : Bool)
    {x y : SV} {vx vy : Value} (hx : Den E w x vx) (hy : Den E w y vy) : ResOk P E h w ((Instr.lookup t vx vy ok >>= fun v => pure (Next.value v)).run P w) (rLookup tk tv ok x y h) := by
  unfold rLookup
  split
  rotate_left
  · trivial
  rename_i nm
  unfold rLookB
  split
  rotate_left
  · trivial
  rename_i m hb
  split
  rotate_left
  · trivial
  rename_i ka ks vs hk hv hit
  split
  rotate_left
  · trivial
  rename_i hm
  obtain ⟨rfl, rfl, hva, rfl⟩ := hm
  split
  rotate_left
  · trivial
  rename_i k hnum
  have hmp := hr.mp _ _ hb
  unfold MpAt at hmp
  rw [hit] at hmp
  obtain ⟨h2, es, h1, h3, h4, h5⟩ := hmp
  obtain ⟨hkl, rfl⟩ := numV_den hnum hy
  cases hx
  have hko := keyKs_ok hK hk
  have hall : ∀ (j : Nat) (e : MapEntry) (k' v : List Int), es.toList[j]? = some e → m.es[j]? = some (k', v) → e.key = valN m.ka m.ks k' ∧ e.val = valN m.va m.vs v ∧ k'.length = m.ks.length := fun j e k' v he hm => by
    obtain ⟨a1, a2, a4, a5⟩ := h4 j e k' v (by simpa using he) hm
    exact ⟨a1, a2, a4⟩
  have hz := zero_val (w := w) hV hv
  rw [← hva] at hz
  have hfin : ∀ (q : Bool) (v : List Int), (Instr.lookup t (.map (some (E.rho nm))) (valN m.ka m.ks k) ok).run P w = .ok (if ok then .tuple #[valN m.va m.vs v, .bool q] else valN m.va m.vs v) w → lookM m.es k = v → hasM m.es k = q →
      ResOk P E h w ((Instr.lookup t (.map (some (E.rho nm))) (valN m.ka m.ks k) ok >>= fun v => pure (Next.value v)).run P w) (gLook m ok k h) := by
    intro q v hrun hl hh
    unfold gLook
    cases ok
    · exact ResOk.pure hr (val := valN m.va m.vs v) (fun _ => by simp [hrun]) (by rw [hl]; exact valS_val E w _ _ _)
    · refine ResOk.pure hr (val := .tuple #[valN m.va m.vs v, .bool q]) (fun _ => by simp [hrun]) (.tup _ (by simp) (fun i a u ha hu => ?_))
      cases i with
      | zero => simp at ha hu; subst ha hu; rw [hl]; exact valS_val E w _ _ _
      | succ i => cases i with
        | zero => simp at ha hu; subst ha hu; rw [hh]; exact .bool _
        | succ i => simp at ha
  have hget : (getObj (E.rho nm)).run P w = .ok (.map es es.size) w := by simp [getObj, Sem.run, h1]
  rcases hko.find w m.va m.vs k es.toList m.es hkl (by simpa using h3) hall with ⟨p1, p2⟩ | ⟨j, v, p1, p2, p3, p4⟩
  · refine hfin false [] ?_ (by simp [lookM, p2]) (by simp [hasM, p2])
    cases ok <;> simp [Instr.lookup, run_underlying ht, hget, hko.check w _ k hkl, p1, hz]
  · refine hfin true v ?_ (by simp [lookM, p3]) (by simp [hasM, p3])
    cases ok <;> simp [Instr.lookup, run_underlying ht, hget, hko.check w _ k hkl, p1]

theorem putM_none : ∀ {es : List (List Int × List Int)} {k v : List Int}, findM es k = none → putM es k v = es ++ [(k, v)]
  | [], k, v, _ => rfl
  | (k', v') :: es, k, v, h => by
    simp only [findM] at h
    split at h
    · cases h
    · rename_i hne; simp [putM, hne, putM_none h]
theorem putM_some : ∀ {es : List (List Int × List Int)} {k v u : List Int} {j : Nat}, es[j]? = some (k, u) → (∀ i, i < j → ∀ q, es[i]? = some q → q.1 ≠ k) → putM es k v = es.set j (k, v)
  | [], k, v, u, j, h, _ => by simp at h
  | (k', v') :: es, k, v, u, 0, h, _ => by simp at h; simp [putM, h.1]
  | (k', v') :: es, k, v, u, j + 1, h, h2 => by
    have hne : k' ≠ k := h2 0 (by omega) _ rfl
    simp [putM, hne, putM_some (es := es) (v := v) (by simpa using h) (fun i hi q hq => h2 (i + 1) (by omega) q (by simpa using hq))]

theorem rUpdate_ok {P : Program} {E : Env} {h : HS} {w : World} (hr : RelH E h w) {t kt et : TypeId} (ht : P.underlying t = some (.map kt et)) {tk : TI} (hK : TIOk P kt tk)
    {x y z : SV} {vx vy vz : Value} (hx : Den E w x vx) (hy : Den E w y vy) (hz : Den E w z vz) : ResOk P E h w ((Instr.mapUpdate t vx vy vz >>= fun _ => (pure Next.skip : Sem Next)).run P w) (rUpdate tk x y z h) := by
  unfold rUpdate
  split
  rotate_left
  · trivial
  rename_i nm
  unfold rUpdB
  split
  rotate_left
  · trivial
  rename_i m hb
  split
  rotate_left
  · trivial
  rename_i ka ks hk hit
  split
  rotate_left
  · trivial
  rename_i hm
  obtain ⟨rfl, rfl⟩ := hm
  split
  rotate_left
  · trivial
  rename_i k v hnum hnv
  have hmp := hr.mp _ _ hb
  unfold MpAt at hmp
  rw [hit] at hmp
  obtain ⟨h2, es, h1, h3, h4, h5⟩ := hmp
  obtain ⟨hkl, rfl⟩ := numV_den hnum hy
  obtain ⟨hvl, rfl⟩ := numV_den hnv hz
  cases hx
  have hko := keyKs_ok hK hk
  have hall : ∀ (j : Nat) (e : MapEntry) (k' v : List Int), es.toList[j]? = some e → m.es[j]? = some (k', v) → e.key = valN m.ka m.ks k' ∧ e.val = valN m.va m.vs v ∧ k'.length = m.ks.length := fun j e k' v he hm => by
    obtain ⟨a1, a2, a4, a5⟩ := h4 j e k' v (by simpa using he) hm
    exact ⟨a1, a2, a4⟩
  have hlt : E.rho nm < w.heap.size := (Array.getElem?_eq_some_iff.1 h1).1
  intro _
  have hget : (getObj (E.rho nm)).run P w = .ok (.map es es.size) w := by simp [getObj, Sem.run, h1]
  have hset : ∀ o, (setObj (E.rho nm) o).run P w = .ok () { w with heap := w.heap.set (E.rho nm) o hlt } := fun o => by
    simp only [setObj, Sem.run, h1]
    simp [Array.setIfInBounds, hlt]
  have hX : ∀ o, Ext E w E { w with heap := w.heap.set (E.rho nm) o hlt } := fun o =>
    ⟨rfl, rfl, rfl, by simp, Nat.le_refl _, Nat.le_refl _, fun _ _ => rfl, fun _ _ _ _ h => h, fun b hb h => ⟨h, by
      have : E.rho nm ≠ b := fun e => by rw [← e, h2] at h; cases h
      simp [Array.getElem?_set, this]⟩, fun b h => ⟨h, by
      have : E.rho nm ≠ b := fun e => by rw [← e, h2] at h; cases h
      simp [Array.getElem?_set, this]⟩⟩
  have hoth : ∀ o b, b ≠ E.rho nm → ({ w with heap := w.heap.set (E.rho nm) o hlt } : World).heap[b]? = w.heap[b]? := fun o b hb => by
    simp [Array.getElem?_set, Ne.symm hb]
  have hnew : ∀ o, ({ w with heap := w.heap.set (E.rho nm) o hlt } : World).heap[E.rho nm]? = some o := fun o => by simp
  rcases hko.find w m.va m.vs k es.toList m.es hkl (by simpa using h3) hall with ⟨p1, p2⟩ | ⟨j, u, p1, p2, p3, p4⟩
  · refine ⟨_, E, ?_, hr.setMap hb { m with es := putM m.es k v } (hX (.map (es.push { key := valN m.ka m.ks k, val := valN m.va m.vs v, born := es.size }) (es.size + 1))) (by simp) (hoth _) ⟨h2, ?_⟩, hX _⟩
    · simp [Instr.mapUpdate, run_underlying ht, hget, hko.check w _ k hkl, p1, hset]
    · rw [show ({ m with es := putM m.es k v } : MapS).it = none from hit]
      refine ⟨_, by rw [Array.size_push]; exact hnew _, ?_, ?_, ?_⟩
      · simp [putM_none p2, h3]
      · intro i e k' v' he hm
        rw [putM_none p2] at hm
        rw [Array.getElem?_push] at he
        split at he
        · rename_i hi
          cases he
          rw [List.getElem?_append_right (by omega)] at hm
          simp [show i - m.es.length = 0 by omega] at hm
          obtain ⟨rfl, rfl⟩ := hm
          exact ⟨rfl, rfl, hkl, hvl⟩
        · have hi2 : i < es.size := (Array.getElem?_eq_some_iff.1 he).1
          rw [List.getElem?_append_left (by omega)] at hm
          exact h4 i e k' v' he hm
      · intro i e he
        rw [Array.getElem?_push] at he
        split at he
        · rename_i hi
          cases he
          exact hi.symm
        · exact h5 i e he
  · have hj : j < m.es.length := (List.getElem?_eq_some_iff.1 p2).1
    have hjs : j < es.size := by omega
    have hej : es[j]? = some es[j] := Array.getElem?_eq_getElem hjs
    obtain ⟨a1, a2, a4, a5⟩ := h4 j _ k u hej p2
    have hkeep : (Instr.keyThatStays (((es[j]?).map (·.key)).getD (valN m.ka m.ks k)) (valN m.ka m.ks k)).run P w = .ok (valN m.ka m.ks k) w := by
      rw [hej]
      simp only [Option.map_some, Option.getD_some, a1, Instr.keyThatStays, hko.same k hkl, if_true]
      simp
    refine ⟨_, E, ?_, hr.setMap hb { m with es := putM m.es k v } (hX (.map (es.modify j fun e => { e with key := valN m.ka m.ks k, val := valN m.va m.vs v }) es.size)) (by simp) (hoth _) ⟨h2, ?_⟩, hX _⟩
    · simp only [Instr.mapUpdate, Sem.run_bind, run_underlying ht, Result.andThen_ok, hget, hko.check w _ k hkl, p1, hkeep, hset, Sem.run_pure]
    · rw [show ({ m with es := putM m.es k v } : MapS).it = none from hit]
      refine ⟨_, by rw [Array.size_modify]; exact hnew _, ?_, ?_, ?_⟩
      · simp [putM_some (v := v) p2 p4, h3]
      · intro i e k' v' he hm
        rw [putM_some (v := v) p2 p4] at hm
        rw [Array.getElem?_modify] at he
        by_cases hij : j = i
        · subst hij
          rw [if_pos rfl, hej] at he
          simp only [Option.map_some, Option.some.injEq] at he
          rw [List.getElem?_set_self hj] at hm
          cases hm
          subst he
          exact ⟨rfl, rfl, hkl, hvl⟩
        · rw [if_neg hij] at he
          rw [List.getElem?_set_ne hij] at hm
          exact h4 i e k' v' he hm
      · intro i e he
        rw [Array.getElem?_modify] at he
        split at he
        · rename_i hij
          subst hij
          rw [hej] at he
          simp only [Option.map_some, Option.some.injEq] at he
          rw [← he]
          show es[j].born = j
          exact h5 j es[j] hej
        · exact h5 i e he

theorem rMakeMap_ok {P : Program} {E : Env} {h : HS} {w : World} (hr : RelH E h w) (t k v : TypeId) (tk tv : TI) :
    ResOk P E h w ((Instr.makeMap t none >>= fun v => pure (Next.value v)).run P w) (rMakeMap k v tk tv h) := by
  unfold rMakeMap mkMp
  split
  · intro _
    refine ⟨.map (some w.heap.size), w.alloc (.map #[] 0), E.newB w.heap.size, ?_, ?_, hr.newMap _ rfl rfl, ext_alloc hr.own _ _ rfl⟩
    · simp [Instr.makeMap]
    · have : Den (E.newB w.heap.size) (w.alloc (.map #[] 0)) (.mapp E.nb) (.map (some ((E.newB w.heap.size).rho E.nb))) := .mapp (by simp [Env.newB])
      rw [← hr.nb]
      simpa [Env.newB] using this
  · trivial

/-- A field of a value; a part of it. -/
def gtB : List Bool → Nat → Bool
  | [], _ => false
  | x :: _, 0 => x
  | _ :: l, n + 1 => gtB l n
theorem gtB_eq : ∀ (l : List Bool) (i : Nat), gtB l i = l.getD i false
  | [], i => by simp [gtB]
  | x :: l, 0 => by simp [gtB]
  | x :: l, i + 1 => by simp [gtB, gtB_eq l i]
def rFld (ti : TI) (x : SV) (k : Nat) (h : HS) : Res :=
  match ti.kind with
  | .struct offs => match nthO offs k with
    | some (o, s) => match x with
      | .agg l => .val (o + s ≤ lenS l) (if gtB ti.fag k then .agg (takeN s (dropN o l)) else nth l o) h
      | _ => .bad
    | none => .bad
  | _ => .bad
theorem rFld_ok {P : Program} {E : Env} {h : HS} {w : World} (hr : RelH E h w) {t : TypeId} {ti : TI} (hT : TIOk P t ti) {x : SV} {v : Value} (hx : Den E w x v) (k : Nat) :
    ResOk P E h w ((Instr.field t v k >>= fun v => pure (Next.value v)).run P w) (rFld ti x k h) := by
  unfold rFld
  split
  rotate_left
  · trivial
  rename_i offs hk
  split
  rotate_left
  · trivial
  rename_i o s ho
  split
  rotate_left
  · trivial
  rename_i l
  obtain ⟨d, hd, _, _, hkd⟩ := hT.desc
  rw [hk] at hkd
  simp only at hkd
  obtain ⟨fs, rfl, hm, hnz⟩ := hkd
  rw [nthO_eq] at ho
  obtain ⟨f, hf, rfl, i, hi, rfl⟩ := places_get _ _ hm k o s ho
  have hs0 : i.size ≠ 0 := hnz _ (List.mem_of_getElem? ho)
  have hfag := hT.fag fs hd
  have hag : aggD P f.type = some (gtB ti.fag k) := by
    have := congrArg (fun l => l[k]?) hfag
    simp only [List.getElem?_map, hf, Option.map_some] at this
    cases hq : ti.fag[k]? with
    | none => rw [hq] at this; cases this
    | some b => rw [hq] at this; simp at this; rw [this, gtB_eq, List.getD, hq]; rfl
  obtain ⟨d', hd', hdb⟩ : ∃ d', P.underlying f.type = some d' ∧ gtB ti.fag k = (match d' with | .struct _ | .array _ _ => true | _ => false) := by
    unfold aggD at hag
    cases hu : P.underlying f.type with
    | none => rw [hu] at hag; cases hag
    | some d' => rw [hu] at hag; simp at hag; exact ⟨d', rfl, hag.symm⟩
  obtain ⟨us, rfl, h1, hden⟩ : ∃ us : Array Value, v = .agg us ∧ (∀ (i : Nat) (u : Value), us[i]? = some u → u.oneCell' = true) ∧ DenA E w l us := by
    cases hx with | agg vs hs h1 hd => exact ⟨vs, rfl, h1, hs, hd⟩
  rw [lenS_eq]
  have hf' : fs[k]? = some f := by simpa using hf
  refine fun hle => ?_
  have hle' : f.offset + i.size ≤ us.size := by rw [hden.1]; exact hle
  cases hb : gtB ti.fag k with
  | true =>
    rw [hb] at hdb
    have hA : (isAgg f.type).run P w = .ok true w := by
      unfold isAgg
      cases d' <;> simp at hdb <;> simp [run_underlying hd']
    have hS : (sizeOf f.type).run P w = .ok i.size w := by simp [sizeOf, typeInfo, hi]
    refine ⟨.agg (us.extract f.offset (f.offset + i.size)), w, E, ?_, ?_, hr, Ext.refl E w⟩
    · simp [Instr.field, run_underlying hd, hf', part, asAgg, hA, hS]
    · obtain ⟨q1, q2⟩ := hden.sub f.offset i.size hle
      refine .agg _ q1 (fun j u hu => ?_) q2
      rw [Array.getElem?_extract] at hu
      split at hu
      · exact h1 _ u hu
      · cases hu
  | false =>
    rw [hb] at hdb
    have hA : (isAgg f.type).run P w = .ok false w := by
      unfold isAgg
      cases d' <;> simp at hdb <;> simp [run_underlying hd']
    have hlt : f.offset < us.size := by omega
    refine ⟨us[f.offset], w, E, ?_, ?_, hr, Ext.refl E w⟩
    · simp [Instr.field, run_underlying hd, hf', part, asAgg, hA, Array.getElem?_eq_getElem hlt]
    · have := hden.nth f.offset
      simpa [hlt] using this
end Go.Eng
end

/- Ranges over maps. -/
section
namespace Go.Eng
open Go.RowKit
set_option linter.unusedVariables false

def nthM : List (List Int × List Int) → Nat → List Int × List Int
  | [], _ => ([], [])
  | x :: _, 0 => x
  | _ :: l, n + 1 => nthM l n
theorem nthM_get : ∀ {l : List (List Int × List Int)} {i : Nat}, i < l.length → l[i]? = some (nthM l i)
  | [], i, h => by simp at h
  | x :: l, 0, _ => rfl
  | x :: l, i + 1, h => by simp only [nthM, List.getElem?_cons_succ]; exact nthM_get (by simpa using h)
def entS (m : MapS) (i : Nat) : List SV := [valS m.ka m.ks (nthM m.es i).1, valS m.va m.vs (nthM m.es i).2]
def itS (x : Nat × Nat × List Nat) : MapS := ⟨0, 0, false, [], false, [], [], some x⟩
def rRangeM (nm : Nat) (h : HS) : Blk → Res
  | .mp ⟨_, _, _, _, _, _, es, none⟩ => .val True (.ptr (lenB h.blks) 0) { h with blks := snocB h.blks (.mp (itS (nm, lenM es, []))) }
  | _ => .bad
def rRange (ti : TI) (x : SV) (h : HS) : Res :=
  match ti.kind, x with
  | .map _ _, .mapp nm => rRangeM nm h (getB h.blks nm)
  | _, _ => .bad
def rNextM (nm mnm since : Nat) (seen : List Nat) (h : HS) : Blk → Res
  | .mp ⟨kty, vty, ka, ks, va, vs, es, none⟩ => .pick (since = lenM es) since (fun i => !seen.contains i) (fun i => .tup (.bool true :: entS ⟨kty, vty, ka, ks, va, vs, es, none⟩ i)) (fun i => { h with blks := setB h.blks nm (.mp (itS (mnm, since, i :: seen))) }) (.tup [.bool false]) h
  | _ => .bad
def rNextI (nm : Nat) (h : HS) : Blk → Res
  | .mp ⟨0, 0, false, [], false, [], [], some (mnm, since, seen)⟩ => rNextM nm mnm since seen h (getB h.blks mnm)
  | _ => .bad
def rNext (x : SV) (h : HS) : Res :=
  match x with
  | .ptr nm 0 => rNextI nm h (getB h.blks nm)
  | _ => .bad
def rEntM (i since : Nat) (h : HS) : Blk → Res
  | .mp ⟨kty, vty, ka, ks, va, vs, es, none⟩ => .val (since = lenM es ∧ i < since) (.tup (entS ⟨kty, vty, ka, ks, va, vs, es, none⟩ i)) h
  | _ => .bad
def rEntI (h : HS) : Blk → Res
  | .mp ⟨_, _, _, _, _, _, _, some (mnm, since, i :: _)⟩ => rEntM i since h (getB h.blks mnm)
  | _ => .bad
def rEntry (x : SV) (h : HS) : Res :=
  match x with
  | .ptr nm 0 => rEntI h (getB h.blks nm)
  | _ => .bad

theorem mp_none {E : Env} {h : HS} {w : World} (hr : RelH E h w) {nm : Nat} {m : MapS} (hb : getB h.blks nm = .mp m) (hi : m.it = none) : MpIn w (E.rho nm) m := by
  have := (hr.mp _ _ hb).2
  rw [hi] at this
  exact this
theorem mp_some {E : Env} {h : HS} {w : World} (hr : RelH E h w) {nm : Nat} {m : MapS} (hb : getB h.blks nm = .mp m) {a b : Nat} {c : List Nat} (hi : m.it = some (a, b, c)) : w.heap[E.rho nm]? = some (.mapIter (some (E.rho a)) b c.reverse.toArray b) ∧ a < E.nb := by
  have := (hr.mp _ _ hb).2
  rw [hi] at this
  exact this

theorem rRange_ok {P : Program} {E : Env} {h : HS} {w : World} (hr : RelH E h w) {t : TypeId} {ti : TI} (hT : TIOk P t ti) {x : SV} {v : Value} (hx : Den E w x v) :
    ResOk P E h w ((Instr.range t v >>= fun v => pure (Next.value v)).run P w) (rRange ti x h) := by
  unfold rRange
  split
  rotate_left
  · trivial
  rename_i kt vt nm hk
  unfold rRangeM
  split
  rotate_left
  · trivial
  rename_i kty vty ka ks va vs es hb
  obtain ⟨d, hd, _, _, hkd⟩ := hT.desc
  rw [hk] at hkd
  simp only at hkd
  subst hkd
  obtain ⟨es', h1, h3, h4, h5⟩ := mp_none hr hb rfl
  cases hx
  rename_i hnb
  intro _
  refine ⟨_, _, E.newB w.heap.size, by rw [Sem.run_bind, run_range_map w t kt vt _ es' es'.size hd h1]; rfl, ?_, hr.newMp _ _ ⟨by simp only [Env.newB, if_true], ?_⟩, ext_alloc hr.own _ _ rfl⟩
  · rw [← hr.nb]
    have : Den (E.newB w.heap.size) (w.alloc (.mapIter (some (E.rho nm)) es'.size #[] es'.size)) (.ptr E.nb 0) (.pointer (some ⟨(E.newB w.heap.size).rho E.nb, 0, none⟩)) := .ptr (by simp [Env.newB])
    simpa [Env.newB] using this
  · simp only [itS]
    refine ⟨?_, by simp only [Env.newB]; omega⟩
    have hne : nm ≠ E.nb := by omega
    simp only [Env.newB, if_true, hne, if_false]
    rw [heap_alloc_new]
    simp only [lenM_eq, h3]
    rfl

theorem ext_it {E : Env} {w w1 : World} {r : Nat} {nm : Nat} (ho : E.own r = some (.blk nm)) (hw : w1 = w ∨ w1 = w.drew) (o : Obj) : Ext E w E (Go.ChangeMaps.setBlock w1 r o) := by
  have hh : w1.heap = w.heap := by rcases hw with rfl | rfl <;> rfl
  have hne : ∀ b, E.own b ≠ E.own r → r ≠ b := fun b hb e => hb (by rw [e])
  have hget : ∀ b, r ≠ b → (Go.ChangeMaps.setBlock w1 r o).heap[b]? = w.heap[b]? := fun b hb => by
    show (w1.heap.setIfInBounds r o)[b]? = _
    rw [hh, Array.getElem?_setIfInBounds_ne hb]
  refine ⟨?_, ?_, ?_, ?_, Nat.le_refl _, Nat.le_refl _, fun _ _ => rfl, fun _ _ _ _ h => h, fun b hb h => ⟨h, hget b (hne b (by rw [h, ho]; intro e; cases e))⟩, fun b h => ⟨h, hget b (hne b (by rw [h, ho]; intro e; cases e))⟩⟩
  · rcases hw with rfl | rfl <;> rfl
  · rcases hw with rfl | rfl <;> rfl
  · rcases hw with rfl | rfl <;> rfl
  · show w.heap.size ≤ (w1.heap.setIfInBounds r o).size
    rw [Array.size_setIfInBounds, hh]
    exact Nat.le_refl _

theorem ent_den (E : Env) (w : World) {m : MapS} {es : Array MapEntry} (h3 : es.size = m.es.length) (h4 : ∀ (i : Nat) (e : MapEntry) (k v : List Int), es[i]? = some e → m.es[i]? = some (k, v) → e.key = valN m.ka m.ks k ∧ e.val = valN m.va m.vs v ∧ k.length = m.ks.length ∧ v.length = m.vs.length)
    {i : Nat} {e : MapEntry} (he : es[i]? = some e) : Den E w (valS m.ka m.ks (nthM m.es i).1) e.key ∧ Den E w (valS m.va m.vs (nthM m.es i).2) e.val := by
  have hi : i < m.es.length := by rw [← h3]; exact (Array.getElem?_eq_some_iff.1 he).1
  obtain ⟨a1, a2, _⟩ := h4 i e _ _ he (nthM_get hi)
  rw [a1, a2]
  exact ⟨valS_den E w _ _ _, valS_den E w _ _ _⟩

theorem rNext_ok {P : Program} {E : Env} {h : HS} {w : World} (hr : RelH E h w) {t : TypeId} {x : SV} {v : Value} (hx : Den E w x v) :
    ResOk P E h w ((Instr.next v false t >>= fun v => pure (Next.value v)).run P w) (rNext x h) := by
  unfold rNext
  split
  rotate_left
  · trivial
  rename_i nm
  unfold rNextI
  split
  rotate_left
  · trivial
  rename_i mnm since seen hb
  unfold rNextM
  split
  rotate_left
  · trivial
  rename_i kty vty ka ks va vs es hm
  cases hx
  obtain ⟨g1, g2⟩ := mp_some hr hb rfl
  obtain ⟨es', h1, h3, h4, h5⟩ := mp_none hr hm rfl
  have hown := (hr.mp _ _ hb).1
  intro hc
  rw [lenM_eq] at hc
  have hsz : es'.size = since := by rw [h3, hc]
  rw [hsz] at h1
  have hold : ∀ x ∈ es'.toList, x.born < since := fun x hx => by
    obtain ⟨i, hi⟩ := List.getElem?_of_mem hx
    rw [Array.getElem?_toList] at hi
    rw [h5 i x hi, ← hsz]
    exact (Array.getElem?_eq_some_iff.1 hi).1
  rcases run_next_at (P := P) w t (E.rho nm) (E.rho mnm) since since seen.reverse.toArray es' since g1 h1 hold (Nat.le_refl _) with ⟨q1, q2⟩ | ⟨e, q1, w1, q2, q3⟩
  · right
    refine ⟨fun i hi => ?_, _, w, E, by rw [Sem.run_bind, q2]; rfl, .tup _ (by simp) (fun i x u hx hu => ?_), hr, Ext.refl E w⟩
    · have hlt : i < es'.size := by omega
      have hnot : es'[i] ∉ leftOf es' seen.reverse.toArray := fun hmem => by
        have : leftOf es' seen.reverse.toArray = #[] := Array.eq_empty_of_size_eq_zero q1
        rw [this] at hmem
        simp at hmem
      unfold leftOf at hnot
      rw [Array.mem_filter] at hnot
      have hbn := h5 i _ (Array.getElem?_eq_getElem hlt)
      rw [hbn] at hnot
      simp at hnot ⊢
      exact hnot
    · cases i with
      | zero => simp at hx hu; subst hx hu; exact .bool _
      | succ i => simp at hx
  · left
    unfold leftOf at q1
    rw [← Array.mem_def, Array.mem_filter] at q1
    obtain ⟨i, hi⟩ := Array.getElem?_of_mem q1.1
    have hbn := h5 i e hi
    have hlt : i < es'.size := (Array.getElem?_eq_some_iff.1 hi).1
    have hx := ext_it hown q2 (.mapIter (some (E.rho mnm)) since (seen.reverse.toArray.push e.born) since)
    have hh : w1.heap = w.heap := by rcases q2 with rfl | rfl <;> rfl
    have hltr : E.rho nm < w.heap.size := (Array.getElem?_eq_some_iff.1 g1).1
    have hset := hr.setMap hb (itS (mnm, since, i :: seen)) hx (by show (w1.heap.setIfInBounds _ _).size = _; rw [Array.size_setIfInBounds, hh]) (fun b hb => by show (w1.heap.setIfInBounds _ _)[b]? = _; rw [hh, Array.getElem?_setIfInBounds_ne (Ne.symm hb)]) ⟨hown, by
      simp only [itS]
      refine ⟨?_, g2⟩
      show (w1.heap.setIfInBounds _ _)[_]? = _
      rw [hh, Array.getElem?_setIfInBounds_self_of_lt hltr, hbn]
      simp⟩
    refine ⟨i, _, _, E, by omega, ?_, by rw [Sem.run_bind, q3]; rfl, ?_, hset, hx⟩
    · rw [hbn] at q1
      simpa using q1.2
    · obtain ⟨d1, d2⟩ := ent_den E (Go.ChangeMaps.setBlock w1 (E.rho nm) (.mapIter (some (E.rho mnm)) since (seen.reverse.toArray.push e.born) since)) (m := ⟨kty, vty, ka, ks, va, vs, es, none⟩) h3 h4 hi
      refine .tup _ (by simp [entS]) (fun j x u hx hu => ?_)
      match j with
      | 0 => simp [entS] at hx hu; subst hx hu; exact .bool _
      | 1 => simp [entS] at hx hu; subst hx hu; exact d1
      | 2 => simp [entS] at hx hu; subst hx hu; exact d2
      | j + 3 => simp [entS] at hx

theorem rEntry_ok {P : Program} {E : Env} {h : HS} {w : World} (hr : RelH E h w) {x : SV} {v : Value} (hx : Den E w x v) :
    ResOk P E h w ((Instr.entry v >>= fun v => pure (Next.value v)).run P w) (rEntry x h) := by
  unfold rEntry
  split
  rotate_left
  · trivial
  rename_i nm
  unfold rEntI
  split
  rotate_left
  · trivial
  rename_i mnm since i seen hb
  unfold rEntM
  split
  rotate_left
  · trivial
  rename_i kty vty ka ks va vs es hm
  cases hx
  obtain ⟨g1, g2⟩ := mp_some hr hb rfl
  obtain ⟨es', h1, h3, h4, h5⟩ := mp_none hr hm rfl
  rintro ⟨hc, hi⟩
  rw [lenM_eq] at hc
  have hsz : es'.size = since := by rw [h3, hc]
  rw [hsz] at h1
  have hlt : i < es'.size := by omega
  have hei : es'[i]? = some es'[i] := Array.getElem?_eq_getElem hlt
  have hbn := h5 i _ hei
  have hnd : (es'.toList.map (·.born)).Nodup := by
    have : es'.toList.map (·.born) = List.range es'.size := by
      apply List.ext_getElem?
      intro j
      rw [List.getElem?_map, Array.getElem?_toList]
      by_cases hj : j < es'.size
      · rw [Array.getElem?_eq_getElem hj, List.getElem?_range hj]
        simp [h5 j _ (Array.getElem?_eq_getElem hj)]
      · rw [Array.getElem?_eq_none (by omega), List.getElem?_eq_none (by simp; omega)]
        rfl
    rw [this]
    exact List.nodup_range
  have hrun := run_entry_at (P := P) w (E.rho nm) (E.rho mnm) since seen.reverse.toArray es' since es'[i] (by rw [g1, hbn]; simp) h1 (by simp) hnd
  obtain ⟨d1, d2⟩ := ent_den E w (m := ⟨kty, vty, ka, ks, va, vs, es, none⟩) h3 h4 hei
  refine ⟨_, w, E, by rw [Sem.run_bind, hrun]; rfl, .tup _ (by simp [entS]) (fun j x u hx hu => ?_), hr, Ext.refl E w⟩
  match j with
  | 0 => simp [entS] at hx hu; subst hx hu; exact d1
  | 1 => simp [entS] at hx hu; subst hx hu; exact d2
  | j + 2 => simp [entS] at hx
end Go.Eng
end
