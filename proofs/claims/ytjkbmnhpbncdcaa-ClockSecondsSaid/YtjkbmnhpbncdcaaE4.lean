/-
  A part of the symbolic machine, of its soundness, and of what functions compute. No condition.
-/
import Derived.OpenShut
import Derived.Carry
import Derived.ChangeArms
import Derived.WideShapes
import Derived.WideWitness
import Derived.ProofKit
import Derived.SizedLaws
import Derived.Test.YtjkbmnhpbncdcaaE3
set_option linter.unusedSimpArgs false
set_option linter.unusedVariables false
/- From what the statement says of its arguments to symbolic values. -/
section
namespace Go.Eng
open Go Go.RowKit Go.ChangeShapes Go.WideShapes

/-- What a cell is: a number, a bool, or a slice of such cells. -/
inductive Sh where
  | int (k : IntKind)
  | bool
  | sl (e : List Sh)
def shF (P : Program) (rec : Nat → Option (List Sh)) : List Field → Nat → Option (List Sh)
  | [], _ => some []
  | f :: fs, off => if f.offset = off then match rec f.type with
    | some a => if a.length = P.cellsOf f.type then match shF P rec fs (off + a.length) with
      | some b => some (a ++ b)
      | none => none
      else none
    | none => none
    else none
def repS (s : List Sh) : Nat → List Sh
  | 0 => []
  | n + 1 => s ++ repS s n
def shT (P : Program) : Nat → Nat → Option (List Sh)
  | 0, _ => none
  | d + 1, t => match P.underlying t with
    | some (.int k) => some [.int k]
    | some .bool => some [.bool]
    | some (.slice e) => match shT P d e with
      | some s => if s.length = P.cellsOf e ∧ 0 < s.length then some [.sl s] else none
      | none => none
    | some (.struct fs) => match shF P (shT P d) fs.toList 0 with
      | some s => if s.length = P.cellsOf t then some s else none
      | none => none
    | some (.array n e) => match shT P d e with
      | some s => if s.length = P.cellsOf e ∧ (repS s n).length = P.cellsOf t then some (repS s n) else none
      | none => none
    | _ => none
inductive Typ : Sh → SV → Prop
  | int {k : IntKind} {n : Int} (h : (Lit.int k n).wf = true) : Typ (.int k) (.int k n)
  | bool (b : Bool) : Typ .bool (.bool b)
  | sl {e : List Sh} {n : Nat} {f : Nat → Nat → SV} (hn : n ≤ maxLen) (h : ∀ i j sh, i < n → e[j]? = some sh → Typ sh (f i j)) : Typ (.sl e) (.row n e.length f)
def Env.emp : Env := { nb := 0, rho := id, nv := 0, val := fun _ _ => none, own := fun _ => none }
theorem emp_rel (w : World) : RelH Env.emp ⟨[], []⟩ w :=
  ⟨rfl, rfl, fun nm ty c h => by simp [getB] at h, fun id a b c d e h => by simp [getV] at h, fun b t hb => by simp [Env.emp] at hb, fun nm st pend fid t params assign body hb => by simp [getB] at hb, fun nm m hb => by simp [getB] at hb⟩
/-- Cells that read as shapes are denoted. -/
def CellsD (w : World) (shs : List Sh) (cs : List Value) : Prop :=
  cs.length = shs.length ∧ ∃ xs : List SV, xs.length = shs.length ∧ ∀ (j : Nat) (a : SV) (v : Value) (sh : Sh), xs[j]? = some a → cs[j]? = some v → shs[j]? = some sh → Den Env.emp w a v ∧ Typ sh a ∧ v.oneCell' = true
theorem CellsD.app {w : World} {s1 s2 : List Sh} {c1 c2 : List Value} (h1 : CellsD w s1 c1) (h2 : CellsD w s2 c2) : CellsD w (s1 ++ s2) (c1 ++ c2) := by
  obtain ⟨a1, x1, b1, d1⟩ := h1
  obtain ⟨a2, x2, b2, d2⟩ := h2
  refine ⟨by simp [a1, a2], x1 ++ x2, by simp [b1, b2], fun j a v sh ha hv hs => ?_⟩
  by_cases hj : j < s1.length
  · rw [List.getElem?_append_left (by omega)] at ha hv hs
    exact d1 j a v sh ha hv hs
  · rw [List.getElem?_append_right (by omega)] at ha hv hs
    rw [b1] at ha; rw [a1] at hv
    exact d2 _ a v sh ha hv hs
section
variable {H : Type} {enc : TypeId × Value → H} {P : Program} {w : World} {held : Bool}
theorem fields_ok {rec : Nat → Option (List Sh)} {n : Nat} {cs : List Value} (hrec : ∀ t s c x, rec t = some s → DataW.trod enc P w 0 (fun _ => true) held n t c = some x → CellsD w s c) :
    ∀ (fs : List Field) (off : Nat) (s : List Sh), shF P rec fs off = some s → (∀ (i : Nat) (f : Field), fs[i]? = some f → ∃ x, DataW.trod enc P w 0 (fun _ => true) held n f.type ((cs.drop f.offset).take (P.cellsOf f.type)) = some x) → CellsD w s ((cs.drop off).take s.length)
  | [], off, s, h, _ => by simp only [shF, Option.some.injEq] at h; subst h; exact ⟨by simp, [], rfl, fun j a v sh ha => by simp at ha⟩
  | f :: fs, off, s, h, hx => by
    simp only [shF] at h
    split at h
    · rename_i ho
      split at h
      · rename_i a ha
        split at h
        · rename_i hl
          split at h
          · rename_i b hb
            cases h
            obtain ⟨x, hx0⟩ := hx 0 f rfl
            have h1 := hrec _ _ _ _ ha hx0
            have h2 := fields_ok hrec fs _ _ hb (fun i f hf => hx (i + 1) f (by simpa using hf))
            rw [ho, ← hl] at h1
            have e : (cs.drop off).take (a ++ b).length = (cs.drop off).take a.length ++ (cs.drop (off + a.length)).take b.length := by
              rw [List.length_append, List.take_add, List.drop_drop]
            rw [e]
            exact h1.app h2
          · cases h
        · cases h
      · cases h
    · cases h
theorem arr_ok {s : List Sh} {cs : List Value} : ∀ (n off : Nat), (∀ i, i < n → CellsD w s ((cs.drop (off + i * s.length)).take s.length)) → CellsD w (repS s n) ((cs.drop off).take (repS s n).length)
  | 0, off, _ => ⟨by simp [repS], [], rfl, fun j a v sh ha => by simp at ha⟩
  | n + 1, off, h => by
    have h1 := h 0 (by omega)
    have h2 := arr_ok n (off + s.length) (fun i hi => by have := h (i + 1) (by omega); rw [Nat.succ_mul] at this; rw [show off + s.length + i * s.length = off + (i * s.length + s.length) by omega]; exact this)
    have e : (cs.drop off).take (repS s (n + 1)).length = (cs.drop off).take s.length ++ (cs.drop (off + s.length)).take (repS s n).length := by
      simp only [repS]
      rw [List.length_append, List.take_add, List.drop_drop]
    rw [e]
    simp only [repS]
    exact CellsD.app (by simpa using h1) h2

theorem trod_den : ∀ (d : Nat) (t : Nat) (cs : List Value) (fuel : Nat) (x : DataW H × List MemPlace) (shs : List Sh), shT P d t = some shs → DataW.trod enc P w 0 (fun _ => true) held fuel t cs = some x → CellsD w shs cs := by
  intro d
  induction d with
  | zero => intro t cs fuel x shs h; simp [shT] at h
  | succ d ih =>
    intro t cs fuel x shs h hx
    simp only [shT] at h
    have one : ∀ (a : SV) (v : Value) (sh : Sh), Den Env.emp w a v → Typ sh a → v.oneCell' = true → CellsD w [sh] [v] := fun a v sh h1 h2 h3 => ⟨rfl, [a], rfl, fun j b u s hb hu hs => by
      cases j with
      | zero => simp at hb hu hs; subst hb hu hs; exact ⟨h1, h2, h3⟩
      | succ j => simp at hb⟩
    split at h
    · rename_i k hk
      cases h
      obtain ⟨n, rfl, _, hw⟩ := DataW.trod_int hk hx
      exact one _ _ _ (.int k n) (.int hw) rfl
    · rename_i hk
      cases h
      obtain ⟨b, rfl, _⟩ := DataW.trod_bool hk hx
      exact one _ _ _ (.bool b) (.bool b) rfl
    · rename_i e hk
      split at h
      · rename_i s hs
        split at h
        · rename_i hl
          cases h
          rcases DataW.trod_slice hk hx with ⟨rfl, _⟩ | ⟨a, len, cap, elems, rest, n, _, rfl, _, _, hlc, hcap, hlen, hel, _, _⟩
          · exact one (.row 0 s.length fun _ _ => .any) _ _ (.rowZ _ _) (.sl (Nat.zero_le _) (fun i j sh hi => by omega)) rfl
          · by_cases h0 : len = 0
            · subst h0
              exact one (.row 0 s.length fun _ _ => .any) _ _ (.rowZ _ _) (.sl (Nat.zero_le _) (fun i j sh hi => by omega)) rfl
            · have hi : ∀ i, ∃ xs : List SV, i < len → xs.length = s.length ∧ ∀ (j : Nat) (sh : Sh), s[j]? = some sh → ∃ a' v, xs[j]? = some a' ∧ w.cell? (a.add (i * s.length + j)) = some v ∧ Den Env.emp w a' v ∧ Typ sh a' ∧ v.oneCell' = true := by
                intro i
                by_cases hil : i < len
                · have h1 := hel i hil
                  have h2 : elems[i]? = some (elems[i]'(by omega)) := List.getElem?_eq_getElem (by omega)
                  rw [h2] at h1
                  cases hc : w.cells? 0 (a.add (i * P.cellsOf e)) (P.cellsOf e) with
                  | none => rw [hc] at h1; cases h1
                  | some cs' =>
                    rw [hc] at h1
                    obtain ⟨q1, xs, q2, q3⟩ := ih e cs' n _ s hs h1
                    refine ⟨xs, fun _ => ⟨q2, fun j sh hj => ?_⟩⟩
                    have hjl : j < s.length := (List.getElem?_eq_some_iff.1 hj).1
                    obtain ⟨_, hcl, hat⟩ := World.cells?_some hc
                    have hcj := hat j (by omega)
                    have e1 : cs'[j]? = some (cs'[j]'(by omega)) := List.getElem?_eq_getElem (by omega)
                    have e2 : xs[j]? = some (xs[j]'(by omega)) := List.getElem?_eq_getElem (by omega)
                    obtain ⟨r1, r2, r3⟩ := q3 j _ _ sh e2 e1 hj
                    rw [e1] at hcj
                    have hadd : (a.add (i * P.cellsOf e)).add j = a.add (i * s.length + j) := by
                      rw [hl.1, Addr.add_add]
                    rw [hadd] at hcj
                    exact ⟨_, _, e2, hcj, r1, r2, r3⟩
                · exact ⟨[], fun h => absurd h hil⟩
              obtain ⟨F, hF⟩ := Classical.skolem.1 hi
              have hcell : ∀ i j, i < len → j < s.length → ∃ a' v, (F i)[j]? = some a' ∧ w.cell? (a.add (i * s.length + j)) = some v ∧ Den Env.emp w a' v ∧ v.oneCell' = true := fun i j hil hj => by
                obtain ⟨_, h2⟩ := hF i hil
                obtain ⟨a', v, k1, k2, k3, _, k5⟩ := h2 j _ (List.getElem?_eq_getElem hj)
                exact ⟨a', v, k1, k2, k3, k5⟩
              have hb : a.block < w.heap.size := by
                obtain ⟨_, v, _, k2, _⟩ := hcell 0 0 (by omega) hl.2
                have := block_of_cell k2
                rwa [add_block] at this
              refine one (.row len s.length fun i j => nth (F i) j) _ _ (.row a cap (fun i j => (w.cell? (a.add (i * s.length + j))).getD undef) hb rfl hlc (fun i j hi hj => ?_) (fun i j hi hj => ?_) (fun i j hi hj => ?_)) (.sl (by omega) (fun i j sh hil hj => ?_)) rfl
              · obtain ⟨_, v, _, k2, _⟩ := hcell i j hi hj
                rw [k2]; rfl
              · obtain ⟨_, v, _, k2, _, k5⟩ := hcell i j hi hj
                rw [k2]; exact k5
              · obtain ⟨a', v, k1, k2, k3, _⟩ := hcell i j hi hj
                rw [k2, nth_eq, List.getD, k1]; exact k3
              · obtain ⟨_, h2⟩ := hF i hil
                obtain ⟨a', v, k1, _, _, k4, _⟩ := h2 j sh hj
                rw [nth_eq, List.getD, k1]; exact k4
        · cases h
      · cases h
    · rename_i fs hk
      split at h
      · rename_i s hs
        split at h
        · rename_i hl
          cases h
          obtain ⟨xs, n, _, _, hlen, hxl, hg⟩ := DataW.trod_struct hk hx
          have := fields_ok (cs := cs) (n := n) (fun t s c x h1 h2 => ih t c n x s h1 h2) fs.toList 0 shs hs (fun i f hf => by
            have hf' : fs[i]? = some f := by simpa using hf
            have hil : i < xs.length := by rw [hxl]; exact (Array.getElem?_eq_some_iff.1 hf').1
            exact ⟨xs[i], by rw [hg i f hf']; exact List.getElem?_eq_getElem hil⟩)
          rw [List.drop_zero, hl, ← hlen, List.take_length] at this
          exact this
        · cases h
      · cases h
    · rename_i n e hk
      split at h
      · rename_i s hs
        split at h
        · rename_i hl
          cases h
          obtain ⟨xs, m, _, _, hlen, hxl, hg⟩ := DataW.trod_array hk hx
          have := arr_ok (w := w) (s := s) (cs := cs) n 0 (fun i hi => by
            have h1 := hg i hi
            have hil : i < xs.length := by omega
            rw [List.getElem?_eq_getElem hil] at h1
            rw [Nat.zero_add, hl.1]
            exact ih e _ m _ s hs h1)
          rw [List.drop_zero, hl.2, ← hlen, List.take_length] at this
          exact this
        · cases h
      · cases h
    · cases h

/-- How much room an argument takes. -/
theorem arg_room {r : Reach} {b : Nat} {t e : TypeId} {v : Value} {d : DataW H} {ps : List MemPlace} {n sz : Nat} {f : Nat → Nat → SV} {E : Env} {w' : World} (ht : P.underlying t = some (.slice e)) (hval : Value.okWide P w r b t v)
    (h : DataW.Trod enc P w 0 (fun _ => true) held t v d ps) (hd : Den E w' (.row n sz f) v) {ts : List TypeId} {ds : List (DataW H)} (hw : (DataW.weightsEach P ts ds).all (· ≤ reachBytes) = true) {j : Nat} (hj : ts[j]? = some t) (hdj : ds[j]? = some d) :
    n * P.bytesOf e ≤ reachBytes := by
  obtain ⟨a, len, cap, rfl⟩ := okWide_slice ht hval
  have hn : n = len := by cases hd <;> rfl
  subst hn
  obtain ⟨fuel, hf⟩ := h
  rcases DataW.trod_slice ht hf with ⟨h1, _⟩ | ⟨a', len', cap', elems, rest, m, _, h1, h2, _, _, _, hl, _⟩
  · have : n = 0 := by simp [Value.cells] at h1; exact h1.2.1
    subst this; simp
  · have h3 : n = len' := by simp [Value.cells] at h1; exact h1.2.1
    have h4 : d = .slice (elems.map (·.1)) (rest.map (·.1)) := congrArg Prod.fst h2
    have := sized_slice hw hj (by rw [hdj, h4]) ht
    simp only [List.length_map] at this
    refine Nat.le_trans (Nat.mul_le_mul_right _ ?_) this
    omega

/-- A struct, an array. -/
theorem arg_agg {r : Reach} {b : Nat} {t : TypeId} {fs : Array Field} {v : Value} {d : DataW H} {ps : List MemPlace} {shs : List Sh} (ht : P.underlying t = some (.struct fs)) (hs : shT P 12 t = some shs) (hval : Value.okWide P w r b t v) (h : DataW.Trod enc P w 0 (fun _ => true) held t v d ps) :
    ∃ xs : List SV, Den Env.emp w (.agg xs) v ∧ xs.length = shs.length ∧ ∀ (j : Nat) (a : SV) (sh : Sh), xs[j]? = some a → shs[j]? = some sh → Typ sh a := by
  obtain ⟨cs, rfl, hsz⟩ := okWide_struct ht hval
  obtain ⟨fuel, hf⟩ := h
  obtain ⟨q1, xs, q2, q3⟩ := trod_den 12 t _ fuel _ shs hs hf
  have hcl : (Value.agg cs).cells.toList = cs.toList := rfl
  rw [hcl] at q1 q3
  refine ⟨xs, .agg cs (by simpa [q2] using q1) (fun i u hu => ?_) (fun i x u hx hu => ?_), q2, fun j a sh ha hsh => ?_⟩
  · have hil : i < cs.size := (Array.getElem?_eq_some_iff.1 hu).1
    have h1 : i < shs.length := by rw [← q1]; simpa using hil
    exact (q3 i _ u _ (List.getElem?_eq_getElem (by omega)) (by simpa using hu) (List.getElem?_eq_getElem h1)).2.2
  · have hil : i < xs.length := (List.getElem?_eq_some_iff.1 hx).1
    exact (q3 i x u _ hx (by simpa using hu) (List.getElem?_eq_getElem (by omega))).1
  · have hil : j < cs.toList.length := by have := (List.getElem?_eq_some_iff.1 hsh).1; omega
    exact (q3 j a _ sh ha (List.getElem?_eq_getElem hil) hsh).2.1
theorem arg_row {r : Reach} {b : Nat} {t e : TypeId} {v : Value} {d : DataW H} {ps : List MemPlace} {s : List Sh} (ht : P.underlying t = some (.slice e)) (hs : shT P 12 t = some [.sl s]) (hval : Value.okWide P w r b t v) (h : DataW.Trod enc P w 0 (fun _ => true) held t v d ps) :
    ∃ (n : Nat) (f : Nat → Nat → SV), Den Env.emp w (.row n s.length f) v ∧ n ≤ maxLen ∧ ∀ i j sh, i < n → s[j]? = some sh → Typ sh (f i j) := by
  obtain ⟨a, len, cap, rfl⟩ := okWide_slice ht hval
  obtain ⟨fuel, hf⟩ := h
  obtain ⟨q1, xs, q2, q3⟩ := trod_den 12 t _ fuel _ _ hs hf
  match xs, q2 with
  | [x], _ =>
    obtain ⟨k1, k2, _⟩ := q3 0 x (.slice a len cap) (.sl s) rfl rfl rfl
    cases k2 with
    | @sl e n f hn hh => exact ⟨n, f, k1, hn, hh⟩

theorem trodAll_below {W W' : World} (hl : laidOutB P = true) (hb : Below W.heap.size W W') : ∀ {ts : List TypeId} {vs : List Value} {ds : List (DataW H)} {ps : List MemPlace}, (∀ t ∈ ts, P.readableRec t = true ∧ t < P.types.size) →
    DataW.TrodAll enc P W 0 (fun _ => true) true ts vs ds ps → (∀ x ∈ ps, x.block < W.heap.size) → DataW.TrodAll enc P W' 0 (fun b => decide (b < W.heap.size)) true ts vs ds ps
  | [], [], [], _, _, h, _ => h
  | t :: ts, v :: vs, d :: ds, ps, hr, ⟨p, q, h1, h2, e⟩, hlt => by
    subst e
    have := hr t (by simp)
    exact ⟨p, q, Below.trod hl this.1 this.2 h1 hb (fun x hx => hlt x (List.mem_append_left _ hx)), trodAll_below hl hb (fun t ht => hr t (List.mem_cons_of_mem _ ht)) h2 (fun x hx => hlt x (List.mem_append_right _ hx)), rfl⟩
end
/-- A law's end: it returned true, and of what was there nothing turned. -/
theorem law_end {H : Type} {enc : TypeId × Value → H} {P : Program} {f : Func} {s : ChangeSpec} {W W' : World} {args : Array Value} {ds gs : List (DataW H)} {before : List MemPlace} {tb : TypeId}
    (hl : laidOutB P = true) (hres : f.resultTypes = #[tb]) (htb : P.underlying tb = some .bool) (hpar : (f.params.toList.all fun t => P.readableRec t && decide (t < P.types.size)) = true) (hvars : s.vars = [])
    (hW : DataW.Whole enc P f.params.toList s.vars false W args.toList ds gs before) (hfn : s.fn H (ds ++ gs) = { results := [.lit (.bool true)], args := ds, vars := [] }) (hb : Below W.heap.size W W') :
    s.post enc P f false true false false W args (.bool true) W' := by
  have hW0 := hW
  obtain ⟨p, q, hA, hV, rfl, hfz, hnd⟩ := hW
  rw [hvars] at hV
  have hq : gs = [] ∧ q = [] := by
    cases gs with
    | nil => exact ⟨rfl, by simpa [DataW.TrodVars] using hV⟩
    | cons _ _ => simp [DataW.TrodVars] at hV
  obtain ⟨rfl, rfl⟩ := hq
  refine ⟨ds, [], p ++ [], [], p, [], hW0, ?_, ?_, ?_, hb.frame _, fun h => by cases h⟩
  · rw [hfn, hres]
    exact ⟨[], [], shut_bool htb true, rfl, rfl⟩
  · rw [hfn]
    exact trodAll_below hl hb (fun t ht => by have := List.all_eq_true.1 hpar t ht; simpa using this) hA (fun x hx => hW0.lt x (by simpa using hx))
  · rw [hfn, hvars]; rfl
theorem below_of {w w' : World} {E' : Env} (hx : Ext Env.emp w E' w') : Below w.heap.size w w' := ⟨hx.os, hx.tape, hx.output, hx.size, fun k hk => (hx.keep k hk rfl).2⟩
/-- The law's call, by its contract. -/
theorem law_calls {P : Program} {g : Nat} {base : List SV → Option (Prop × SV)} (hb : Base P g base) {args : List SV} {p : Prop} (hq : base args = some (p, .bool true)) (hp : p) {W : World} {vals : Array Value} (hd : DenA Env.emp W args vals) :
    Calls P g vals W fun e W' => e = .returned (.bool true) ∧ Below W.heap.size W W' := by
  obtain ⟨_, h2⟩ := hb _ _ _ hq hp
  refine (h2 Env.emp W vals (emp_rel W) hd).mono ?_
  rintro e w' ⟨o, h', E', ⟨u, rfl, hres⟩, hr', hx, hout⟩
  cases e with
  | panicked _ => exact hout.elim
  | outgrown => exact hout.elim
  | returned val =>
    rcases hres with ⟨hfl, hsd⟩ | hfz
    · have := hsd.out _ _ _ hout
      cases this
      exact ⟨rfl, below_of hx⟩
    · obtain ⟨rfl, _⟩ : u = .bool true ∧ Sc (.bool true) := hfz
      cases hout
      exact ⟨rfl, below_of hx⟩
def DenL (E : Env) (w : World) : List SV → List Value → Prop
  | [], [] => True
  | x :: l, v :: vs => Den E w x v ∧ DenL E w l vs
  | _, _ => False
theorem DenL.get {E : Env} {w : World} : ∀ {l : List SV} {vs : List Value}, DenL E w l vs → vs.length = l.length ∧ ∀ (i : Nat) (x : SV) (u : Value), l[i]? = some x → vs[i]? = some u → Den E w x u
  | [], [], _ => ⟨rfl, fun i x u h => by simp at h⟩
  | x :: l, v :: vs, h => by
    obtain ⟨h1, h2⟩ := DenL.get h.2
    refine ⟨by simp [h1], fun i y u hy hu => ?_⟩
    cases i with
    | zero => simp at hy hu; subst hy hu; exact h.1
    | succ i => exact h2 i y u (by simpa using hy) (by simpa using hu)
  | [], _ :: _, h => h.elim
  | _ :: _, [], h => h.elim
theorem denA_of {E : Env} {w : World} {l : List SV} {vs : List Value} (h : DenL E w l vs) : DenA E w l vs.toArray :=
  ⟨by simpa using h.get.1, fun i x u hx hu => h.get.2 i x u hx (by simpa using hu)⟩
theorem agg_2 {xs : List SV} {k1 k2 : IntKind} (hl : xs.length = 2) (h : ∀ (j : Nat) (a : SV) (sh : Sh), xs[j]? = some a → [Sh.int k1, Sh.int k2][j]? = some sh → Typ sh a) :
    ∃ x y, xs = [.int k1 x, .int k2 y] ∧ (Lit.int k1 x).wf = true ∧ (Lit.int k2 y).wf = true := by
  match xs, hl with
  | [a, b], _ =>
    have h0 := h 0 a _ rfl rfl
    have h1 := h 1 b _ rfl rfl
    cases h0 with
    | int w0 => cases h1 with
      | int w1 => exact ⟨_, _, rfl, w0, w1⟩
theorem intK_of_typ {k : IntKind} {n c : Nat} {f : Nat → Nat → SV} {e : List Sh} (he : e = List.replicate c (Sh.int k)) (h : ∀ i j sh, i < n → e[j]? = some sh → Typ sh (f i j)) : IntK k n c f ∧ ∀ i j, i < n → j < c → (Lit.int k (iv (f i j))).wf = true := by
  have : ∀ i j, i < n → j < c → ∃ x, f i j = .int k x ∧ (Lit.int k x).wf = true := fun i j hi hj => by
    have := h i j (.int k) hi (by rw [he]; simp [List.getElem?_replicate, hj])
    generalize f i j = x at this
    cases this with
    | int hw => exact ⟨_, rfl, hw⟩
  exact ⟨fun i j hi hj => by obtain ⟨x, hx, _⟩ := this i j hi hj; rw [hx]; rfl, fun i j hi hj => by obtain ⟨x, hx, hw⟩ := this i j hi hj; rw [hx]; exact hw⟩
end Go.Eng
end

/- Cells by their shapes. -/
section
namespace Go.Eng
open Go Go.RowKit
theorem typ_int {k : IntKind} {a : SV} (h : Typ (.int k) a) : ∃ n, a = .int k n ∧ (Lit.int k n).wf = true := by
  cases h with
  | int h => exact ⟨_, rfl, h⟩
theorem typ_bool {a : SV} (h : Typ .bool a) : ∃ b, a = .bool b := by
  cases h with
  | bool b => exact ⟨b, rfl⟩
theorem typ_sl {e : List Sh} {a : SV} (h : Typ (.sl e) a) : ∃ n f, a = .row n e.length f ∧ n ≤ maxLen ∧ ∀ i j sh, i < n → e[j]? = some sh → Typ sh (f i j) := by
  cases h with
  | sl hn h => exact ⟨_, _, rfl, hn, h⟩
end Go.Eng
end

/- Rows of structs that hold one slice of numbers each. -/
section
namespace Go.Eng
open Go Go.RowKit Go.Proofs
/-- Rows that are alike cell by cell. -/
theorem SameD.row {n sz : Nat} {f g : Nat → Nat → SV} (h : ∀ i j, i < n → j < sz → SameD (f i j) (g i j)) : SameD (.row n sz f) (.row n sz g) := ⟨fun E w v hd => by
  cases hd with
  | row A cap q hA ho hn hc h1 hd => exact .row A cap q hA ho hn hc h1 (fun i j hi hj => (h i j hi hj).out E w _ (hd i j hi hj))
  | rowZ a cap => exact .rowZ a cap⟩
def nestF (k s : Nat) (A : Nat → Nat → Int) (M : Nat → Nat) (V : Nat → Nat → Nat → Int) : Nat → Nat → SV :=
  fun i j => if j = k then .row (M i) s (fun a b => .int .i64 (V i a b)) else .int .i64 (A i j)
theorem nestF_eq (k s : Nat) (A : Nat → Nat → Int) (M : Nat → Nat) (V : Nat → Nat → Nat → Int) (i j : Nat) :
    nestF k s A M V i j = if j = k then .row (M i) s (fun a b => .int .i64 (V i a b)) else .int .i64 (A i j) := rfl
theorem nestF11_0 (s : Nat) (A : Nat → Nat → Int) (M : Nat → Nat) (V : Nat → Nat → Nat → Int) (i : Nat) : nestF 1 s A M V i 0 = .int .i64 (A i 0) := rfl
theorem nestF11_1 (s : Nat) (A : Nat → Nat → Int) (M : Nat → Nat) (V : Nat → Nat → Nat → Int) (i : Nat) : nestF 1 s A M V i 1 = .row (M i) s (fun a b => .int .i64 (V i a b)) := rfl
theorem nestF_sh (k s : Nat) (A : Nat → Nat → Int) (M : Nat → Nat) (V : Nat → Nat → Nat → Int) (i : Nat) : (fun a j => nestF k s A M V (i + a) j) = nestF k s (fun a => A (i + a)) (fun a => M (i + a)) (fun a => V (i + a)) := rfl
theorem frzF_nest (d : Nat) (h : HS) (k s : Nat) (A : Nat → Nat → Int) (M : Nat → Nat) (V : Nat → Nat → Nat → Int) (i j : Nat) : frzF (d + 1) h (nestF k s A M V i j) = nestF k s A M V i j := by
  simp only [nestF]
  split <;> rfl
def rowN : SV → Nat
  | .row n _ _ => n
  | _ => 0
def rowC : SV → Nat → Nat → SV
  | .row _ _ f => f
  | _ => fun _ _ => .any
def nsA (f : Nat → Nat → SV) : Nat → Nat → Int := fun i j => iv (f i j)
def nsM (k : Nat) (f : Nat → Nat → SV) : Nat → Nat := fun i => rowN (f i k)
def nsV (k : Nat) (f : Nat → Nat → SV) : Nat → Nat → Nat → Int := fun i a b => iv (rowC (f i k) a b)
/-- A cell that is a slice of numbers. -/
def IsR (s : Nat) : SV → Prop
  | .row m s' g => (s' = s ∨ m = 0) ∧ IntR m s g
  | _ => False
def NestR (n sz k s : Nat) (f : Nat → Nat → SV) : Prop := ∀ i, i < n → (∀ j, j < sz → j ≠ k → f i j = .int .i64 (iv (f i j))) ∧ (k < sz → IsR s (f i k))
theorem nestR_lit (n sz k s : Nat) (A : Nat → Nat → Int) (M : Nat → Nat) (V : Nat → Nat → Nat → Int) : NestR n sz k s (nestF k s A M V) = True :=
  eq_true fun i _ => ⟨fun j _ hj => by simp [nestF, hj, iv], fun _ => by simp only [nestF, if_true, IsR]; exact ⟨.inl trivial, fun a b _ _ => rfl⟩⟩
theorem nsM_lit (k s : Nat) (A : Nat → Nat → Int) (M : Nat → Nat) (V : Nat → Nat → Nat → Int) : nsM k (nestF k s A M V) = M := by
  funext i; simp [nsM, nestF, rowN]
theorem nsV_lit (k s : Nat) (A : Nat → Nat → Int) (M : Nat → Nat) (V : Nat → Nat → Nat → Int) : nsV k (nestF k s A M V) = V := by
  funext i a b; simp [nsV, nestF, rowC, iv]
theorem nsA_lit {k s : Nat} {A : Nat → Nat → Int} {M : Nat → Nat} {V : Nat → Nat → Nat → Int} (i : Nat) {j : Nat} (h : j ≠ k) : nsA (nestF k s A M V) i j = A i j := by
  simp [nsA, nestF, iv, h]
theorem isR_same {s : Nat} {x : SV} (h : IsR s x) : SameD x (.row (rowN x) s (fun a b => .int .i64 (iv (rowC x a b)))) := by
  cases x <;> first | exact h.elim | skip
  rename_i m s' g
  obtain ⟨h1, h2⟩ := h
  rcases h1 with rfl | rfl
  · exact SameD.int h2
  · exact SameD.row0
theorem SameD.nest {n sz k s : Nat} {f : Nat → Nat → SV} (h : NestR n sz k s f) : SameD (.row n sz f) (.row n sz (nestF k s (nsA f) (nsM k f) (nsV k f))) := by
  refine SameD.row fun i j hi hj => ?_
  obtain ⟨h1, h2⟩ := h i hi
  simp only [nestF, nsA, nsM, nsV]
  split
  · rename_i e; subst e
    exact isR_same (h2 hj)
  · rename_i e
    rw [h1 j hj e]
    exact SameD.rfl' _
theorem nest_bd {n sz k s : Nat} {f : Nat → Nat → SV} (h : NestR n sz k s f) (i j : Nat) (hi : i < n) (hj : j < sz) : Bd 0 0 (f i j) := by
  obtain ⟨h1, h2⟩ := h i hi
  by_cases e : j = k
  · subst e
    have := h2 hj
    generalize f i j = x at this
    cases x <;> first | exact this.elim | skip
    rename_i m s' g
    obtain ⟨h3, h4⟩ := this
    simp only [Bd]
    intro a b ha hb
    rcases h3 with rfl | rfl
    · rw [h4 a b ha hb]; trivial
    · omega
  · rw [h1 j hj e]; trivial
theorem nestF_bd1 (L K k s : Nat) (A : Nat → Nat → Int) (M : Nat → Nat) (V : Nat → Nat → Nat → Int) (i j : Nat) : Bd L K (nestF k s A M V i j) := by
  simp only [nestF]
  split
  · simp only [Bd]
    exact fun _ _ _ _ => trivial
  · trivial
theorem nestF_bd (L K n sz k s : Nat) (A : Nat → Nat → Int) (M : Nat → Nat) (V : Nat → Nat → Nat → Int) : ∀ i j, i < n → j < sz → Bd L K (nestF k s A M V i j) := fun i j _ _ => by
  simp only [nestF]
  split
  · simp only [Bd]
    exact fun _ _ _ _ => trivial
  · trivial
/-- The literals of a sample: each element is told. -/
theorem nestR_of {n sz k s : Nat} {f : Nat → Nat → SV} (h : ∀ i, i < n → (∀ j, j < sz → j ≠ k → f i j = .int .i64 (iv (f i j))) ∧ (k < sz → IsR s (f i k))) : NestR n sz k s f := h
/-- Out of the shapes of a law's argument. -/
theorem nestR_typ {n sz k s : Nat} {f : Nat → Nat → SV} {e : List Sh} (he : ∀ j, j < sz → j ≠ k → e[j]? = some (.int .i64)) (hk : e[k]? = some (.sl (List.replicate s (.int .i64))))
    (h : ∀ i j sh, i < n → e[j]? = some sh → Typ sh (f i j)) : NestR n sz k s f ∧ (∀ i j, i < n → j < sz → j ≠ k → (Lit.int .i64 (nsA f i j)).wf = true) ∧ (∀ i, i < n → nsM k f i ≤ maxLen) ∧ ∀ i a b, i < n → a < nsM k f i → b < s → (Lit.int .i64 (nsV k f i a b)).wf = true := by
  have h1 : ∀ i j, i < n → j < sz → j ≠ k → f i j = .int .i64 (iv (f i j)) ∧ (Lit.int .i64 (iv (f i j))).wf = true := fun i j hi hj hjk => by
    obtain ⟨x, hx, hw⟩ := typ_int (h i j _ hi (he j hj hjk))
    rw [hx]; exact ⟨rfl, hw⟩
  have h2 : ∀ i, i < n → ∃ m g, f i k = .row m s g ∧ m ≤ maxLen ∧ IntR m s g ∧ ∀ a b, a < m → b < s → (Lit.int .i64 (iv (g a b))).wf = true := fun i hi => by
    obtain ⟨m, g, hx, hm, ht⟩ := typ_sl (h i k _ hi hk)
    obtain ⟨q1, q2⟩ := intK_of_typ rfl ht
    exact ⟨m, g, by rw [hx, List.length_replicate], hm, fun a b ha hb => q1 a b ha hb, q2⟩
  refine ⟨fun i hi => ⟨fun j hj hjk => (h1 i j hi hj hjk).1, fun _ => ?_⟩, fun i j hi hj hjk => (h1 i j hi hj hjk).2, fun i hi => ?_, fun i a b hi ha hb => ?_⟩
  · obtain ⟨m, g, hx, _, h3, _⟩ := h2 i hi
    rw [hx]; exact ⟨.inl rfl, h3⟩
  · obtain ⟨m, g, hx, h3, _⟩ := h2 i hi
    simp only [nsM, hx, rowN]; exact h3
  · obtain ⟨m, g, hx, _, _, h3⟩ := h2 i hi
    simp only [nsM, nsV, hx, rowN, rowC] at ha ⊢
    exact h3 a b ha hb
theorem wf_u8 {x : Int} (h : (Lit.int IntKind.u8 x).wf = true) : 0 ≤ x ∧ x ≤ 255 := by
  simp [Lit.wf, IntKind.min, IntKind.max, IntKind.signed, IntKind.bits] at h
  omega
theorem wf_u16 {x : Int} (h : (Lit.int IntKind.u16 x).wf = true) : 0 ≤ x ∧ x ≤ 65535 := by
  simp [Lit.wf, IntKind.min, IntKind.max, IntKind.signed, IntKind.bits] at h
  omega
theorem wf_u32 {x : Int} (h : (Lit.int IntKind.u32 x).wf = true) : 0 ≤ x ∧ x ≤ 4294967295 := by
  simp [Lit.wf, IntKind.min, IntKind.max, IntKind.signed, IntKind.bits] at h
  omega
theorem tmod_nat {i z : Nat} : (i : Int).tmod (z : Int) = ((i % z : Nat) : Int) := by
  rw [Int.tmod_eq_emod_of_nonneg (by omega)]; rfl
/- Closed rows, checked. -/
def isI64 : SV → Bool
  | .int .i64 _ => true
  | _ => false
theorem isI64_eq {x : SV} (h : isI64 x = true) : x = .int .i64 (iv x) := by
  cases x <;> first | (cases h; done) | skip
  rename_i k n
  cases k <;> first | rfl | cases h
def allB (p : Nat → Bool) : Nat → Bool
  | 0 => true
  | n + 1 => allB p n && p n
theorem allB_get {p : Nat → Bool} : ∀ {n : Nat}, allB p n = true → ∀ i, i < n → p i = true
  | 0, _, i, hi => absurd hi (by omega)
  | n + 1, h, i, hi => by
    simp only [allB, Bool.and_eq_true] at h
    rcases Nat.lt_or_ge i n with h1 | h1
    · exact allB_get h.1 i h1
    · obtain rfl : i = n := by omega
      exact h.2
def intRb (n sz : Nat) (f : Nat → Nat → SV) : Bool := allB (fun i => allB (fun j => isI64 (f i j)) sz) n
theorem intRb_ok {n sz : Nat} {f : Nat → Nat → SV} (h : intRb n sz f = true) : IntR n sz f := fun i j hi hj => isI64_eq (allB_get (allB_get h i hi) j hj)
def isRb (s : Nat) : SV → Bool
  | .row m s' g => (s' == s || m == 0) && intRb m s g
  | _ => false
theorem isRb_ok {s : Nat} {x : SV} (h : isRb s x = true) : IsR s x := by
  cases x <;> first | (cases h; done) | skip
  simp only [isRb, Bool.and_eq_true, Bool.or_eq_true, beq_iff_eq] at h
  exact ⟨h.1, intRb_ok h.2⟩
def nestRb (n sz k s : Nat) (f : Nat → Nat → SV) : Bool := allB (fun i => allB (fun j => if j == k then isRb s (f i j) else isI64 (f i j)) sz) n
theorem nestRb_ok {n sz k s : Nat} {f : Nat → Nat → SV} (h : nestRb n sz k s f = true) : NestR n sz k s f := fun i hi => by
  have h1 := allB_get h i hi
  refine ⟨fun j hj hjk => ?_, fun hk => ?_⟩
  · have := allB_get h1 j hj
    rw [if_neg (by simpa using hjk)] at this
    exact isI64_eq this
  · have := allB_get h1 k hk
    rw [if_pos (by simp)] at this
    exact isRb_ok this
theorem spl_f {q : Bool} {A B : Prop} (h : q = false) (hb : B) : spl q A B := ⟨fun e => by (rw [h] at e; cases e), fun _ => hb⟩
theorem spl_t {q : Bool} {A B : Prop} (h : q = true) (ha : A) : spl q A B := ⟨fun _ => ha, fun e => by (rw [h] at e; cases e)⟩
end Go.Eng
end

/- An own slice that is given away is foreign from then on. -/
section
namespace Go.Eng
open Go Go.RowKit Go.Proofs
/-- A call that is given an own slice for good. -/
theorem calls_give {P : Program} {g : Nat} {l1 l2 : List SV} {h : HS} {K : Out → HS → Prop} {id ver ty sz n f} (hg : getV h.vecs id = .live ver ty sz n f)
    (hc : CallsS P g (l1 ++ .row n sz f :: l2) { h with vecs := setV h.vecs id .dead } K) : CallsS P g (l1 ++ .vec id ver :: l2) h K := fun E w vals hr hd => by
  have hx := give_ext E id w
  refine (hc (E.give id) w vals (give_rel hr id) ⟨by rw [hd.1]; simp, fun i x u hy hu => ?_⟩).mono ?_
  · rcases Nat.lt_trichotomy i l1.length with hi | hi | hi
    · rw [List.getElem?_append_left hi] at hy
      exact (hd.2 i x u (by rw [List.getElem?_append_left hi]; exact hy) hu).ext hx
    · subst hi
      rw [List.getElem?_append_right (Nat.le_refl _)] at hy
      simp only [Nat.sub_self, List.getElem?_cons_zero, Option.some.injEq] at hy
      subst hy
      exact give_den hr hg (hd.2 l1.length _ u (by rw [List.getElem?_append_right (Nat.le_refl _)]; simp) hu)
    · rw [List.getElem?_append_right (by omega)] at hy
      obtain ⟨k, hk⟩ : ∃ k, i - l1.length = k + 1 := ⟨i - l1.length - 1, by omega⟩
      rw [hk, List.getElem?_cons_succ] at hy
      exact (hd.2 i x u (by rw [List.getElem?_append_right (by omega), hk, List.getElem?_cons_succ]; exact hy) hu).ext hx
  · rintro e w' ⟨o, h', E', q, r1, r2, r3⟩
    exact ⟨o, h', E', q, r1, hx.trans r2, r3⟩
/-- A call from a memory of which more is known. -/
theorem calls_pre {P : Program} {g : Nat} {args args' : List SV} {h h' : HS} {K : Out → HS → Prop} (hs : SubS args h (args', h')) (hB : lenB h'.blks = lenB h.blks) (hV : lenV h'.vecs = lenV h.vecs) (hc : CallsS P g args' h' K) : CallsS P g args h K := fun E w vals hr hd => by
  obtain ⟨g1, g2⟩ := hs.go hd hr E.nb E.nv (hB.trans hr.nb.symm) (hV.trans hr.nv.symm) (Nat.le_refl _) (Nat.le_refl _)
  exact hc E w vals g2 g1
end Go.Eng
end

/- A call whose arguments are lent, whatever it ends with. -/
section
namespace Go.Eng
open Go Go.RowKit Go.Proofs
/-- Numbers come back, or numbers in an interface are what it panics with. -/
def FlO : Out → Prop
  | .ret u => Fl u
  | .pan (.iface _ v) => Fl1 v
  | _ => False
theorem calls_lend {P : Program} {g : Nat} {args : List SV} {h : HS} {K : Out → Prop} (hb : BdL 0 0 (frzA h args)) (hc : CallsS P g (frzA h args) ⟨[], []⟩ (fun o _ => FlO o ∧ K o)) : CallsS P g args h (fun o h' => K o ∧ h' = h) := by
  intro E w vals hr hd
  refine (hc E.lent w vals (lent_rel hr) (frzA_den hr hd hb)).mono ?_
  rintro e w' ⟨o, h', E', ⟨hf, hk⟩, hr', hx, hout⟩
  obtain ⟨hkeep, hx2⟩ := lent_back hr hx
  refine ⟨o, h, E, ⟨hk, rfl⟩, hr.quiet hx2 hkeep, hx2, ?_⟩
  cases o with
  | ret u =>
    cases e with
    | returned val => exact Fl.den hf hout
    | panicked _ => exact hout.elim
    | outgrown => exact hout.elim
  | pan v =>
    cases e with
    | returned val => exact hout.elim
    | outgrown => exact hout.elim
    | panicked ch =>
      obtain ⟨val, h1, h2⟩ := hout
      refine ⟨val, h1, ?_⟩
      cases h2 with
      | @iface t x v h => exact .iface (Fl1.den hf h)
      | _ => exact hf.elim
  | fin p ts => cases e <;> exact hout.elim
  | stop k t => cases e <;> exact hout.elim
end Go.Eng
end

/- A slice of one list of lists; contracts of which one or the other fits. -/
section
namespace Go.Eng
open Go Go.RowKit Go.Proofs
def oneM (f : Nat → Nat → SV) : Nat := rowN (f 0 0)
def oneC (f : Nat → Nat → SV) : Nat → Nat → SV := rowC (f 0 0)
def OneN (f : Nat → Nat → SV) : Prop := f 0 0 = .row (oneM f) 1 (oneC f) ∧ NestR (oneM f) 1 0 1 (oneC f)
theorem SameD.one {f : Nat → Nat → SV} (h : OneN f) : SameD (.row 1 1 f) (.row 1 1 (oneF [.row (oneM f) 1 (nestF 0 1 (nsA (oneC f)) (nsM 0 (oneC f)) (nsV 0 (oneC f)))])) := by
  refine SameD.rowD fun i j hi hj => ?_
  obtain rfl : i = 0 := by omega
  obtain rfl : j = 0 := by omega
  rw [h.1]
  exact SameD.nest h.2
theorem one_bd {f : Nat → Nat → SV} (h : OneN f) (i j : Nat) (hi : i < 1) (hj : j < 1) : Bd 0 0 (f i j) := by
  obtain rfl : i = 0 := by omega
  obtain rfl : j = 0 := by omega
  rw [h.1]
  exact nest_bd h.2
def orB (a b : BaseF) : BaseF := fun args => match a args with
  | some r => some r
  | none => b args
theorem orB_base {P : Program} {g : Nat} {a b : BaseF} (ha : Base P g a) (hb : Base P g b) : Base P g (orB a b) := fun args p v h hp => by
  unfold orB at h
  split at h
  · rename_i r hr
    cases h
    exact ha args p v hr hp
  · exact hb args p v h hp
theorem oneN_lit (h : HS) (k m : Nat) (B : Nat → Nat → Int) (K : Nat → Nat) (W : Nat → Nat → Nat → Int) : OneN (fun _ j => frzF (k + 1) h (nth [.row m 1 (nestF 0 1 B K W)] j)) = True :=
  eq_true ⟨rfl, nestR_lit m 1 0 1 B K W ▸ trivial⟩
theorem oneM_lit (h : HS) (k m : Nat) (B : Nat → Nat → Int) (K : Nat → Nat) (W : Nat → Nat → Nat → Int) : oneM (fun _ j => frzF (k + 1) h (nth [.row m 1 (nestF 0 1 B K W)] j)) = m := rfl
theorem oneC_lit (h : HS) (k m : Nat) (B : Nat → Nat → Int) (K : Nat → Nat) (W : Nat → Nat → Nat → Int) : oneC (fun _ j => frzF (k + 1) h (nth [.row m 1 (nestF 0 1 B K W)] j)) = nestF 0 1 B K W := rfl
end Go.Eng
end

/- A call that is handed nothing of the caller's own: what it leaves behind is the caller's own, by names behind the others. -/
section
namespace Go.Eng
open Go.RowKit
set_option linter.unusedVariables false
def appB (b v : Nat → Nat) : List Blk → List Blk → List Blk
  | [], [] => []
  | [], x :: k => renK b v x :: appB b v [] k
  | x :: l, k => x :: appB b v l k
def appV (b v : Nat → Nat) : List Vc → List Vc → List Vc
  | [], [] => []
  | [], x :: k => renC b v x :: appV b v [] k
  | x :: l, k => x :: appV b v l k
theorem lenB_app (b v : Nat → Nat) : ∀ (l k : List Blk), lenB (appB b v l k) = lenB l + lenB k
  | [], [] => by simp [appB, lenB]
  | [], x :: k => by simp only [appB, lenB, lenB_app b v [] k]; omega
  | x :: l, k => by simp only [appB, lenB, lenB_app b v l k]; omega
theorem lenV_app (b v : Nat → Nat) : ∀ (l k : List Vc), lenV (appV b v l k) = lenV l + lenV k
  | [], [] => by simp [appV, lenV]
  | [], x :: k => by simp only [appV, lenV, lenV_app b v [] k]; omega
  | x :: l, k => by simp only [appV, lenV, lenV_app b v l k]; omega
theorem getB_app (b v : Nat → Nat) : ∀ (l k : List Blk) (n : Nat), getB (appB b v l k) n = if n < lenB l then getB l n else renK b v (getB k (n - lenB l))
  | [], [], n => by simp [appB, getB, lenB, renK]
  | [], x :: k, 0 => by simp [appB, getB, lenB]
  | [], x :: k, n + 1 => by
    have := getB_app b v [] k n
    simp only [lenB, Nat.not_lt_zero, if_false, Nat.sub_zero] at this ⊢
    simp only [appB, getB, this]
  | x :: l, k, 0 => by simp [appB, getB, lenB]
  | x :: l, k, n + 1 => by
    simp only [appB, getB, getB_app b v l k n, lenB, Nat.add_lt_add_iff_right, Nat.add_sub_add_right]
theorem getV_app (b v : Nat → Nat) : ∀ (l k : List Vc) (n : Nat), getV (appV b v l k) n = if n < lenV l then getV l n else renC b v (getV k (n - lenV l))
  | [], [], n => by simp [appV, getV, lenV, renC]
  | [], x :: k, 0 => by simp [appV, getV, lenV]
  | [], x :: k, n + 1 => by
    have := getV_app b v [] k n
    simp only [lenV, Nat.not_lt_zero, if_false, Nat.sub_zero] at this ⊢
    simp only [appV, getV, this]
  | x :: l, k, 0 => by simp [appV, getV, lenV]
  | x :: l, k, n + 1 => by
    simp only [appV, getV, getV_app b v l k n, lenV, Nat.add_lt_add_iff_right, Nat.add_sub_add_right]
def tagU (L M : Nat) (old new : Option Tag) : Option Tag :=
  match old with
  | some t => some t
  | none => match new with
    | some (.blk i) => some (.blk (i + L))
    | some (.vec i) => some (.vec (i + M))
    | some .other => some .other
    | none => none
/-- The caller's ghost and the callee's, one behind the other. -/
def Env.grow (E E0 : Env) : Env :=
  { nb := E0.nb + E.nb, rho := fun i => if i < E.nb then E.rho i else E0.rho (i - E.nb), nv := E0.nv + E.nv, val := fun i ver => if i < E.nv then E.val i ver else E0.val (i - E.nv) ver, own := fun k => tagU E.nb E.nv (E.own k) (E0.own k) }
theorem calls_grow {P : Program} {g : Nat} {args : List SV} {K0 : Out → HS → Prop} (hc : CallsS P g args ⟨[], []⟩ K0) (ba : BdL 0 0 args)
    (hK : ∀ o h', K0 o h' → bdB (lenB h'.blks) (lenV h'.vecs) h'.blks ∧ bdV (lenB h'.blks) (lenV h'.vecs) h'.vecs ∧ bdO (lenB h'.blks) (lenV h'.vecs) o) (h : HS) :
    CallsS P g args h (fun o h' => ∃ o0 h0', K0 o0 h0' ∧ o = renO (· + lenB h.blks) (· + lenV h.vecs) o0 ∧ h' = ⟨appB (· + lenB h.blks) (· + lenV h.vecs) h.blks h0'.blks, appV (· + lenB h.blks) (· + lenV h.vecs) h.vecs h0'.vecs⟩) := by
  intro E w vals hr hd
  have hd' : DenA E.sub w args vals := ⟨hd.1, fun i x u hx hu => (hd.2 i x u hx hu).turn (BdL_get ba i x hx) (fun nm hn => by simp [Env.sub] at hn) (fun id ver y hi => by simp [Env.sub] at hi)
    (fun b _ ho => by simp [Env.sub, ho])⟩
  refine (hc E.sub w vals (sub_rel hr) hd').mono ?_
  rintro e w' ⟨o, h', E', hk, hr', hx, hout⟩
  obtain ⟨k3, k4, k5⟩ := hK o h' hk
  have e1 : E'.nb = lenB h'.blks := hr'.nb
  have e2 : E'.nv = lenV h'.vecs := hr'.nv
  rw [← hr.nb, ← hr.nv]
  have kept : ∀ k t, E.own k = some t → w'.heap[k]? = w.heap[k]? ∧ (E.grow E').own k = E.own k ∧ E'.own k = some .other := fun k t ho => by
    obtain ⟨q1, q2⟩ := hx.oth k (by simp [Env.sub, ho])
    exact ⟨q2, by simp [Env.grow, ho, tagU], q1⟩
  have free : ∀ k, E'.own k = none → E.own k = none := fun k ho => by
    cases hE : E.own k with
    | none => rfl
    | some t => rw [(kept k t hE).2.2] at ho; cases ho
  have hxG : Ext E w (E.grow E') w' := by
    refine ⟨hx.os, hx.tape, hx.output, hx.size, by simp [Env.grow], by simp [Env.grow], fun nm hn => by simp [Env.grow, hn], fun id ver x hi hv => by simp [Env.grow, hi, hv], fun k hk ho => ?_, fun k ho => ?_⟩
    · obtain ⟨q1, q2⟩ := hx.keep k hk (by simp [Env.sub, ho])
      exact ⟨by simp [Env.grow, ho, q1, tagU], q2⟩
    · obtain ⟨q1, q2, _⟩ := kept k _ ho
      exact ⟨by rw [q2, ho], q1⟩
  have up := fun (x : SV) (u : Value) (hd : Den E' w' x u) (hb : Bd (lenB h'.blks) (lenV h'.vecs) x) =>
    Den.ren (E := E.grow E') (E0 := E') (b := (· + E.nb)) (v := (· + E.nv)) hd hb (fun nm hn _ => ⟨by simp only [Env.grow]; omega, by simp only [Env.grow]; rw [if_neg (by omega), Nat.add_sub_cancel]⟩) (fun id ver y hi _ hy => ⟨by simp only [Env.grow]; omega, by simp only [Env.grow]; rw [if_neg (by omega), Nat.add_sub_cancel]; exact hy⟩)
      (fun k _ hk => by simp [Env.grow, free k hk, hk, tagU])
  have upL := fun (l : List SV) (us : Array Value) (hd : DenA E' w' l us) (hb : BdL (lenB h'.blks) (lenV h'.vecs) l) => (show DenA (E.grow E') w' (renL (· + E.nb) (· + E.nv) l) us from
    ⟨by rw [hd.1, renL_eq]; simp, fun i x u hx hu => by
      rw [renL_eq, List.getElem?_map, Option.map_eq_some_iff] at hx
      obtain ⟨y, hy, rfl⟩ := hx
      exact up y u (hd.2 i y u hy hu) (BdL_get hb i y hy)⟩)
  have new : ∀ k t, E'.own k = some t → (match t with | .other => False | _ => True) → E.own k = none := fun k t ho ht => by
    cases hE : E.own k with
    | none => rfl
    | some t' => rw [(kept k t' hE).2.2] at ho; cases ho; exact ht.elim
  have gown : ∀ i, E'.own (E'.rho i) = some (.blk i) → (E.grow E').own (E'.rho i) = some (.blk (i + E.nb)) := fun i ho => by
    have := new _ _ ho trivial
    simp [Env.grow, ho, this, tagU]
  refine ⟨renO (· + E.nb) (· + E.nv) o, _, E.grow E', ⟨o, h', hk, rfl, rfl⟩, ?_, hxG, ?_⟩
  · have gBp := getB_app (· + E.nb) (· + E.nv) h.blks h'.blks
    have gVp := getV_app (· + E.nb) (· + E.nv) h.vecs h'.vecs
    have hnb := hr.nb
    have hnv := hr.nv
    refine ⟨by rw [lenB_app]; simp only [Env.grow]; omega, by rw [lenV_app]; simp only [Env.grow]; omega, ?_, ?_, ?_, ?_, ?_⟩
    · intro nm ty c hg
      simp only at hg
      rw [gBp] at hg
      split at hg
      · rename_i hlt
        obtain ⟨cs, a1, a2, a3, a4⟩ := hr.blk _ _ _ hg
        obtain ⟨f1, f2, _⟩ := kept _ _ a4
        have hr0 : (E.grow E').rho nm = E.rho nm := by simp only [Env.grow]; rw [if_pos (by omega)]
        exact ⟨cs, by rw [hr0]; exact f1.trans a1, a2.ext hxG, a3, by rw [hr0]; exact f2.trans a4⟩
      · rename_i hlt
        have hr0 : (E.grow E').rho nm = E'.rho (nm - lenB h.blks) := by simp only [Env.grow]; rw [if_neg (by omega), hnb]
        cases hb : getB h'.blks (nm - lenB h.blks) with
        | live ty' c' =>
          rw [hb] at hg
          simp only [renK, Blk.live.injEq] at hg
          obtain ⟨rfl, rfl⟩ := hg
          obtain ⟨cs, a1, a2, a3, a4⟩ := hr'.blk _ _ _ hb
          refine ⟨cs, by rw [hr0]; exact a1, upL c' cs a2 (bdB_get k3 hb), a3, ?_⟩
          rw [hr0, gown _ a4, hnb]
          congr 2
          omega
        | dead => rw [hb] at hg; simp [renK] at hg
        | loop => rw [hb] at hg; simp [renK] at hg
        | mp => rw [hb] at hg; simp [renK] at hg
    · intro id ver ty sz n f hg
      simp only at hg
      rw [gVp] at hg
      split at hg
      · rename_i hlt
        obtain ⟨c0, ⟨a, cap, l1, l2⟩, l3⟩ := hr.vec _ _ _ _ _ _ hg
        have hval : ∀ ver, (E.grow E').val id ver = E.val id ver := fun ver => by simp only [Env.grow]; rw [if_pos (by omega)]
        exact ⟨c0, ⟨a, cap, by rw [hval]; exact l1, l2.ext hxG (fun g hg => ⟨(kept g _ hg).1, (kept g _ hg).2.1⟩)⟩, fun v' hv' => by rw [hval]; exact l3 v' hv'⟩
      · rename_i hlt
        have hval : ∀ ver, (E.grow E').val id ver = E'.val (id - lenV h.vecs) ver := fun ver => by simp only [Env.grow]; rw [if_neg (by omega), hnv]
        cases hb : getV h'.vecs (id - lenV h.vecs) with
        | live ver' ty' sz' n' f' =>
          rw [hb] at hg
          simp only [renC, Vc.live.injEq] at hg
          obtain ⟨rfl, rfl, rfl, rfl, rfl⟩ := hg
          obtain ⟨c0, ⟨a, cap, l1, l2⟩, l3⟩ := hr'.vec _ _ _ _ _ _ hb
          refine ⟨c0, ⟨a, cap, by rw [hval]; exact l1, ?_⟩, fun v' hv' => by rw [hval]; exact l3 v' hv'⟩
          rcases l2 with hk | ⟨g1, cur, p1, p2, p3, p4, p5, p6, p7, p8⟩
          · exact .inl hk
          · refine .inr ⟨g1, cur, p1, p2, p3, p4, p5, ?_, p7, fun a j u hi hj hu => up _ _ (p8 a j u hi hj hu) (bdV_get k4 hb a j hi hj)⟩
            have := new _ _ p6 trivial
            simp only [Env.grow, this, p6, tagU]
            congr 2
            omega
        | dead => rw [hb] at hg; simp [renC] at hg
    · intro k t hk
      simp only [Env.grow] at hk
      cases hE : E.own k with
      | some t' => exact Nat.lt_of_lt_of_le (hr.own k t' hE) hx.size
      | none =>
        cases hE' : E'.own k with
        | none => rw [hE, hE'] at hk; simp [tagU] at hk
        | some t' => exact hr'.own k t' hE'
    · intro nm st pend fid t params assign body hg
      simp only at hg
      rw [gBp] at hg
      split at hg
      · rename_i hlt
        have hr0 : (E.grow E').rho nm = E.rho nm := by simp only [Env.grow]; rw [if_pos (by omega)]
        exact (hr.lp _ _ _ _ _ _ _ _ hg).ext hxG (fun ho => ⟨hr0, (kept _ _ ho).1, (kept _ _ ho).2.1⟩)
      · rename_i hlt
        have hr0 : (E.grow E').rho nm = E'.rho (nm - lenB h.blks) := by simp only [Env.grow]; rw [if_neg (by omega), hnb]
        cases hb : getB h'.blks (nm - lenB h.blks) with
        | loop st' pend' fid' t' params' assign' body' =>
          rw [hb] at hg
          simp only [renK, Blk.loop.injEq] at hg
          obtain ⟨rfl, rfl, rfl, rfl, rfl, rfl, rfl⟩ := hg
          obtain ⟨tmps, db, a1, a2, a3⟩ := hr'.lp _ _ _ _ _ _ _ _ hb
          refine ⟨tmps, db, by rw [hr0]; exact a1, upL t' tmps a2 (bdB_getL k3 hb), ?_⟩
          rw [hr0, gown _ a3, hnb]
          congr 2
          omega
        | dead => rw [hb] at hg; simp [renK] at hg
        | live => rw [hb] at hg; simp [renK] at hg
        | mp => rw [hb] at hg; simp [renK] at hg
    · intro nm m hg
      simp only at hg
      rw [gBp] at hg
      split at hg
      · rename_i hlt
        have hr0 : (E.grow E').rho nm = E.rho nm := by simp only [Env.grow]; rw [if_pos (by omega)]
        exact (hr.mp _ _ hg).ext (fun ho => ⟨hr0, (kept _ _ ho).1, (kept _ _ ho).2.1⟩)
      · rename_i hlt
        have hr0 : (E.grow E').rho nm = E'.rho (nm - lenB h.blks) := by simp only [Env.grow]; rw [if_neg (by omega), hnb]
        cases hb : getB h'.blks (nm - lenB h.blks) with
        | mp m' =>
          rw [hb] at hg
          simp only [renK, Blk.mp.injEq] at hg
          subst hg
          obtain ⟨es, clock, a1, a2, a3⟩ := hr'.mp _ _ hb
          refine ⟨es, clock, by rw [hr0]; exact a1, ?_, a3⟩
          rw [hr0, gown _ a2, hnb]
          congr 2
          omega
        | dead => rw [hb] at hg; simp [renK] at hg
        | live => rw [hb] at hg; simp [renK] at hg
        | loop => rw [hb] at hg; simp [renK] at hg
  · cases o with
    | ret v =>
      cases e with
      | returned val => exact up _ _ hout k5
      | panicked _ => exact hout.elim
      | outgrown => exact hout.elim
    | pan v =>
      cases e with
      | panicked chain => obtain ⟨val, h1, h2⟩ := hout; exact ⟨val, h1, up _ _ h2 k5⟩
      | returned _ => exact hout.elim
      | outgrown => exact hout.elim
    | _ => cases e <;> exact hout.elim
end Go.Eng
end
