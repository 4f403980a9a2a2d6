/-
  A part of the symbolic machine, of its soundness, and of what functions compute. No condition.
-/
import Derived.OpenShut
import Derived.Carry
import Derived.ChangeArms
import Derived.WideShapes
import Derived.WideWitness
import Derived.ProofKit
import Derived.SizedLaws
import Derived.Test.YtnccjojfpkjihaaE3
set_option linter.unusedSimpArgs false
set_option linter.unusedVariables false
/- From what the statement says of its arguments to symbolic values. -/
section
namespace Go.Eng
open Go Go.RowKit Go.ChangeShapes Go.WideShapes

/-- What a cell is: a number, a bool, or a slice of such cells. -/
inductive Sh where
  | int (k : IntKind)
  | bool
  | sl (e : List Sh)
def shF (P : Program) (rec : Nat → Option (List Sh)) : List Field → Nat → Option (List Sh)
  | [], _ => some []
  | f :: fs, off => if f.offset = off then match rec f.type with
    | some a => if a.length = P.cellsOf f.type then match shF P rec fs (off + a.length) with
      | some b => some (a ++ b)
      | none => none
      else none
    | none => none
    else none
def repS (s : List Sh) : Nat → List Sh
  | 0 => []
  | n + 1 => s ++ repS s n
def shT (P : Program) : Nat → Nat → Option (List Sh)
  | 0, _ => none
  | d + 1, t => match P.underlying t with
    | some (.int k) => some [.int k]
    | some .bool => some [.bool]
    | some (.slice e) => match shT P d e with
      | some s => if s.length = P.cellsOf e ∧ 0 < s.length then some [.sl s] else none
      | none => none
    | some (.struct fs) => match shF P (shT P d) fs.toList 0 with
      | some s => if s.length = P.cellsOf t then some s else none
      | none => none
    | some (.array n e) => match shT P d e with
      | some s => if s.length = P.cellsOf e ∧ (repS s n).length = P.cellsOf t then some (repS s n) else none
      | none => none
    | _ => none
inductive Typ : Sh → SV → Prop
  | int {k : IntKind} {n : Int} (h : (Lit.int k n).wf = true) : Typ (.int k) (.int k n)
  | bool (b : Bool) : Typ .bool (.bool b)
  | sl {e : List Sh} {n : Nat} {f : Nat → Nat → SV} (hn : n ≤ maxLen) (h : ∀ i j sh, i < n → e[j]? = some sh → Typ sh (f i j)) : Typ (.sl e) (.row n e.length f)
def Env.emp : Env := { nb := 0, rho := id, nv := 0, val := fun _ _ => none, own := fun _ => none }
theorem emp_rel (w : World) : RelH Env.emp ⟨[], []⟩ w :=
  ⟨rfl, rfl, fun nm ty c h => by simp [getB] at h, fun id a b c d e h => by simp [getV] at h, fun b t hb => by simp [Env.emp] at hb, fun nm st pend fid t params assign body hb => by simp [getB] at hb, fun nm m hb => by simp [getB] at hb⟩
/-- Cells that read as shapes are denoted. -/
def CellsD (w : World) (shs : List Sh) (cs : List Value) : Prop :=
  cs.length = shs.length ∧ ∃ xs : List SV, xs.length = shs.length ∧ ∀ (j : Nat) (a : SV) (v : Value) (sh : Sh), xs[j]? = some a → cs[j]? = some v → shs[j]? = some sh → Den Env.emp w a v ∧ Typ sh a ∧ v.oneCell' = true
theorem CellsD.app {w : World} {s1 s2 : List Sh} {c1 c2 : List Value} (h1 : CellsD w s1 c1) (h2 : CellsD w s2 c2) : CellsD w (s1 ++ s2) (c1 ++ c2) := by
  obtain ⟨a1, x1, b1, d1⟩ := h1
  obtain ⟨a2, x2, b2, d2⟩ := h2
  refine ⟨by simp [a1, a2], x1 ++ x2, by simp [b1, b2], fun j a v sh ha hv hs => ?_⟩
  by_cases hj : j < s1.length
  · rw [List.getElem?_append_left (by omega)] at ha hv hs
    exact d1 j a v sh ha hv hs
  · rw [List.getElem?_append_right (by omega)] at ha hv hs
    rw [b1] at ha; rw [a1] at hv
    exact d2 _ a v sh ha hv hs
section
variable {H : Type} {enc : TypeId × Value → H} {P : Program} {w : World} {held : Bool}
theorem fields_ok {rec : Nat → Option (List Sh)} {n : Nat} {cs : List Value} (hrec : ∀ t s c x, rec t = some s → DataW.trod enc P w 0 (fun _ => true) held n t c = some x → CellsD w s c) :
    ∀ (fs : List Field) (off : Nat) (s : List Sh), shF P rec fs off = some s → (∀ (i : Nat) (f : Field), fs[i]? = some f → ∃ x, DataW.trod enc P w 0 (fun _ => true) held n f.type ((cs.drop f.offset).take (P.cellsOf f.type)) = some x) → CellsD w s ((cs.drop off).take s.length)
  | [], off, s, h, _ => by simp only [shF, Option.some.injEq] at h; subst h; exact ⟨by simp, [], rfl, fun j a v sh ha => by simp at ha⟩
  | f :: fs, off, s, h, hx => by
    simp only [shF] at h
    split at h
    · rename_i ho
      split at h
      · rename_i a ha
        split at h
        · rename_i hl
          split at h
          · rename_i b hb
            cases h
            obtain ⟨x, hx0⟩ := hx 0 f rfl
            have h1 := hrec _ _ _ _ ha hx0
            have h2 := fields_ok hrec fs _ _ hb (fun i f hf => hx (i + 1) f (by simpa using hf))
            rw [ho, ← hl] at h1
            have e : (cs.drop off).take (a ++ b).length = (cs.drop off).take a.length ++ (cs.drop (off + a.length)).take b.length := by
              rw [List.length_append, List.take_add, List.drop_drop]
            rw [e]
            exact h1.app h2
          · cases h
        · cases h
      · cases h
    · cases h
theorem arr_ok {s : List Sh} {cs : List Value} : ∀ (n off : Nat), (∀ i, i < n → CellsD w s ((cs.drop (off + i * s.length)).take s.length)) → CellsD w (repS s n) ((cs.drop off).take (repS s n).length)
  | 0, off, _ => ⟨by simp [repS], [], rfl, fun j a v sh ha => by simp at ha⟩
  | n + 1, off, h => by
    have h1 := h 0 (by omega)
    have h2 := arr_ok n (off + s.length) (fun i hi => by have := h (i + 1) (by omega); rw [Nat.succ_mul] at this; rw [show off + s.length + i * s.length = off + (i * s.length + s.length) by omega]; exact this)
    have e : (cs.drop off).take (repS s (n + 1)).length = (cs.drop off).take s.length ++ (cs.drop (off + s.length)).take (repS s n).length := by
      simp only [repS]
      rw [List.length_append, List.take_add, List.drop_drop]
    rw [e]
    simp only [repS]
    exact CellsD.app (by simpa using h1) h2

theorem trod_den : ∀ (d : Nat) (t : Nat) (cs : List Value) (fuel : Nat) (x : DataW H × List MemPlace) (shs : List Sh), shT P d t = some shs → DataW.trod enc P w 0 (fun _ => true) held fuel t cs = some x → CellsD w shs cs := by
  intro d
  induction d with
  | zero => intro t cs fuel x shs h; simp [shT] at h
  | succ d ih =>
    intro t cs fuel x shs h hx
    simp only [shT] at h
    have one : ∀ (a : SV) (v : Value) (sh : Sh), Den Env.emp w a v → Typ sh a → v.oneCell' = true → CellsD w [sh] [v] := fun a v sh h1 h2 h3 => ⟨rfl, [a], rfl, fun j b u s hb hu hs => by
      cases j with
      | zero => simp at hb hu hs; subst hb hu hs; exact ⟨h1, h2, h3⟩
      | succ j => simp at hb⟩
    split at h
    · rename_i k hk
      cases h
      obtain ⟨n, rfl, _, hw⟩ := DataW.trod_int hk hx
      exact one _ _ _ (.int k n) (.int hw) rfl
    · rename_i hk
      cases h
      obtain ⟨b, rfl, _⟩ := DataW.trod_bool hk hx
      exact one _ _ _ (.bool b) (.bool b) rfl
    · rename_i e hk
      split at h
      · rename_i s hs
        split at h
        · rename_i hl
          cases h
          rcases DataW.trod_slice hk hx with ⟨rfl, _⟩ | ⟨a, len, cap, elems, rest, n, _, rfl, _, _, hlc, hcap, hlen, hel, _, _⟩
          · exact one (.row 0 s.length fun _ _ => .any) _ _ (.rowZ _ _) (.sl (Nat.zero_le _) (fun i j sh hi => by omega)) rfl
          · by_cases h0 : len = 0
            · subst h0
              exact one (.row 0 s.length fun _ _ => .any) _ _ (.rowZ _ _) (.sl (Nat.zero_le _) (fun i j sh hi => by omega)) rfl
            · have hi : ∀ i, ∃ xs : List SV, i < len → xs.length = s.length ∧ ∀ (j : Nat) (sh : Sh), s[j]? = some sh → ∃ a' v, xs[j]? = some a' ∧ w.cell? (a.add (i * s.length + j)) = some v ∧ Den Env.emp w a' v ∧ Typ sh a' ∧ v.oneCell' = true := by
                intro i
                by_cases hil : i < len
                · have h1 := hel i hil
                  have h2 : elems[i]? = some (elems[i]'(by omega)) := List.getElem?_eq_getElem (by omega)
                  rw [h2] at h1
                  cases hc : w.cells? 0 (a.add (i * P.cellsOf e)) (P.cellsOf e) with
                  | none => rw [hc] at h1; cases h1
                  | some cs' =>
                    rw [hc] at h1
                    obtain ⟨q1, xs, q2, q3⟩ := ih e cs' n _ s hs h1
                    refine ⟨xs, fun _ => ⟨q2, fun j sh hj => ?_⟩⟩
                    have hjl : j < s.length := (List.getElem?_eq_some_iff.1 hj).1
                    obtain ⟨_, hcl, hat⟩ := World.cells?_some hc
                    have hcj := hat j (by omega)
                    have e1 : cs'[j]? = some (cs'[j]'(by omega)) := List.getElem?_eq_getElem (by omega)
                    have e2 : xs[j]? = some (xs[j]'(by omega)) := List.getElem?_eq_getElem (by omega)
                    obtain ⟨r1, r2, r3⟩ := q3 j _ _ sh e2 e1 hj
                    rw [e1] at hcj
                    have hadd : (a.add (i * P.cellsOf e)).add j = a.add (i * s.length + j) := by
                      rw [hl.1, Addr.add_add]
                    rw [hadd] at hcj
                    exact ⟨_, _, e2, hcj, r1, r2, r3⟩
                · exact ⟨[], fun h => absurd h hil⟩
              obtain ⟨F, hF⟩ := Classical.skolem.1 hi
              have hcell : ∀ i j, i < len → j < s.length → ∃ a' v, (F i)[j]? = some a' ∧ w.cell? (a.add (i * s.length + j)) = some v ∧ Den Env.emp w a' v ∧ v.oneCell' = true := fun i j hil hj => by
                obtain ⟨_, h2⟩ := hF i hil
                obtain ⟨a', v, k1, k2, k3, _, k5⟩ := h2 j _ (List.getElem?_eq_getElem hj)
                exact ⟨a', v, k1, k2, k3, k5⟩
              have hb : a.block < w.heap.size := by
                obtain ⟨_, v, _, k2, _⟩ := hcell 0 0 (by omega) hl.2
                have := block_of_cell k2
                rwa [add_block] at this
              refine one (.row len s.length fun i j => nth (F i) j) _ _ (.row a cap (fun i j => (w.cell? (a.add (i * s.length + j))).getD undef) hb rfl hlc (fun i j hi hj => ?_) (fun i j hi hj => ?_) (fun i j hi hj => ?_)) (.sl (by omega) (fun i j sh hil hj => ?_)) rfl
              · obtain ⟨_, v, _, k2, _⟩ := hcell i j hi hj
                rw [k2]; rfl
              · obtain ⟨_, v, _, k2, _, k5⟩ := hcell i j hi hj
                rw [k2]; exact k5
              · obtain ⟨a', v, k1, k2, k3, _⟩ := hcell i j hi hj
                rw [k2, nth_eq, List.getD, k1]; exact k3
              · obtain ⟨_, h2⟩ := hF i hil
                obtain ⟨a', v, k1, _, _, k4, _⟩ := h2 j sh hj
                rw [nth_eq, List.getD, k1]; exact k4
        · cases h
      · cases h
    · rename_i fs hk
      split at h
      · rename_i s hs
        split at h
        · rename_i hl
          cases h
          obtain ⟨xs, n, _, _, hlen, hxl, hg⟩ := DataW.trod_struct hk hx
          have := fields_ok (cs := cs) (n := n) (fun t s c x h1 h2 => ih t c n x s h1 h2) fs.toList 0 shs hs (fun i f hf => by
            have hf' : fs[i]? = some f := by simpa using hf
            have hil : i < xs.length := by rw [hxl]; exact (Array.getElem?_eq_some_iff.1 hf').1
            exact ⟨xs[i], by rw [hg i f hf']; exact List.getElem?_eq_getElem hil⟩)
          rw [List.drop_zero, hl, ← hlen, List.take_length] at this
          exact this
        · cases h
      · cases h
    · rename_i n e hk
      split at h
      · rename_i s hs
        split at h
        · rename_i hl
          cases h
          obtain ⟨xs, m, _, _, hlen, hxl, hg⟩ := DataW.trod_array hk hx
          have := arr_ok (w := w) (s := s) (cs := cs) n 0 (fun i hi => by
            have h1 := hg i hi
            have hil : i < xs.length := by omega
            rw [List.getElem?_eq_getElem hil] at h1
            rw [Nat.zero_add, hl.1]
            exact ih e _ m _ s hs h1)
          rw [List.drop_zero, hl.2, ← hlen, List.take_length] at this
          exact this
        · cases h
      · cases h
    · cases h

/-- How much room an argument takes. -/
theorem arg_room {r : Reach} {b : Nat} {t e : TypeId} {v : Value} {d : DataW H} {ps : List MemPlace} {n sz : Nat} {f : Nat → Nat → SV} {E : Env} {w' : World} (ht : P.underlying t = some (.slice e)) (hval : Value.okWide P w r b t v)
    (h : DataW.Trod enc P w 0 (fun _ => true) held t v d ps) (hd : Den E w' (.row n sz f) v) {ts : List TypeId} {ds : List (DataW H)} (hw : (DataW.weightsEach P ts ds).all (· ≤ reachBytes) = true) {j : Nat} (hj : ts[j]? = some t) (hdj : ds[j]? = some d) :
    n * P.bytesOf e ≤ reachBytes := by
  obtain ⟨a, len, cap, rfl⟩ := okWide_slice ht hval
  have hn : n = len := by cases hd <;> rfl
  subst hn
  obtain ⟨fuel, hf⟩ := h
  rcases DataW.trod_slice ht hf with ⟨h1, _⟩ | ⟨a', len', cap', elems, rest, m, _, h1, h2, _, _, _, hl, _⟩
  · have : n = 0 := by simp [Value.cells] at h1; exact h1.2.1
    subst this; simp
  · have h3 : n = len' := by simp [Value.cells] at h1; exact h1.2.1
    have h4 : d = .slice (elems.map (·.1)) (rest.map (·.1)) := congrArg Prod.fst h2
    have := sized_slice hw hj (by rw [hdj, h4]) ht
    simp only [List.length_map] at this
    refine Nat.le_trans (Nat.mul_le_mul_right _ ?_) this
    omega

/-- A struct, an array. -/
theorem arg_agg {r : Reach} {b : Nat} {t : TypeId} {fs : Array Field} {v : Value} {d : DataW H} {ps : List MemPlace} {shs : List Sh} (ht : P.underlying t = some (.struct fs)) (hs : shT P 12 t = some shs) (hval : Value.okWide P w r b t v) (h : DataW.Trod enc P w 0 (fun _ => true) held t v d ps) :
    ∃ xs : List SV, Den Env.emp w (.agg xs) v ∧ xs.length = shs.length ∧ ∀ (j : Nat) (a : SV) (sh : Sh), xs[j]? = some a → shs[j]? = some sh → Typ sh a := by
  obtain ⟨cs, rfl, hsz⟩ := okWide_struct ht hval
  obtain ⟨fuel, hf⟩ := h
  obtain ⟨q1, xs, q2, q3⟩ := trod_den 12 t _ fuel _ shs hs hf
  have hcl : (Value.agg cs).cells.toList = cs.toList := rfl
  rw [hcl] at q1 q3
  refine ⟨xs, .agg cs (by simpa [q2] using q1) (fun i u hu => ?_) (fun i x u hx hu => ?_), q2, fun j a sh ha hsh => ?_⟩
  · have hil : i < cs.size := (Array.getElem?_eq_some_iff.1 hu).1
    have h1 : i < shs.length := by rw [← q1]; simpa using hil
    exact (q3 i _ u _ (List.getElem?_eq_getElem (by omega)) (by simpa using hu) (List.getElem?_eq_getElem h1)).2.2
  · have hil : i < xs.length := (List.getElem?_eq_some_iff.1 hx).1
    exact (q3 i x u _ hx (by simpa using hu) (List.getElem?_eq_getElem (by omega))).1
  · have hil : j < cs.toList.length := by have := (List.getElem?_eq_some_iff.1 hsh).1; omega
    exact (q3 j a _ sh ha (List.getElem?_eq_getElem hil) hsh).2.1
theorem arg_row {r : Reach} {b : Nat} {t e : TypeId} {v : Value} {d : DataW H} {ps : List MemPlace} {s : List Sh} (ht : P.underlying t = some (.slice e)) (hs : shT P 12 t = some [.sl s]) (hval : Value.okWide P w r b t v) (h : DataW.Trod enc P w 0 (fun _ => true) held t v d ps) :
    ∃ (n : Nat) (f : Nat → Nat → SV), Den Env.emp w (.row n s.length f) v ∧ n ≤ maxLen ∧ ∀ i j sh, i < n → s[j]? = some sh → Typ sh (f i j) := by
  obtain ⟨a, len, cap, rfl⟩ := okWide_slice ht hval
  obtain ⟨fuel, hf⟩ := h
  obtain ⟨q1, xs, q2, q3⟩ := trod_den 12 t _ fuel _ _ hs hf
  match xs, q2 with
  | [x], _ =>
    obtain ⟨k1, k2, _⟩ := q3 0 x (.slice a len cap) (.sl s) rfl rfl rfl
    cases k2 with
    | @sl e n f hn hh => exact ⟨n, f, k1, hn, hh⟩

theorem trodAll_below {W W' : World} (hl : laidOutB P = true) (hb : Below W.heap.size W W') : ∀ {ts : List TypeId} {vs : List Value} {ds : List (DataW H)} {ps : List MemPlace}, (∀ t ∈ ts, P.readableRec t = true ∧ t < P.types.size) →
    DataW.TrodAll enc P W 0 (fun _ => true) true ts vs ds ps → (∀ x ∈ ps, x.block < W.heap.size) → DataW.TrodAll enc P W' 0 (fun b => decide (b < W.heap.size)) true ts vs ds ps
  | [], [], [], _, _, h, _ => h
  | t :: ts, v :: vs, d :: ds, ps, hr, ⟨p, q, h1, h2, e⟩, hlt => by
    subst e
    have := hr t (by simp)
    exact ⟨p, q, Below.trod hl this.1 this.2 h1 hb (fun x hx => hlt x (List.mem_append_left _ hx)), trodAll_below hl hb (fun t ht => hr t (List.mem_cons_of_mem _ ht)) h2 (fun x hx => hlt x (List.mem_append_right _ hx)), rfl⟩
end
/-- A law's end: it returned true, and of what was there nothing turned. -/
theorem law_end {H : Type} {enc : TypeId × Value → H} {P : Program} {f : Func} {s : ChangeSpec} {W W' : World} {args : Array Value} {ds gs : List (DataW H)} {before : List MemPlace} {tb : TypeId}
    (hl : laidOutB P = true) (hres : f.resultTypes = #[tb]) (htb : P.underlying tb = some .bool) (hpar : (f.params.toList.all fun t => P.readableRec t && decide (t < P.types.size)) = true) (hvars : s.vars = [])
    (hW : DataW.Whole enc P f.params.toList s.vars false W args.toList ds gs before) (hfn : s.fn H (ds ++ gs) = { results := [.lit (.bool true)], args := ds, vars := [] }) (hb : Below W.heap.size W W') :
    s.post enc P f false true false false W args (.bool true) W' := by
  have hW0 := hW
  obtain ⟨p, q, hA, hV, rfl, hfz, hnd⟩ := hW
  rw [hvars] at hV
  have hq : gs = [] ∧ q = [] := by
    cases gs with
    | nil => exact ⟨rfl, by simpa [DataW.TrodVars] using hV⟩
    | cons _ _ => simp [DataW.TrodVars] at hV
  obtain ⟨rfl, rfl⟩ := hq
  refine ⟨ds, [], p ++ [], [], p, [], hW0, ?_, ?_, ?_, hb.frame _, fun h => by cases h⟩
  · rw [hfn, hres]
    exact ⟨[], [], shut_bool htb true, rfl, rfl⟩
  · rw [hfn]
    exact trodAll_below hl hb (fun t ht => by have := List.all_eq_true.1 hpar t ht; simpa using this) hA (fun x hx => hW0.lt x (by simpa using hx))
  · rw [hfn, hvars]; rfl
theorem below_of {w w' : World} {E' : Env} (hx : Ext Env.emp w E' w') : Below w.heap.size w w' := ⟨hx.os, hx.tape, hx.output, hx.size, fun k hk => (hx.keep k hk rfl).2⟩
/-- The law's call, by its contract. -/
theorem law_calls {P : Program} {g : Nat} {base : List SV → Option (Prop × SV)} (hb : Base P g base) {args : List SV} {p : Prop} (hq : base args = some (p, .bool true)) (hp : p) {W : World} {vals : Array Value} (hd : DenA Env.emp W args vals) :
    Calls P g vals W fun e W' => e = .returned (.bool true) ∧ Below W.heap.size W W' := by
  obtain ⟨_, h2⟩ := hb _ _ _ hq hp
  refine (h2 Env.emp W vals (emp_rel W) hd).mono ?_
  rintro e w' ⟨o, h', E', ⟨u, rfl, hres⟩, hr', hx, hout⟩
  cases e with
  | panicked _ => exact hout.elim
  | outgrown => exact hout.elim
  | returned val =>
    rcases hres with ⟨hfl, hsd⟩ | hfz
    · have := hsd.out _ _ _ hout
      cases this
      exact ⟨rfl, below_of hx⟩
    · obtain ⟨rfl, _⟩ : u = .bool true ∧ Sc (.bool true) := hfz
      cases hout
      exact ⟨rfl, below_of hx⟩
def DenL (E : Env) (w : World) : List SV → List Value → Prop
  | [], [] => True
  | x :: l, v :: vs => Den E w x v ∧ DenL E w l vs
  | _, _ => False
theorem DenL.get {E : Env} {w : World} : ∀ {l : List SV} {vs : List Value}, DenL E w l vs → vs.length = l.length ∧ ∀ (i : Nat) (x : SV) (u : Value), l[i]? = some x → vs[i]? = some u → Den E w x u
  | [], [], _ => ⟨rfl, fun i x u h => by simp at h⟩
  | x :: l, v :: vs, h => by
    obtain ⟨h1, h2⟩ := DenL.get h.2
    refine ⟨by simp [h1], fun i y u hy hu => ?_⟩
    cases i with
    | zero => simp at hy hu; subst hy hu; exact h.1
    | succ i => exact h2 i y u (by simpa using hy) (by simpa using hu)
  | [], _ :: _, h => h.elim
  | _ :: _, [], h => h.elim
theorem denA_of {E : Env} {w : World} {l : List SV} {vs : List Value} (h : DenL E w l vs) : DenA E w l vs.toArray :=
  ⟨by simpa using h.get.1, fun i x u hx hu => h.get.2 i x u hx (by simpa using hu)⟩
theorem agg_2 {xs : List SV} {k1 k2 : IntKind} (hl : xs.length = 2) (h : ∀ (j : Nat) (a : SV) (sh : Sh), xs[j]? = some a → [Sh.int k1, Sh.int k2][j]? = some sh → Typ sh a) :
    ∃ x y, xs = [.int k1 x, .int k2 y] ∧ (Lit.int k1 x).wf = true ∧ (Lit.int k2 y).wf = true := by
  match xs, hl with
  | [a, b], _ =>
    have h0 := h 0 a _ rfl rfl
    have h1 := h 1 b _ rfl rfl
    cases h0 with
    | int w0 => cases h1 with
      | int w1 => exact ⟨_, _, rfl, w0, w1⟩
theorem intK_of_typ {k : IntKind} {n c : Nat} {f : Nat → Nat → SV} {e : List Sh} (he : e = List.replicate c (Sh.int k)) (h : ∀ i j sh, i < n → e[j]? = some sh → Typ sh (f i j)) : IntK k n c f ∧ ∀ i j, i < n → j < c → (Lit.int k (iv (f i j))).wf = true := by
  have : ∀ i j, i < n → j < c → ∃ x, f i j = .int k x ∧ (Lit.int k x).wf = true := fun i j hi hj => by
    have := h i j (.int k) hi (by rw [he]; simp [List.getElem?_replicate, hj])
    generalize f i j = x at this
    cases this with
    | int hw => exact ⟨_, rfl, hw⟩
  exact ⟨fun i j hi hj => by obtain ⟨x, hx, _⟩ := this i j hi hj; rw [hx]; rfl, fun i j hi hj => by obtain ⟨x, hx, hw⟩ := this i j hi hj; rw [hx]; exact hw⟩
end Go.Eng
end

/- Cells by their shapes. -/
section
namespace Go.Eng
open Go Go.RowKit
theorem typ_int {k : IntKind} {a : SV} (h : Typ (.int k) a) : ∃ n, a = .int k n ∧ (Lit.int k n).wf = true := by
  cases h with
  | int h => exact ⟨_, rfl, h⟩
theorem typ_bool {a : SV} (h : Typ .bool a) : ∃ b, a = .bool b := by
  cases h with
  | bool b => exact ⟨b, rfl⟩
theorem typ_sl {e : List Sh} {a : SV} (h : Typ (.sl e) a) : ∃ n f, a = .row n e.length f ∧ n ≤ maxLen ∧ ∀ i j sh, i < n → e[j]? = some sh → Typ sh (f i j) := by
  cases h with
  | sl hn h => exact ⟨_, _, rfl, hn, h⟩
end Go.Eng
end

/- Rows of structs that hold one slice of numbers each. -/
section
namespace Go.Eng
open Go Go.RowKit Go.Proofs
/-- Rows that are alike cell by cell. -/
theorem SameD.row {n sz : Nat} {f g : Nat → Nat → SV} (h : ∀ i j, i < n → j < sz → SameD (f i j) (g i j)) : SameD (.row n sz f) (.row n sz g) := ⟨fun E w v hd => by
  cases hd with
  | row A cap q hA ho hn hc h1 hd => exact .row A cap q hA ho hn hc h1 (fun i j hi hj => (h i j hi hj).out E w _ (hd i j hi hj))
  | rowZ a cap => exact .rowZ a cap⟩
def nestF (k s : Nat) (A : Nat → Nat → Int) (M : Nat → Nat) (V : Nat → Nat → Nat → Int) : Nat → Nat → SV :=
  fun i j => if j = k then .row (M i) s (fun a b => .int .i64 (V i a b)) else .int .i64 (A i j)
theorem nestF_eq (k s : Nat) (A : Nat → Nat → Int) (M : Nat → Nat) (V : Nat → Nat → Nat → Int) (i j : Nat) :
    nestF k s A M V i j = if j = k then .row (M i) s (fun a b => .int .i64 (V i a b)) else .int .i64 (A i j) := rfl
theorem nestF11_0 (s : Nat) (A : Nat → Nat → Int) (M : Nat → Nat) (V : Nat → Nat → Nat → Int) (i : Nat) : nestF 1 s A M V i 0 = .int .i64 (A i 0) := rfl
theorem nestF11_1 (s : Nat) (A : Nat → Nat → Int) (M : Nat → Nat) (V : Nat → Nat → Nat → Int) (i : Nat) : nestF 1 s A M V i 1 = .row (M i) s (fun a b => .int .i64 (V i a b)) := rfl
theorem nestF_sh (k s : Nat) (A : Nat → Nat → Int) (M : Nat → Nat) (V : Nat → Nat → Nat → Int) (i : Nat) : (fun a j => nestF k s A M V (i + a) j) = nestF k s (fun a => A (i + a)) (fun a => M (i + a)) (fun a => V (i + a)) := rfl
theorem frzF_nest (d : Nat) (h : HS) (k s : Nat) (A : Nat → Nat → Int) (M : Nat → Nat) (V : Nat → Nat → Nat → Int) (i j : Nat) : frzF (d + 1) h (nestF k s A M V i j) = nestF k s A M V i j := by
  simp only [nestF]
  split <;> rfl
def rowN : SV → Nat
  | .row n _ _ => n
  | _ => 0
def rowC : SV → Nat → Nat → SV
  | .row _ _ f => f
  | _ => fun _ _ => .any
def nsA (f : Nat → Nat → SV) : Nat → Nat → Int := fun i j => iv (f i j)
def nsM (k : Nat) (f : Nat → Nat → SV) : Nat → Nat := fun i => rowN (f i k)
def nsV (k : Nat) (f : Nat → Nat → SV) : Nat → Nat → Nat → Int := fun i a b => iv (rowC (f i k) a b)
/-- A cell that is a slice of numbers. -/
def IsR (s : Nat) : SV → Prop
  | .row m s' g => (s' = s ∨ m = 0) ∧ IntR m s g
  | _ => False
def NestR (n sz k s : Nat) (f : Nat → Nat → SV) : Prop := ∀ i, i < n → (∀ j, j < sz → j ≠ k → f i j = .int .i64 (iv (f i j))) ∧ (k < sz → IsR s (f i k))
theorem nestR_lit (n sz k s : Nat) (A : Nat → Nat → Int) (M : Nat → Nat) (V : Nat → Nat → Nat → Int) : NestR n sz k s (nestF k s A M V) = True :=
  eq_true fun i _ => ⟨fun j _ hj => by simp [nestF, hj, iv], fun _ => by simp only [nestF, if_true, IsR]; exact ⟨.inl trivial, fun a b _ _ => rfl⟩⟩
theorem nsM_lit (k s : Nat) (A : Nat → Nat → Int) (M : Nat → Nat) (V : Nat → Nat → Nat → Int) : nsM k (nestF k s A M V) = M := by
  funext i; simp [nsM, nestF, rowN]
theorem nsV_lit (k s : Nat) (A : Nat → Nat → Int) (M : Nat → Nat) (V : Nat → Nat → Nat → Int) : nsV k (nestF k s A M V) = V := by
  funext i a b; simp [nsV, nestF, rowC, iv]
theorem nsA_lit {k s : Nat} {A : Nat → Nat → Int} {M : Nat → Nat} {V : Nat → Nat → Nat → Int} (i : Nat) {j : Nat} (h : j ≠ k) : nsA (nestF k s A M V) i j = A i j := by
  simp [nsA, nestF, iv, h]
theorem isR_same {s : Nat} {x : SV} (h : IsR s x) : SameD x (.row (rowN x) s (fun a b => .int .i64 (iv (rowC x a b)))) := by
  cases x <;> first | exact h.elim | skip
  rename_i m s' g
  obtain ⟨h1, h2⟩ := h
  rcases h1 with rfl | rfl
  · exact SameD.int h2
  · exact SameD.row0
theorem SameD.nest {n sz k s : Nat} {f : Nat → Nat → SV} (h : NestR n sz k s f) : SameD (.row n sz f) (.row n sz (nestF k s (nsA f) (nsM k f) (nsV k f))) := by
  refine SameD.row fun i j hi hj => ?_
  obtain ⟨h1, h2⟩ := h i hi
  simp only [nestF, nsA, nsM, nsV]
  split
  · rename_i e; subst e
    exact isR_same (h2 hj)
  · rename_i e
    rw [h1 j hj e]
    exact SameD.rfl' _
theorem nest_bd {n sz k s : Nat} {f : Nat → Nat → SV} (h : NestR n sz k s f) (i j : Nat) (hi : i < n) (hj : j < sz) : Bd 0 0 (f i j) := by
  obtain ⟨h1, h2⟩ := h i hi
  by_cases e : j = k
  · subst e
    have := h2 hj
    generalize f i j = x at this
    cases x <;> first | exact this.elim | skip
    rename_i m s' g
    obtain ⟨h3, h4⟩ := this
    simp only [Bd]
    intro a b ha hb
    rcases h3 with rfl | rfl
    · rw [h4 a b ha hb]; trivial
    · omega
  · rw [h1 j hj e]; trivial
theorem nestF_bd1 (L K k s : Nat) (A : Nat → Nat → Int) (M : Nat → Nat) (V : Nat → Nat → Nat → Int) (i j : Nat) : Bd L K (nestF k s A M V i j) := by
  simp only [nestF]
  split
  · simp only [Bd]
    exact fun _ _ _ _ => trivial
  · trivial
theorem nestF_bd (L K n sz k s : Nat) (A : Nat → Nat → Int) (M : Nat → Nat) (V : Nat → Nat → Nat → Int) : ∀ i j, i < n → j < sz → Bd L K (nestF k s A M V i j) := fun i j _ _ => by
  simp only [nestF]
  split
  · simp only [Bd]
    exact fun _ _ _ _ => trivial
  · trivial
/-- The literals of a sample: each element is told. -/
theorem nestR_of {n sz k s : Nat} {f : Nat → Nat → SV} (h : ∀ i, i < n → (∀ j, j < sz → j ≠ k → f i j = .int .i64 (iv (f i j))) ∧ (k < sz → IsR s (f i k))) : NestR n sz k s f := h
/-- Out of the shapes of a law's argument. -/
theorem nestR_typ {n sz k s : Nat} {f : Nat → Nat → SV} {e : List Sh} (he : ∀ j, j < sz → j ≠ k → e[j]? = some (.int .i64)) (hk : e[k]? = some (.sl (List.replicate s (.int .i64))))
    (h : ∀ i j sh, i < n → e[j]? = some sh → Typ sh (f i j)) : NestR n sz k s f ∧ (∀ i j, i < n → j < sz → j ≠ k → (Lit.int .i64 (nsA f i j)).wf = true) ∧ (∀ i, i < n → nsM k f i ≤ maxLen) ∧ ∀ i a b, i < n → a < nsM k f i → b < s → (Lit.int .i64 (nsV k f i a b)).wf = true := by
  have h1 : ∀ i j, i < n → j < sz → j ≠ k → f i j = .int .i64 (iv (f i j)) ∧ (Lit.int .i64 (iv (f i j))).wf = true := fun i j hi hj hjk => by
    obtain ⟨x, hx, hw⟩ := typ_int (h i j _ hi (he j hj hjk))
    rw [hx]; exact ⟨rfl, hw⟩
  have h2 : ∀ i, i < n → ∃ m g, f i k = .row m s g ∧ m ≤ maxLen ∧ IntR m s g ∧ ∀ a b, a < m → b < s → (Lit.int .i64 (iv (g a b))).wf = true := fun i hi => by
    obtain ⟨m, g, hx, hm, ht⟩ := typ_sl (h i k _ hi hk)
    obtain ⟨q1, q2⟩ := intK_of_typ rfl ht
    exact ⟨m, g, by rw [hx, List.length_replicate], hm, fun a b ha hb => q1 a b ha hb, q2⟩
  refine ⟨fun i hi => ⟨fun j hj hjk => (h1 i j hi hj hjk).1, fun _ => ?_⟩, fun i j hi hj hjk => (h1 i j hi hj hjk).2, fun i hi => ?_, fun i a b hi ha hb => ?_⟩
  · obtain ⟨m, g, hx, _, h3, _⟩ := h2 i hi
    rw [hx]; exact ⟨.inl rfl, h3⟩
  · obtain ⟨m, g, hx, h3, _⟩ := h2 i hi
    simp only [nsM, hx, rowN]; exact h3
  · obtain ⟨m, g, hx, _, _, h3⟩ := h2 i hi
    simp only [nsM, nsV, hx, rowN, rowC] at ha ⊢
    exact h3 a b ha hb
theorem wf_u8 {x : Int} (h : (Lit.int IntKind.u8 x).wf = true) : 0 ≤ x ∧ x ≤ 255 := by
  simp [Lit.wf, IntKind.min, IntKind.max, IntKind.signed, IntKind.bits] at h
  omega
theorem wf_u16 {x : Int} (h : (Lit.int IntKind.u16 x).wf = true) : 0 ≤ x ∧ x ≤ 65535 := by
  simp [Lit.wf, IntKind.min, IntKind.max, IntKind.signed, IntKind.bits] at h
  omega
theorem wf_u32 {x : Int} (h : (Lit.int IntKind.u32 x).wf = true) : 0 ≤ x ∧ x ≤ 4294967295 := by
  simp [Lit.wf, IntKind.min, IntKind.max, IntKind.signed, IntKind.bits] at h
  omega
theorem tmod_nat {i z : Nat} : (i : Int).tmod (z : Int) = ((i % z : Nat) : Int) := by
  rw [Int.tmod_eq_emod_of_nonneg (by omega)]; rfl
/- Closed rows, checked. -/
def isI64 : SV → Bool
  | .int .i64 _ => true
  | _ => false
theorem isI64_eq {x : SV} (h : isI64 x = true) : x = .int .i64 (iv x) := by
  cases x <;> first | (cases h; done) | skip
  rename_i k n
  cases k <;> first | rfl | cases h
def allB (p : Nat → Bool) : Nat → Bool
  | 0 => true
  | n + 1 => allB p n && p n
theorem allB_get {p : Nat → Bool} : ∀ {n : Nat}, allB p n = true → ∀ i, i < n → p i = true
  | 0, _, i, hi => absurd hi (by omega)
  | n + 1, h, i, hi => by
    simp only [allB, Bool.and_eq_true] at h
    rcases Nat.lt_or_ge i n with h1 | h1
    · exact allB_get h.1 i h1
    · obtain rfl : i = n := by omega
      exact h.2
def intRb (n sz : Nat) (f : Nat → Nat → SV) : Bool := allB (fun i => allB (fun j => isI64 (f i j)) sz) n
theorem intRb_ok {n sz : Nat} {f : Nat → Nat → SV} (h : intRb n sz f = true) : IntR n sz f := fun i j hi hj => isI64_eq (allB_get (allB_get h i hi) j hj)
def isRb (s : Nat) : SV → Bool
  | .row m s' g => (s' == s || m == 0) && intRb m s g
  | _ => false
theorem isRb_ok {s : Nat} {x : SV} (h : isRb s x = true) : IsR s x := by
  cases x <;> first | (cases h; done) | skip
  simp only [isRb, Bool.and_eq_true, Bool.or_eq_true, beq_iff_eq] at h
  exact ⟨h.1, intRb_ok h.2⟩
def nestRb (n sz k s : Nat) (f : Nat → Nat → SV) : Bool := allB (fun i => allB (fun j => if j == k then isRb s (f i j) else isI64 (f i j)) sz) n
theorem nestRb_ok {n sz k s : Nat} {f : Nat → Nat → SV} (h : nestRb n sz k s f = true) : NestR n sz k s f := fun i hi => by
  have h1 := allB_get h i hi
  refine ⟨fun j hj hjk => ?_, fun hk => ?_⟩
  · have := allB_get h1 j hj
    rw [if_neg (by simpa using hjk)] at this
    exact isI64_eq this
  · have := allB_get h1 k hk
    rw [if_pos (by simp)] at this
    exact isRb_ok this
theorem spl_f {q : Bool} {A B : Prop} (h : q = false) (hb : B) : spl q A B := ⟨fun e => by (rw [h] at e; cases e), fun _ => hb⟩
theorem spl_t {q : Bool} {A B : Prop} (h : q = true) (ha : A) : spl q A B := ⟨fun _ => ha, fun e => by (rw [h] at e; cases e)⟩
end Go.Eng
end
