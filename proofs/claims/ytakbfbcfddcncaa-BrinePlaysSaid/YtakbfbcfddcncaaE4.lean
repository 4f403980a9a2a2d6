/-
  A part of the symbolic machine, of its soundness, and of what functions compute. No condition.
-/
import Derived.OpenShut
import Derived.Carry
import Derived.ChangeArms
import Derived.WideShapes
import Derived.WideWitness
import Derived.ProofKit
import Derived.SizedLaws
import Derived.Test.YtakbfbcfddcncaaE3
set_option linter.unusedSimpArgs false
set_option linter.unusedVariables false
/- From what the statement says of its arguments to symbolic values. -/
section
namespace Go.Eng
open Go Go.RowKit Go.ChangeShapes Go.WideShapes

/-- What a cell is: a number, a bool, or a slice of such cells. -/
inductive Sh where
  | int (k : IntKind)
  | bool
  | sl (e : List Sh)
def shF (P : Program) (rec : Nat → Option (List Sh)) : List Field → Nat → Option (List Sh)
  | [], _ => some []
  | f :: fs, off => if f.offset = off then match rec f.type with
    | some a => if a.length = P.cellsOf f.type then match shF P rec fs (off + a.length) with
      | some b => some (a ++ b)
      | none => none
      else none
    | none => none
    else none
def repS (s : List Sh) : Nat → List Sh
  | 0 => []
  | n + 1 => s ++ repS s n
def shT (P : Program) : Nat → Nat → Option (List Sh)
  | 0, _ => none
  | d + 1, t => match P.underlying t with
    | some (.int k) => some [.int k]
    | some .bool => some [.bool]
    | some (.slice e) => match shT P d e with
      | some s => if s.length = P.cellsOf e ∧ 0 < s.length then some [.sl s] else none
      | none => none
    | some (.struct fs) => match shF P (shT P d) fs.toList 0 with
      | some s => if s.length = P.cellsOf t then some s else none
      | none => none
    | some (.array n e) => match shT P d e with
      | some s => if s.length = P.cellsOf e ∧ (repS s n).length = P.cellsOf t then some (repS s n) else none
      | none => none
    | _ => none
inductive Typ : Sh → SV → Prop
  | int {k : IntKind} {n : Int} (h : (Lit.int k n).wf = true) : Typ (.int k) (.int k n)
  | bool (b : Bool) : Typ .bool (.bool b)
  | sl {e : List Sh} {n : Nat} {f : Nat → Nat → SV} (hn : n ≤ maxLen) (h : ∀ i j sh, i < n → e[j]? = some sh → Typ sh (f i j)) : Typ (.sl e) (.row n e.length f)
def Env.emp : Env := { nb := 0, rho := id, nv := 0, val := fun _ _ => none, own := fun _ => none }
theorem emp_rel (w : World) : RelH Env.emp ⟨[], []⟩ w :=
  ⟨rfl, rfl, fun nm ty c h => by simp [getB] at h, fun id a b c d e h => by simp [getV] at h, fun b t hb => by simp [Env.emp] at hb, fun nm st pend fid t params assign body hb => by simp [getB] at hb, fun nm m hb => by simp [getB] at hb⟩
/-- Cells that read as shapes are denoted. -/
def CellsD (w : World) (shs : List Sh) (cs : List Value) : Prop :=
  cs.length = shs.length ∧ ∃ xs : List SV, xs.length = shs.length ∧ ∀ (j : Nat) (a : SV) (v : Value) (sh : Sh), xs[j]? = some a → cs[j]? = some v → shs[j]? = some sh → Den Env.emp w a v ∧ Typ sh a ∧ v.oneCell' = true
theorem CellsD.app {w : World} {s1 s2 : List Sh} {c1 c2 : List Value} (h1 : CellsD w s1 c1) (h2 : CellsD w s2 c2) : CellsD w (s1 ++ s2) (c1 ++ c2) := by
  obtain ⟨a1, x1, b1, d1⟩ := h1
  obtain ⟨a2, x2, b2, d2⟩ := h2
  refine ⟨by simp [a1, a2], x1 ++ x2, by simp [b1, b2], fun j a v sh ha hv hs => ?_⟩
  by_cases hj : j < s1.length
  · rw [List.getElem?_append_left (by omega)] at ha hv hs
    exact d1 j a v sh ha hv hs
  · rw [List.getElem?_append_right (by omega)] at ha hv hs
    rw [b1] at ha; rw [a1] at hv
    exact d2 _ a v sh ha hv hs
section
variable {H : Type} {enc : TypeId × Value → H} {P : Program} {w : World} {held : Bool}
theorem fields_ok {rec : Nat → Option (List Sh)} {n : Nat} {cs : List Value} (hrec : ∀ t s c x, rec t = some s → DataW.trod enc P w 0 (fun _ => true) held n t c = some x → CellsD w s c) :
    ∀ (fs : List Field) (off : Nat) (s : List Sh), shF P rec fs off = some s → (∀ (i : Nat) (f : Field), fs[i]? = some f → ∃ x, DataW.trod enc P w 0 (fun _ => true) held n f.type ((cs.drop f.offset).take (P.cellsOf f.type)) = some x) → CellsD w s ((cs.drop off).take s.length)
  | [], off, s, h, _ => by simp only [shF, Option.some.injEq] at h; subst h; exact ⟨by simp, [], rfl, fun j a v sh ha => by simp at ha⟩
  | f :: fs, off, s, h, hx => by
    simp only [shF] at h
    split at h
    · rename_i ho
      split at h
      · rename_i a ha
        split at h
        · rename_i hl
          split at h
          · rename_i b hb
            cases h
            obtain ⟨x, hx0⟩ := hx 0 f rfl
            have h1 := hrec _ _ _ _ ha hx0
            have h2 := fields_ok hrec fs _ _ hb (fun i f hf => hx (i + 1) f (by simpa using hf))
            rw [ho, ← hl] at h1
            have e : (cs.drop off).take (a ++ b).length = (cs.drop off).take a.length ++ (cs.drop (off + a.length)).take b.length := by
              rw [List.length_append, List.take_add, List.drop_drop]
            rw [e]
            exact h1.app h2
          · cases h
        · cases h
      · cases h
    · cases h
theorem arr_ok {s : List Sh} {cs : List Value} : ∀ (n off : Nat), (∀ i, i < n → CellsD w s ((cs.drop (off + i * s.length)).take s.length)) → CellsD w (repS s n) ((cs.drop off).take (repS s n).length)
  | 0, off, _ => ⟨by simp [repS], [], rfl, fun j a v sh ha => by simp at ha⟩
  | n + 1, off, h => by
    have h1 := h 0 (by omega)
    have h2 := arr_ok n (off + s.length) (fun i hi => by have := h (i + 1) (by omega); rw [Nat.succ_mul] at this; rw [show off + s.length + i * s.length = off + (i * s.length + s.length) by omega]; exact this)
    have e : (cs.drop off).take (repS s (n + 1)).length = (cs.drop off).take s.length ++ (cs.drop (off + s.length)).take (repS s n).length := by
      simp only [repS]
      rw [List.length_append, List.take_add, List.drop_drop]
    rw [e]
    simp only [repS]
    exact CellsD.app (by simpa using h1) h2

theorem trod_den : ∀ (d : Nat) (t : Nat) (cs : List Value) (fuel : Nat) (x : DataW H × List MemPlace) (shs : List Sh), shT P d t = some shs → DataW.trod enc P w 0 (fun _ => true) held fuel t cs = some x → CellsD w shs cs := by
  intro d
  induction d with
  | zero => intro t cs fuel x shs h; simp [shT] at h
  | succ d ih =>
    intro t cs fuel x shs h hx
    simp only [shT] at h
    have one : ∀ (a : SV) (v : Value) (sh : Sh), Den Env.emp w a v → Typ sh a → v.oneCell' = true → CellsD w [sh] [v] := fun a v sh h1 h2 h3 => ⟨rfl, [a], rfl, fun j b u s hb hu hs => by
      cases j with
      | zero => simp at hb hu hs; subst hb hu hs; exact ⟨h1, h2, h3⟩
      | succ j => simp at hb⟩
    split at h
    · rename_i k hk
      cases h
      obtain ⟨n, rfl, _, hw⟩ := DataW.trod_int hk hx
      exact one _ _ _ (.int k n) (.int hw) rfl
    · rename_i hk
      cases h
      obtain ⟨b, rfl, _⟩ := DataW.trod_bool hk hx
      exact one _ _ _ (.bool b) (.bool b) rfl
    · rename_i e hk
      split at h
      · rename_i s hs
        split at h
        · rename_i hl
          cases h
          rcases DataW.trod_slice hk hx with ⟨rfl, _⟩ | ⟨a, len, cap, elems, rest, n, _, rfl, _, _, hlc, hcap, hlen, hel, _, _⟩
          · exact one (.row 0 s.length fun _ _ => .any) _ _ (.rowZ _ _) (.sl (Nat.zero_le _) (fun i j sh hi => by omega)) rfl
          · by_cases h0 : len = 0
            · subst h0
              exact one (.row 0 s.length fun _ _ => .any) _ _ (.rowZ _ _) (.sl (Nat.zero_le _) (fun i j sh hi => by omega)) rfl
            · have hi : ∀ i, ∃ xs : List SV, i < len → xs.length = s.length ∧ ∀ (j : Nat) (sh : Sh), s[j]? = some sh → ∃ a' v, xs[j]? = some a' ∧ w.cell? (a.add (i * s.length + j)) = some v ∧ Den Env.emp w a' v ∧ Typ sh a' ∧ v.oneCell' = true := by
                intro i
                by_cases hil : i < len
                · have h1 := hel i hil
                  have h2 : elems[i]? = some (elems[i]'(by omega)) := List.getElem?_eq_getElem (by omega)
                  rw [h2] at h1
                  cases hc : w.cells? 0 (a.add (i * P.cellsOf e)) (P.cellsOf e) with
                  | none => rw [hc] at h1; cases h1
                  | some cs' =>
                    rw [hc] at h1
                    obtain ⟨q1, xs, q2, q3⟩ := ih e cs' n _ s hs h1
                    refine ⟨xs, fun _ => ⟨q2, fun j sh hj => ?_⟩⟩
                    have hjl : j < s.length := (List.getElem?_eq_some_iff.1 hj).1
                    obtain ⟨_, hcl, hat⟩ := World.cells?_some hc
                    have hcj := hat j (by omega)
                    have e1 : cs'[j]? = some (cs'[j]'(by omega)) := List.getElem?_eq_getElem (by omega)
                    have e2 : xs[j]? = some (xs[j]'(by omega)) := List.getElem?_eq_getElem (by omega)
                    obtain ⟨r1, r2, r3⟩ := q3 j _ _ sh e2 e1 hj
                    rw [e1] at hcj
                    have hadd : (a.add (i * P.cellsOf e)).add j = a.add (i * s.length + j) := by
                      rw [hl.1, Addr.add_add]
                    rw [hadd] at hcj
                    exact ⟨_, _, e2, hcj, r1, r2, r3⟩
                · exact ⟨[], fun h => absurd h hil⟩
              obtain ⟨F, hF⟩ := Classical.skolem.1 hi
              have hcell : ∀ i j, i < len → j < s.length → ∃ a' v, (F i)[j]? = some a' ∧ w.cell? (a.add (i * s.length + j)) = some v ∧ Den Env.emp w a' v ∧ v.oneCell' = true := fun i j hil hj => by
                obtain ⟨_, h2⟩ := hF i hil
                obtain ⟨a', v, k1, k2, k3, _, k5⟩ := h2 j _ (List.getElem?_eq_getElem hj)
                exact ⟨a', v, k1, k2, k3, k5⟩
              have hb : a.block < w.heap.size := by
                obtain ⟨_, v, _, k2, _⟩ := hcell 0 0 (by omega) hl.2
                have := block_of_cell k2
                rwa [add_block] at this
              refine one (.row len s.length fun i j => nth (F i) j) _ _ (.row a cap (fun i j => (w.cell? (a.add (i * s.length + j))).getD undef) hb rfl hlc (fun i j hi hj => ?_) (fun i j hi hj => ?_) (fun i j hi hj => ?_)) (.sl (by omega) (fun i j sh hil hj => ?_)) rfl
              · obtain ⟨_, v, _, k2, _⟩ := hcell i j hi hj
                rw [k2]; rfl
              · obtain ⟨_, v, _, k2, _, k5⟩ := hcell i j hi hj
                rw [k2]; exact k5
              · obtain ⟨a', v, k1, k2, k3, _⟩ := hcell i j hi hj
                rw [k2, nth_eq, List.getD, k1]; exact k3
              · obtain ⟨_, h2⟩ := hF i hil
                obtain ⟨a', v, k1, _, _, k4, _⟩ := h2 j sh hj
                rw [nth_eq, List.getD, k1]; exact k4
        · cases h
      · cases h
    · rename_i fs hk
      split at h
      · rename_i s hs
        split at h
        · rename_i hl
          cases h
          obtain ⟨xs, n, _, _, hlen, hxl, hg⟩ := DataW.trod_struct hk hx
          have := fields_ok (cs := cs) (n := n) (fun t s c x h1 h2 => ih t c n x s h1 h2) fs.toList 0 shs hs (fun i f hf => by
            have hf' : fs[i]? = some f := by simpa using hf
            have hil : i < xs.length := by rw [hxl]; exact (Array.getElem?_eq_some_iff.1 hf').1
            exact ⟨xs[i], by rw [hg i f hf']; exact List.getElem?_eq_getElem hil⟩)
          rw [List.drop_zero, hl, ← hlen, List.take_length] at this
          exact this
        · cases h
      · cases h
    · rename_i n e hk
      split at h
      · rename_i s hs
        split at h
        · rename_i hl
          cases h
          obtain ⟨xs, m, _, _, hlen, hxl, hg⟩ := DataW.trod_array hk hx
          have := arr_ok (w := w) (s := s) (cs := cs) n 0 (fun i hi => by
            have h1 := hg i hi
            have hil : i < xs.length := by omega
            rw [List.getElem?_eq_getElem hil] at h1
            rw [Nat.zero_add, hl.1]
            exact ih e _ m _ s hs h1)
          rw [List.drop_zero, hl.2, ← hlen, List.take_length] at this
          exact this
        · cases h
      · cases h
    · cases h

/-- How much room an argument takes. -/
theorem arg_room {r : Reach} {b : Nat} {t e : TypeId} {v : Value} {d : DataW H} {ps : List MemPlace} {n sz : Nat} {f : Nat → Nat → SV} {E : Env} {w' : World} (ht : P.underlying t = some (.slice e)) (hval : Value.okWide P w r b t v)
    (h : DataW.Trod enc P w 0 (fun _ => true) held t v d ps) (hd : Den E w' (.row n sz f) v) {ts : List TypeId} {ds : List (DataW H)} (hw : (DataW.weightsEach P ts ds).all (· ≤ reachBytes) = true) {j : Nat} (hj : ts[j]? = some t) (hdj : ds[j]? = some d) :
    n * P.bytesOf e ≤ reachBytes := by
  obtain ⟨a, len, cap, rfl⟩ := okWide_slice ht hval
  have hn : n = len := by cases hd <;> rfl
  subst hn
  obtain ⟨fuel, hf⟩ := h
  rcases DataW.trod_slice ht hf with ⟨h1, _⟩ | ⟨a', len', cap', elems, rest, m, _, h1, h2, _, _, _, hl, _⟩
  · have : n = 0 := by simp [Value.cells] at h1; exact h1.2.1
    subst this; simp
  · have h3 : n = len' := by simp [Value.cells] at h1; exact h1.2.1
    have h4 : d = .slice (elems.map (·.1)) (rest.map (·.1)) := congrArg Prod.fst h2
    have := sized_slice hw hj (by rw [hdj, h4]) ht
    simp only [List.length_map] at this
    refine Nat.le_trans (Nat.mul_le_mul_right _ ?_) this
    omega

/-- A struct, an array. -/
theorem arg_agg {r : Reach} {b : Nat} {t : TypeId} {fs : Array Field} {v : Value} {d : DataW H} {ps : List MemPlace} {shs : List Sh} (ht : P.underlying t = some (.struct fs)) (hs : shT P 12 t = some shs) (hval : Value.okWide P w r b t v) (h : DataW.Trod enc P w 0 (fun _ => true) held t v d ps) :
    ∃ xs : List SV, Den Env.emp w (.agg xs) v ∧ xs.length = shs.length ∧ ∀ (j : Nat) (a : SV) (sh : Sh), xs[j]? = some a → shs[j]? = some sh → Typ sh a := by
  obtain ⟨cs, rfl, hsz⟩ := okWide_struct ht hval
  obtain ⟨fuel, hf⟩ := h
  obtain ⟨q1, xs, q2, q3⟩ := trod_den 12 t _ fuel _ shs hs hf
  have hcl : (Value.agg cs).cells.toList = cs.toList := rfl
  rw [hcl] at q1 q3
  refine ⟨xs, .agg cs (by simpa [q2] using q1) (fun i u hu => ?_) (fun i x u hx hu => ?_), q2, fun j a sh ha hsh => ?_⟩
  · have hil : i < cs.size := (Array.getElem?_eq_some_iff.1 hu).1
    have h1 : i < shs.length := by rw [← q1]; simpa using hil
    exact (q3 i _ u _ (List.getElem?_eq_getElem (by omega)) (by simpa using hu) (List.getElem?_eq_getElem h1)).2.2
  · have hil : i < xs.length := (List.getElem?_eq_some_iff.1 hx).1
    exact (q3 i x u _ hx (by simpa using hu) (List.getElem?_eq_getElem (by omega))).1
  · have hil : j < cs.toList.length := by have := (List.getElem?_eq_some_iff.1 hsh).1; omega
    exact (q3 j a _ sh ha (List.getElem?_eq_getElem hil) hsh).2.1
theorem arg_row {r : Reach} {b : Nat} {t e : TypeId} {v : Value} {d : DataW H} {ps : List MemPlace} {s : List Sh} (ht : P.underlying t = some (.slice e)) (hs : shT P 12 t = some [.sl s]) (hval : Value.okWide P w r b t v) (h : DataW.Trod enc P w 0 (fun _ => true) held t v d ps) :
    ∃ (n : Nat) (f : Nat → Nat → SV), Den Env.emp w (.row n s.length f) v ∧ n ≤ maxLen ∧ ∀ i j sh, i < n → s[j]? = some sh → Typ sh (f i j) := by
  obtain ⟨a, len, cap, rfl⟩ := okWide_slice ht hval
  obtain ⟨fuel, hf⟩ := h
  obtain ⟨q1, xs, q2, q3⟩ := trod_den 12 t _ fuel _ _ hs hf
  match xs, q2 with
  | [x], _ =>
    obtain ⟨k1, k2, _⟩ := q3 0 x (.slice a len cap) (.sl s) rfl rfl rfl
    cases k2 with
    | @sl e n f hn hh => exact ⟨n, f, k1, hn, hh⟩

theorem trodAll_below {W W' : World} (hl : laidOutB P = true) (hb : Below W.heap.size W W') : ∀ {ts : List TypeId} {vs : List Value} {ds : List (DataW H)} {ps : List MemPlace}, (∀ t ∈ ts, P.readableRec t = true ∧ t < P.types.size) →
    DataW.TrodAll enc P W 0 (fun _ => true) true ts vs ds ps → (∀ x ∈ ps, x.block < W.heap.size) → DataW.TrodAll enc P W' 0 (fun b => decide (b < W.heap.size)) true ts vs ds ps
  | [], [], [], _, _, h, _ => h
  | t :: ts, v :: vs, d :: ds, ps, hr, ⟨p, q, h1, h2, e⟩, hlt => by
    subst e
    have := hr t (by simp)
    exact ⟨p, q, Below.trod hl this.1 this.2 h1 hb (fun x hx => hlt x (List.mem_append_left _ hx)), trodAll_below hl hb (fun t ht => hr t (List.mem_cons_of_mem _ ht)) h2 (fun x hx => hlt x (List.mem_append_right _ hx)), rfl⟩
end
/-- A law's end: it returned true, and of what was there nothing turned. -/
theorem law_end {H : Type} {enc : TypeId × Value → H} {P : Program} {f : Func} {s : ChangeSpec} {W W' : World} {args : Array Value} {ds gs : List (DataW H)} {before : List MemPlace} {tb : TypeId}
    (hl : laidOutB P = true) (hres : f.resultTypes = #[tb]) (htb : P.underlying tb = some .bool) (hpar : (f.params.toList.all fun t => P.readableRec t && decide (t < P.types.size)) = true) (hvars : s.vars = [])
    (hW : DataW.Whole enc P f.params.toList s.vars false W args.toList ds gs before) (hfn : s.fn H (ds ++ gs) = { results := [.lit (.bool true)], args := ds, vars := [] }) (hb : Below W.heap.size W W') :
    s.post enc P f false true false false W args (.bool true) W' := by
  have hW0 := hW
  obtain ⟨p, q, hA, hV, rfl, hfz, hnd⟩ := hW
  rw [hvars] at hV
  have hq : gs = [] ∧ q = [] := by
    cases gs with
    | nil => exact ⟨rfl, by simpa [DataW.TrodVars] using hV⟩
    | cons _ _ => simp [DataW.TrodVars] at hV
  obtain ⟨rfl, rfl⟩ := hq
  refine ⟨ds, [], p ++ [], [], p, [], hW0, ?_, ?_, ?_, hb.frame _, fun h => by cases h⟩
  · rw [hfn, hres]
    exact ⟨[], [], shut_bool htb true, rfl, rfl⟩
  · rw [hfn]
    exact trodAll_below hl hb (fun t ht => by have := List.all_eq_true.1 hpar t ht; simpa using this) hA (fun x hx => hW0.lt x (by simpa using hx))
  · rw [hfn, hvars]; rfl
theorem below_of {w w' : World} {E' : Env} (hx : Ext Env.emp w E' w') : Below w.heap.size w w' := ⟨hx.os, hx.tape, hx.output, hx.size, fun k hk => (hx.keep k hk rfl).2⟩
/-- The law's call, by its contract. -/
theorem law_calls {P : Program} {g : Nat} {base : List SV → Option (Prop × SV)} (hb : Base P g base) {args : List SV} {p : Prop} (hq : base args = some (p, .bool true)) (hp : p) {W : World} {vals : Array Value} (hd : DenA Env.emp W args vals) :
    Calls P g vals W fun e W' => e = .returned (.bool true) ∧ Below W.heap.size W W' := by
  obtain ⟨_, h2⟩ := hb _ _ _ hq hp
  refine (h2 Env.emp W vals (emp_rel W) hd).mono ?_
  rintro e w' ⟨o, h', E', ⟨u, rfl, hres⟩, hr', hx, hout⟩
  cases e with
  | panicked _ => exact hout.elim
  | outgrown => exact hout.elim
  | returned val =>
    rcases hres with ⟨hfl, hsd⟩ | hfz
    · have := hsd.out _ _ _ hout
      cases this
      exact ⟨rfl, below_of hx⟩
    · obtain ⟨rfl, _⟩ : u = .bool true ∧ Sc (.bool true) := hfz
      cases hout
      exact ⟨rfl, below_of hx⟩
def DenL (E : Env) (w : World) : List SV → List Value → Prop
  | [], [] => True
  | x :: l, v :: vs => Den E w x v ∧ DenL E w l vs
  | _, _ => False
theorem DenL.get {E : Env} {w : World} : ∀ {l : List SV} {vs : List Value}, DenL E w l vs → vs.length = l.length ∧ ∀ (i : Nat) (x : SV) (u : Value), l[i]? = some x → vs[i]? = some u → Den E w x u
  | [], [], _ => ⟨rfl, fun i x u h => by simp at h⟩
  | x :: l, v :: vs, h => by
    obtain ⟨h1, h2⟩ := DenL.get h.2
    refine ⟨by simp [h1], fun i y u hy hu => ?_⟩
    cases i with
    | zero => simp at hy hu; subst hy hu; exact h.1
    | succ i => exact h2 i y u (by simpa using hy) (by simpa using hu)
  | [], _ :: _, h => h.elim
  | _ :: _, [], h => h.elim
theorem denA_of {E : Env} {w : World} {l : List SV} {vs : List Value} (h : DenL E w l vs) : DenA E w l vs.toArray :=
  ⟨by simpa using h.get.1, fun i x u hx hu => h.get.2 i x u hx (by simpa using hu)⟩
theorem agg_2 {xs : List SV} {k1 k2 : IntKind} (hl : xs.length = 2) (h : ∀ (j : Nat) (a : SV) (sh : Sh), xs[j]? = some a → [Sh.int k1, Sh.int k2][j]? = some sh → Typ sh a) :
    ∃ x y, xs = [.int k1 x, .int k2 y] ∧ (Lit.int k1 x).wf = true ∧ (Lit.int k2 y).wf = true := by
  match xs, hl with
  | [a, b], _ =>
    have h0 := h 0 a _ rfl rfl
    have h1 := h 1 b _ rfl rfl
    cases h0 with
    | int w0 => cases h1 with
      | int w1 => exact ⟨_, _, rfl, w0, w1⟩
theorem intK_of_typ {k : IntKind} {n c : Nat} {f : Nat → Nat → SV} {e : List Sh} (he : e = List.replicate c (Sh.int k)) (h : ∀ i j sh, i < n → e[j]? = some sh → Typ sh (f i j)) : IntK k n c f ∧ ∀ i j, i < n → j < c → (Lit.int k (iv (f i j))).wf = true := by
  have : ∀ i j, i < n → j < c → ∃ x, f i j = .int k x ∧ (Lit.int k x).wf = true := fun i j hi hj => by
    have := h i j (.int k) hi (by rw [he]; simp [List.getElem?_replicate, hj])
    generalize f i j = x at this
    cases this with
    | int hw => exact ⟨_, rfl, hw⟩
  exact ⟨fun i j hi hj => by obtain ⟨x, hx, _⟩ := this i j hi hj; rw [hx]; rfl, fun i j hi hj => by obtain ⟨x, hx, hw⟩ := this i j hi hj; rw [hx]; exact hw⟩
end Go.Eng
end

/- Cells by their shapes. -/
section
namespace Go.Eng
open Go Go.RowKit
theorem typ_int {k : IntKind} {a : SV} (h : Typ (.int k) a) : ∃ n, a = .int k n ∧ (Lit.int k n).wf = true := by
  cases h with
  | int h => exact ⟨_, rfl, h⟩
theorem typ_bool {a : SV} (h : Typ .bool a) : ∃ b, a = .bool b := by
  cases h with
  | bool b => exact ⟨b, rfl⟩
theorem typ_sl {e : List Sh} {a : SV} (h : Typ (.sl e) a) : ∃ n f, a = .row n e.length f ∧ n ≤ maxLen ∧ ∀ i j sh, i < n → e[j]? = some sh → Typ sh (f i j) := by
  cases h with
  | sl hn h => exact ⟨_, _, rfl, hn, h⟩
end Go.Eng
end

/- Rows of structs that hold one slice of numbers each. -/
section
namespace Go.Eng
open Go Go.RowKit Go.Proofs
/-- Rows that are alike cell by cell. -/
theorem SameD.row {n sz : Nat} {f g : Nat → Nat → SV} (h : ∀ i j, i < n → j < sz → SameD (f i j) (g i j)) : SameD (.row n sz f) (.row n sz g) := ⟨fun E w v hd => by
  cases hd with
  | row A cap q hA ho hn hc h1 hd => exact .row A cap q hA ho hn hc h1 (fun i j hi hj => (h i j hi hj).out E w _ (hd i j hi hj))
  | rowZ a cap => exact .rowZ a cap⟩
def nestF (k s : Nat) (A : Nat → Nat → Int) (M : Nat → Nat) (V : Nat → Nat → Nat → Int) : Nat → Nat → SV :=
  fun i j => if j = k then .row (M i) s (fun a b => .int .i64 (V i a b)) else .int .i64 (A i j)
theorem nestF_eq (k s : Nat) (A : Nat → Nat → Int) (M : Nat → Nat) (V : Nat → Nat → Nat → Int) (i j : Nat) :
    nestF k s A M V i j = if j = k then .row (M i) s (fun a b => .int .i64 (V i a b)) else .int .i64 (A i j) := rfl
theorem nestF11_0 (s : Nat) (A : Nat → Nat → Int) (M : Nat → Nat) (V : Nat → Nat → Nat → Int) (i : Nat) : nestF 1 s A M V i 0 = .int .i64 (A i 0) := rfl
theorem nestF11_1 (s : Nat) (A : Nat → Nat → Int) (M : Nat → Nat) (V : Nat → Nat → Nat → Int) (i : Nat) : nestF 1 s A M V i 1 = .row (M i) s (fun a b => .int .i64 (V i a b)) := rfl
theorem nestF_sh (k s : Nat) (A : Nat → Nat → Int) (M : Nat → Nat) (V : Nat → Nat → Nat → Int) (i : Nat) : (fun a j => nestF k s A M V (i + a) j) = nestF k s (fun a => A (i + a)) (fun a => M (i + a)) (fun a => V (i + a)) := rfl
theorem frzF_nest (d : Nat) (h : HS) (k s : Nat) (A : Nat → Nat → Int) (M : Nat → Nat) (V : Nat → Nat → Nat → Int) (i j : Nat) : frzF (d + 1) h (nestF k s A M V i j) = nestF k s A M V i j := by
  simp only [nestF]
  split <;> rfl
def rowN : SV → Nat
  | .row n _ _ => n
  | _ => 0
def rowC : SV → Nat → Nat → SV
  | .row _ _ f => f
  | _ => fun _ _ => .any
def nsA (f : Nat → Nat → SV) : Nat → Nat → Int := fun i j => iv (f i j)
def nsM (k : Nat) (f : Nat → Nat → SV) : Nat → Nat := fun i => rowN (f i k)
def nsV (k : Nat) (f : Nat → Nat → SV) : Nat → Nat → Nat → Int := fun i a b => iv (rowC (f i k) a b)
/-- A cell that is a slice of numbers. -/
def IsR (s : Nat) : SV → Prop
  | .row m s' g => (s' = s ∨ m = 0) ∧ IntR m s g
  | _ => False
def NestR (n sz k s : Nat) (f : Nat → Nat → SV) : Prop := ∀ i, i < n → (∀ j, j < sz → j ≠ k → f i j = .int .i64 (iv (f i j))) ∧ (k < sz → IsR s (f i k))
theorem nestR_lit (n sz k s : Nat) (A : Nat → Nat → Int) (M : Nat → Nat) (V : Nat → Nat → Nat → Int) : NestR n sz k s (nestF k s A M V) = True :=
  eq_true fun i _ => ⟨fun j _ hj => by simp [nestF, hj, iv], fun _ => by simp only [nestF, if_true, IsR]; exact ⟨.inl trivial, fun a b _ _ => rfl⟩⟩
theorem nsM_lit (k s : Nat) (A : Nat → Nat → Int) (M : Nat → Nat) (V : Nat → Nat → Nat → Int) : nsM k (nestF k s A M V) = M := by
  funext i; simp [nsM, nestF, rowN]
theorem nsV_lit (k s : Nat) (A : Nat → Nat → Int) (M : Nat → Nat) (V : Nat → Nat → Nat → Int) : nsV k (nestF k s A M V) = V := by
  funext i a b; simp [nsV, nestF, rowC, iv]
theorem nsA_lit {k s : Nat} {A : Nat → Nat → Int} {M : Nat → Nat} {V : Nat → Nat → Nat → Int} (i : Nat) {j : Nat} (h : j ≠ k) : nsA (nestF k s A M V) i j = A i j := by
  simp [nsA, nestF, iv, h]
theorem isR_same {s : Nat} {x : SV} (h : IsR s x) : SameD x (.row (rowN x) s (fun a b => .int .i64 (iv (rowC x a b)))) := by
  cases x <;> first | exact h.elim | skip
  rename_i m s' g
  obtain ⟨h1, h2⟩ := h
  rcases h1 with rfl | rfl
  · exact SameD.int h2
  · exact SameD.row0
theorem SameD.nest {n sz k s : Nat} {f : Nat → Nat → SV} (h : NestR n sz k s f) : SameD (.row n sz f) (.row n sz (nestF k s (nsA f) (nsM k f) (nsV k f))) := by
  refine SameD.row fun i j hi hj => ?_
  obtain ⟨h1, h2⟩ := h i hi
  simp only [nestF, nsA, nsM, nsV]
  split
  · rename_i e; subst e
    exact isR_same (h2 hj)
  · rename_i e
    rw [h1 j hj e]
    exact SameD.rfl' _
theorem nest_bd {n sz k s : Nat} {f : Nat → Nat → SV} (h : NestR n sz k s f) (i j : Nat) (hi : i < n) (hj : j < sz) : Bd 0 0 (f i j) := by
  obtain ⟨h1, h2⟩ := h i hi
  by_cases e : j = k
  · subst e
    have := h2 hj
    generalize f i j = x at this
    cases x <;> first | exact this.elim | skip
    rename_i m s' g
    obtain ⟨h3, h4⟩ := this
    simp only [Bd]
    intro a b ha hb
    rcases h3 with rfl | rfl
    · rw [h4 a b ha hb]; trivial
    · omega
  · rw [h1 j hj e]; trivial
theorem nestF_bd1 (L K k s : Nat) (A : Nat → Nat → Int) (M : Nat → Nat) (V : Nat → Nat → Nat → Int) (i j : Nat) : Bd L K (nestF k s A M V i j) := by
  simp only [nestF]
  split
  · simp only [Bd]
    exact fun _ _ _ _ => trivial
  · trivial
theorem nestF_bd (L K n sz k s : Nat) (A : Nat → Nat → Int) (M : Nat → Nat) (V : Nat → Nat → Nat → Int) : ∀ i j, i < n → j < sz → Bd L K (nestF k s A M V i j) := fun i j _ _ => by
  simp only [nestF]
  split
  · simp only [Bd]
    exact fun _ _ _ _ => trivial
  · trivial
/-- The literals of a sample: each element is told. -/
theorem nestR_of {n sz k s : Nat} {f : Nat → Nat → SV} (h : ∀ i, i < n → (∀ j, j < sz → j ≠ k → f i j = .int .i64 (iv (f i j))) ∧ (k < sz → IsR s (f i k))) : NestR n sz k s f := h
/-- Out of the shapes of a law's argument. -/
theorem nestR_typ {n sz k s : Nat} {f : Nat → Nat → SV} {e : List Sh} (he : ∀ j, j < sz → j ≠ k → e[j]? = some (.int .i64)) (hk : e[k]? = some (.sl (List.replicate s (.int .i64))))
    (h : ∀ i j sh, i < n → e[j]? = some sh → Typ sh (f i j)) : NestR n sz k s f ∧ (∀ i j, i < n → j < sz → j ≠ k → (Lit.int .i64 (nsA f i j)).wf = true) ∧ (∀ i, i < n → nsM k f i ≤ maxLen) ∧ ∀ i a b, i < n → a < nsM k f i → b < s → (Lit.int .i64 (nsV k f i a b)).wf = true := by
  have h1 : ∀ i j, i < n → j < sz → j ≠ k → f i j = .int .i64 (iv (f i j)) ∧ (Lit.int .i64 (iv (f i j))).wf = true := fun i j hi hj hjk => by
    obtain ⟨x, hx, hw⟩ := typ_int (h i j _ hi (he j hj hjk))
    rw [hx]; exact ⟨rfl, hw⟩
  have h2 : ∀ i, i < n → ∃ m g, f i k = .row m s g ∧ m ≤ maxLen ∧ IntR m s g ∧ ∀ a b, a < m → b < s → (Lit.int .i64 (iv (g a b))).wf = true := fun i hi => by
    obtain ⟨m, g, hx, hm, ht⟩ := typ_sl (h i k _ hi hk)
    obtain ⟨q1, q2⟩ := intK_of_typ rfl ht
    exact ⟨m, g, by rw [hx, List.length_replicate], hm, fun a b ha hb => q1 a b ha hb, q2⟩
  refine ⟨fun i hi => ⟨fun j hj hjk => (h1 i j hi hj hjk).1, fun _ => ?_⟩, fun i j hi hj hjk => (h1 i j hi hj hjk).2, fun i hi => ?_, fun i a b hi ha hb => ?_⟩
  · obtain ⟨m, g, hx, _, h3, _⟩ := h2 i hi
    rw [hx]; exact ⟨.inl rfl, h3⟩
  · obtain ⟨m, g, hx, h3, _⟩ := h2 i hi
    simp only [nsM, hx, rowN]; exact h3
  · obtain ⟨m, g, hx, _, _, h3⟩ := h2 i hi
    simp only [nsM, nsV, hx, rowN, rowC] at ha ⊢
    exact h3 a b ha hb
theorem wf_u8 {x : Int} (h : (Lit.int IntKind.u8 x).wf = true) : 0 ≤ x ∧ x ≤ 255 := by
  simp [Lit.wf, IntKind.min, IntKind.max, IntKind.signed, IntKind.bits] at h
  omega
theorem wf_u16 {x : Int} (h : (Lit.int IntKind.u16 x).wf = true) : 0 ≤ x ∧ x ≤ 65535 := by
  simp [Lit.wf, IntKind.min, IntKind.max, IntKind.signed, IntKind.bits] at h
  omega
theorem wf_u32 {x : Int} (h : (Lit.int IntKind.u32 x).wf = true) : 0 ≤ x ∧ x ≤ 4294967295 := by
  simp [Lit.wf, IntKind.min, IntKind.max, IntKind.signed, IntKind.bits] at h
  omega
theorem tmod_nat {i z : Nat} : (i : Int).tmod (z : Int) = ((i % z : Nat) : Int) := by
  rw [Int.tmod_eq_emod_of_nonneg (by omega)]; rfl
/- Closed rows, checked. -/
def isI64 : SV → Bool
  | .int .i64 _ => true
  | _ => false
theorem isI64_eq {x : SV} (h : isI64 x = true) : x = .int .i64 (iv x) := by
  cases x <;> first | (cases h; done) | skip
  rename_i k n
  cases k <;> first | rfl | cases h
def allB (p : Nat → Bool) : Nat → Bool
  | 0 => true
  | n + 1 => allB p n && p n
theorem allB_get {p : Nat → Bool} : ∀ {n : Nat}, allB p n = true → ∀ i, i < n → p i = true
  | 0, _, i, hi => absurd hi (by omega)
  | n + 1, h, i, hi => by
    simp only [allB, Bool.and_eq_true] at h
    rcases Nat.lt_or_ge i n with h1 | h1
    · exact allB_get h.1 i h1
    · obtain rfl : i = n := by omega
      exact h.2
def intRb (n sz : Nat) (f : Nat → Nat → SV) : Bool := allB (fun i => allB (fun j => isI64 (f i j)) sz) n
theorem intRb_ok {n sz : Nat} {f : Nat → Nat → SV} (h : intRb n sz f = true) : IntR n sz f := fun i j hi hj => isI64_eq (allB_get (allB_get h i hi) j hj)
def isRb (s : Nat) : SV → Bool
  | .row m s' g => (s' == s || m == 0) && intRb m s g
  | _ => false
theorem isRb_ok {s : Nat} {x : SV} (h : isRb s x = true) : IsR s x := by
  cases x <;> first | (cases h; done) | skip
  simp only [isRb, Bool.and_eq_true, Bool.or_eq_true, beq_iff_eq] at h
  exact ⟨h.1, intRb_ok h.2⟩
def nestRb (n sz k s : Nat) (f : Nat → Nat → SV) : Bool := allB (fun i => allB (fun j => if j == k then isRb s (f i j) else isI64 (f i j)) sz) n
theorem nestRb_ok {n sz k s : Nat} {f : Nat → Nat → SV} (h : nestRb n sz k s f = true) : NestR n sz k s f := fun i hi => by
  have h1 := allB_get h i hi
  refine ⟨fun j hj hjk => ?_, fun hk => ?_⟩
  · have := allB_get h1 j hj
    rw [if_neg (by simpa using hjk)] at this
    exact isI64_eq this
  · have := allB_get h1 k hk
    rw [if_pos (by simp)] at this
    exact isRb_ok this
theorem spl_f {q : Bool} {A B : Prop} (h : q = false) (hb : B) : spl q A B := ⟨fun e => by (rw [h] at e; cases e), fun _ => hb⟩
theorem spl_t {q : Bool} {A B : Prop} (h : q = true) (ha : A) : spl q A B := ⟨fun _ => ha, fun e => by (rw [h] at e; cases e)⟩
end Go.Eng
end

/- Families of own slices: the names behind the others, one for each number. -/
section
namespace Go.Eng
set_option linter.unusedVariables false
/-- So many slices behind others, the i-th one being f i. -/
def tabV (f : Nat → Vc) : Nat → List Vc
  | 0 => []
  | n + 1 => tabV f n ++ [f n]
theorem lenV_len : ∀ l : List Vc, lenV l = l.length
  | [] => rfl
  | _ :: l => by simp [lenV, lenV_len l]
theorem tabV_len (f : Nat → Vc) : ∀ n, (tabV f n).length = n
  | 0 => rfl
  | n + 1 => by simp [tabV, tabV_len f n]
theorem getV_eq : ∀ (l : List Vc) (n : Nat), getV l n = l.getD n .dead
  | [], n => by simp [getV]
  | x :: l, 0 => by simp [getV]
  | x :: l, n + 1 => by simp [getV, getV_eq l n]
theorem setV_eq : ∀ (l : List Vc) (n : Nat) (x : Vc), setV l n x = l.set n x
  | [], n, x => by simp [setV]
  | y :: l, 0, x => by simp [setV]
  | y :: l, n + 1, x => by simp [setV, setV_eq l n x]
theorem snocV_eq : ∀ (l : List Vc) (x : Vc), snocV l x = l ++ [x]
  | [], x => rfl
  | y :: l, x => by simp [snocV, snocV_eq l x]
theorem tabV_get (f : Nat → Vc) : ∀ (n i : Nat), i < n → (tabV f n)[i]? = some (f i)
  | 0, i, h => absurd h (by omega)
  | n + 1, i, h => by
    simp only [tabV]
    rcases Nat.lt_or_ge i n with g | g
    · rw [List.getElem?_append_left (by rw [tabV_len]; exact g), tabV_get f n i g]
    · obtain rfl : i = n := by omega
      rw [List.getElem?_append_right (by rw [tabV_len]; exact Nat.le_refl _), tabV_len]
      simp
theorem tabV_congr {f g : Nat → Vc} : ∀ (n : Nat), (∀ i, i < n → f i = g i) → tabV f n = tabV g n
  | 0, _ => rfl
  | n + 1, h => by simp only [tabV, tabV_congr n (fun i hi => h i (by omega)), h n (by omega)]
/-- One of them is looked up. -/
theorem getV_fam (l : List Vc) (f : Nat → Vc) (n i : Nat) (h : i < n) : getV (l ++ tabV f n) (lenV l + i) = f i := by
  rw [getV_eq, List.getD_eq_getElem?_getD, lenV_len, List.getElem?_append_right (by omega), show l.length + i - l.length = i by omega, tabV_get f n i h]
  rfl
/-- One of those ahead of them. -/
theorem getV_pre (l : List Vc) (f : Nat → Vc) (n i : Nat) (h : i < lenV l) : getV (l ++ tabV f n) i = getV l i := by
  rw [lenV_len] at h
  rw [getV_eq, getV_eq, List.getD_eq_getElem?_getD, List.getD_eq_getElem?_getD, List.getElem?_append_left h]
/-- One more. -/
theorem snocV_fam (l : List Vc) (f : Nat → Vc) (n : Nat) (x : Vc) : snocV (l ++ tabV f n) x = l ++ tabV (fun i => if i = n then x else f i) (n + 1) := by
  rw [snocV_eq, List.append_assoc]
  simp only [tabV, if_true]
  rw [tabV_congr (f := fun i => if i = n then x else f i) (g := f) n (fun i hi => by rw [if_neg (by omega)])]
/-- One of them is another one. -/
theorem setV_fam (l : List Vc) (f : Nat → Vc) (n i : Nat) (x : Vc) (h : i < n) : setV (l ++ tabV f n) (lenV l + i) x = l ++ tabV (fun j => if j = i then x else f j) n := by
  rw [setV_eq, lenV_len, List.set_append_right _ _ (by omega), show l.length + i - l.length = i by omega]
  congr 1
  apply List.ext_getElem?
  intro j
  rcases Nat.lt_or_ge j n with g | g
  · rw [tabV_get _ n j g, List.getElem?_set]
    by_cases e : i = j
    · subst e
      rw [if_pos rfl, if_pos (by rw [tabV_len]; exact g), if_pos rfl]
    · rw [if_neg e, tabV_get f n j g, if_neg (fun q => e q.symm)]
  · rw [List.getElem?_eq_none (by rw [List.length_set, tabV_len]; exact g), List.getElem?_eq_none (by rw [tabV_len]; exact g)]
theorem lenV_fam (l : List Vc) (f : Nat → Vc) (n : Nat) : lenV (l ++ tabV f n) = lenV l + n := by
  simp [lenV_len, tabV_len]
theorem subV_app : ∀ {l l' k k' : List Vc}, l.length = l'.length → subV l l' → subV k k' → subV (l ++ k) (l' ++ k')
  | [], [], k, k', _, _, h => h
  | x :: l, y :: l', k, k', hl, h1, h2 => ⟨h1.1, subV_app (by simpa using hl) h1.2 h2⟩
  | [], _ :: _, _, _, hl, _, _ => by simp at hl
  | _ :: _, [], _, _, hl, _, _ => by simp at hl
theorem subV_tab {f g : Nat → Vc} : ∀ (n : Nat), (∀ i, i < n → subVk (f i) (g i)) → subV (tabV f n) (tabV g n)
  | 0, _ => trivial
  | n + 1, h => subV_app (by rw [tabV_len, tabV_len]) (subV_tab n (fun i hi => h i (by omega))) ⟨h n (by omega), trivial⟩
theorem bdV_app {L M : Nat} : ∀ {l k : List Vc}, bdV L M l → bdV L M k → bdV L M (l ++ k)
  | [], k, _, h => h
  | .live _ _ _ _ _ :: l, k, h1, h2 => ⟨h1.1, bdV_app (l := l) h1.2 h2⟩
  | .dead :: l, k, h1, h2 => bdV_app (l := l) h1 h2
theorem bdV_tab {L M : Nat} {f : Nat → Vc} : ∀ (n : Nat), (∀ i, i < n → bdV L M [f i]) → bdV L M (tabV f n)
  | 0, _ => trivial
  | n + 1, h => bdV_app (bdV_tab n (fun i hi => h i (by omega))) (h n (by omega))
end Go.Eng
end

/- Families of own slices: some names, then one for each number, then others. Calls framed by names that are shifted. -/
section
namespace Go.Eng
open Go.RowKit
set_option linter.unusedVariables false
theorem calls_ren2 {P : Program} {g : Nat} {args0 : List SV} {h0 h : HS} {K0 : Out → HS → Prop} (bs vs : List Nat) (b v : Nat → Nat) (eb : ∀ i, i < bs.length → b i = nmN bs i) (ev : ∀ i, i < vs.length → v i = nmN vs i) (hc : CallsS P g args0 h0 K0) (nb : bs.Nodup) (nv : vs.Nodup)
    (ba : BdL bs.length vs.length args0) (bB : bdB bs.length vs.length h0.blks) (bV : bdV bs.length vs.length h0.vecs)
    (hB : matB b v bs h.blks h0.blks) (hV : matV b v vs h.vecs h0.vecs) (hlB : ∀ k, k ∈ bs → k < lenB h.blks) (hlV : ∀ k, k ∈ vs → k < lenV h.vecs)
    (hK : ∀ o h', K0 o h' → lenB h'.blks = bs.length ∧ lenV h'.vecs = vs.length ∧ bdB bs.length vs.length h'.blks ∧ bdV bs.length vs.length h'.vecs ∧ bdO bs.length vs.length o) :
    CallsS P g (renL b v args0) h (fun o h' => ∃ o0 h0', K0 o0 h0' ∧ o = renO b v o0 ∧ h' = ⟨putB b v bs h.blks h0'.blks, putV b v vs h.vecs h0'.vecs⟩) := by
  intro E w vals hr hd
  obtain ⟨lB, gB⟩ := matB_get hB
  obtain ⟨lV, gV⟩ := matV_get hV
  have hnmb : ∀ i, i < bs.length → nmN bs i < E.nb := fun i hi => by rw [hr.nb]; exact hlB _ (nmN_mem hi)
  have hnmv : ∀ i, i < vs.length → nmN vs i < E.nv := fun i hi => by rw [hr.nv]; exact hlV _ (nmN_mem hi)
  have un := fun (x : SV) (u : Value) (hx : Den E w (renS b v x) u) (hb : Bd bs.length vs.length x) =>
    Den.unren (E := E) (E0 := E.small bs vs) (w := w) (b := b) (v := v) (L := bs.length) (M := vs.length) (fun nm hn => ⟨hn, by simp only [Env.small, eb nm hn]⟩) (fun id ver y hi hy => ⟨hi, by simp only [Env.small, ← ev id hi]; exact hy⟩) (fun k _ hk => by simp [Env.small, hk, tagS]) x u hx hb
  have unL := fun (l : List SV) (us : Array Value) (hx : DenA E w (renL b v l) us) (hb : BdL bs.length vs.length l) => (show DenA (E.small bs vs) w l us from
    ⟨by rw [hx.1, renL_eq]; simp, Den.unrenL (E := E) (E0 := E.small bs vs) (w := w) (b := b) (v := v) (L := bs.length) (M := vs.length) (fun nm hn => ⟨hn, by simp only [Env.small, eb nm hn]⟩) (fun id ver y hi hy => ⟨hi, by simp only [Env.small, ← ev id hi]; exact hy⟩) (fun k _ hk => by simp [Env.small, hk, tagS]) l us hx.2 hb⟩)
  have ownB : ∀ i, i < bs.length → ∀ k, E.own k = some (.blk (nmN bs i)) → (E.small bs vs).own k = some (.blk i) := fun i hi k hk => by simp [Env.small, hk, tagS, ixN_nm nb hi]
  have ownV : ∀ i, i < vs.length → ∀ k, E.own k = some (.vec (nmN vs i)) → (E.small bs vs).own k = some (.vec i) := fun i hi k hk => by simp [Env.small, hk, tagS, ixN_nm nv hi]
  have hr0 : RelH (E.small bs vs) h0 w := by
    refine ⟨by simp [Env.small, lB], by simp [Env.small, lV], ?_, ?_, ?_, ?_, ?_⟩
    · intro nm ty c hg
      have hlt : nm < bs.length := by rw [← lB]; exact getB_lt hg
      have hg' := gB nm hlt
      rw [hg] at hg'
      obtain ⟨cs, a1, a2, a3, a4⟩ := hr.blk _ _ _ hg'
      exact ⟨cs, a1, unL c cs a2 (bdB_get bB hg), a3, ownB nm hlt _ a4⟩
    · intro id ver ty sz n f hg
      have hlt : id < vs.length := by rw [← lV]; exact getV_lt hg
      have hg' := gV id hlt
      rw [hg] at hg'
      obtain ⟨c0, ⟨a, cap, k1, k2⟩, k3⟩ := hr.vec _ _ _ _ _ _ hg'
      refine ⟨c0, ⟨a, cap, k1, ?_⟩, k3⟩
      rcases k2 with hk | ⟨g1, o, cur, q1, q2, q3, q4, q5, q6, q7, q8⟩
      · exact .inl hk
      · exact .inr ⟨g1, o, cur, q1, q2, q3, q4, q5, ownV id hlt _ q6, q7, fun i j u hi hj hu => un _ _ (q8 i j u hi hj hu) (bdV_get bV hg i j hi hj)⟩
    · intro k t hk
      simp only [Env.small] at hk
      cases ho : E.own k with
      | none => rw [ho] at hk; simp [tagS] at hk
      | some t' => exact hr.own k t' ho
    · intro nm st pend fid t params assign body hg
      have hlt : nm < bs.length := by rw [← lB]; exact getB_ltL hg
      have hg' := gB nm hlt
      rw [hg] at hg'
      obtain ⟨tmps, db, a1, a2, a3⟩ := hr.lp _ _ _ _ _ _ _ _ hg'
      exact ⟨tmps, db, a1, unL t tmps a2 (bdB_getL bB hg), ownB nm hlt _ a3⟩
    · intro nm m hg
      have hlt : nm < bs.length := by rw [← lB]; exact getB_ltM hg
      have hg' := gB nm hlt
      rw [hg] at hg'
      obtain ⟨a2, a3⟩ := hr.mp _ _ hg'
      have hi := bdB_getM bB hg
      refine ⟨ownB nm hlt _ a2, ?_⟩
      rw [hi] at a3 ⊢
      exact a3
  refine (hc (E.small bs vs) w vals hr0 (unL args0 vals hd ba)).mono ?_
  rintro e w' ⟨o, h', E0', hk, hr', hx, hout⟩
  obtain ⟨k1, k2, k3, k4, k5⟩ := hK o h' hk
  have rho' : ∀ i, i < bs.length → E0'.rho i = E.rho (nmN bs i) := fun i hi => hx.rho i hi
  have hxG : Ext E w (E.great E0' bs vs) w' := by
    refine ⟨hx.os, hx.tape, hx.output, hx.size, Nat.le_refl _, Nat.le_refl _, fun _ _ => rfl, fun id ver x hi hv => ?_, fun k hk ho => ?_, fun k ho => ?_⟩
    · simp only [Env.great]
      split
      · rename_i i hi'
        obtain ⟨q1, q2⟩ := ixN_some hi'
        exact hx.val i ver x q1 (by simp only [Env.small, q2]; exact hv)
      · exact hv
    · obtain ⟨q1, q2⟩ := hx.keep k hk (by simp [Env.small, ho, tagS])
      exact ⟨by simp [Env.great, q1, tagG], q2⟩
    · obtain ⟨q1, q2⟩ := hx.oth k (by simp [Env.small, ho, tagS])
      exact ⟨by simp [Env.great, q1, tagG, ho, tagS], q2⟩
  have up := fun (x : SV) (u : Value) (hd : Den E0' w' x u) (hb : Bd bs.length vs.length x) =>
    Den.ren (E := E.great E0' bs vs) (E0 := E0') (b := b) (v := v) hd hb (fun nm hn _ => ⟨by rw [eb nm hn]; exact hnmb nm hn, by rw [eb nm hn]; exact (rho' nm hn).symm⟩) (fun id ver y hi _ hy => ⟨by rw [ev id hi]; exact hnmv id hi, by simp only [Env.great, ev id hi, ixN_nm nv hi]; exact hy⟩) (fun k _ hk => by simp [Env.great, hk, tagG])
  have upL := fun (l : List SV) (us : Array Value) (hd : DenA E0' w' l us) (hb : BdL bs.length vs.length l) => (show DenA (E.great E0' bs vs) w' (renL b v l) us from
    ⟨by rw [hd.1, renL_eq]; simp, fun i x u hx hu => by
      rw [renL_eq, List.getElem?_map, Option.map_eq_some_iff] at hx
      obtain ⟨y, hy, rfl⟩ := hx
      exact up y u (hd.2 i y u hy hu) (BdL_get hb i y hy)⟩)
  have gown : ∀ i, i < bs.length → E0'.own (E0'.rho i) = some (.blk i) → (E.great E0' bs vs).own (E.rho (nmN bs i)) = some (.blk (nmN bs i)) := fun i hi ho => by
    rw [rho' i hi] at ho
    simp [Env.great, ho, tagG, hi]
  -- what is not handed over stays
  have foreign : ∀ k t, E.own k = some t → (match t with | .blk m => ixN bs m = none | .vec m => ixN vs m = none | .other => True) → w'.heap[k]? = w.heap[k]? ∧ (E.great E0' bs vs).own k = E.own k := fun k t ho ht => by
    have hs : (E.small bs vs).own k = some .other := by
      simp only [Env.small, ho]
      cases t with
      | blk m => simp only at ht; simp [tagS, ht]
      | vec m => simp only at ht; simp [tagS, ht]
      | other => rfl
    obtain ⟨q1, q2⟩ := hx.oth k hs
    have hs' : tagS bs vs (E.own k) = some .other := hs
    exact ⟨q2, by simp [Env.great, q1, tagG, hs']⟩
  refine ⟨renO b v o, _, E.great E0' bs vs, ⟨o, h', hk, rfl, rfl⟩, ?_, hxG, ?_⟩
  · have gBp := getB_put b v bs h.blks h'.blks nb k1 hlB
    have gVp := getV_put b v vs h.vecs h'.vecs nv k2 hlV
    refine ⟨by rw [lenB_put]; exact hr.nb, by rw [lenV_put]; exact hr.nv, ?_, ?_, ?_, ?_, ?_⟩
    · intro nm ty c hg
      rw [gBp] at hg
      split at hg
      · rename_i i hi
        obtain ⟨q1, q2⟩ := ixN_some hi
        subst q2
        cases hb : getB h'.blks i with
        | live ty' c' =>
          rw [hb] at hg
          simp only [renK, Blk.live.injEq] at hg
          obtain ⟨rfl, rfl⟩ := hg
          obtain ⟨cs, a1, a2, a3, a4⟩ := hr'.blk _ _ _ hb
          exact ⟨cs, by rw [rho' i q1] at a1; exact a1, upL c' cs a2 (bdB_get k3 hb), a3, gown i q1 a4⟩
        | dead => rw [hb] at hg; simp [renK] at hg
        | loop => rw [hb] at hg; simp [renK] at hg
        | mp => rw [hb] at hg; simp [renK] at hg
      · rename_i hn
        obtain ⟨cs, a1, a2, a3, a4⟩ := hr.blk _ _ _ hg
        obtain ⟨f1, f2⟩ := foreign _ _ a4 hn
        exact ⟨cs, f1.trans a1, a2.ext hxG, a3, f2.trans a4⟩
    · intro id ver ty sz n f hg
      rw [gVp] at hg
      split at hg
      · rename_i i hi
        obtain ⟨q1, q2⟩ := ixN_some hi
        subst q2
        cases hb : getV h'.vecs i with
        | live ver' ty' sz' n' f' =>
          rw [hb] at hg
          simp only [renC, Vc.live.injEq] at hg
          obtain ⟨rfl, rfl, rfl, rfl, rfl⟩ := hg
          obtain ⟨c0, ⟨a, cap, l1, l2⟩, l3⟩ := hr'.vec _ _ _ _ _ _ hb
          have hval : ∀ ver, (E.great E0' bs vs).val (nmN vs i) ver = E0'.val i ver := fun ver => by simp only [Env.great, ixN_nm nv q1]
          refine ⟨c0, ⟨a, cap, by rw [hval]; exact l1, ?_⟩, fun v' hv' => by rw [hval]; exact l3 v' hv'⟩
          rcases l2 with hk | ⟨g1, o, cur, p1, p2, p3, p4, p5, p6, p7, p8⟩
          · exact .inl hk
          · exact .inr ⟨g1, o, cur, p1, p2, p3, p4, p5, by simp [Env.great, p6, tagG, q1], p7, fun a j u hi hj hu => up _ _ (p8 a j u hi hj hu) (bdV_get k4 hb a j hi hj)⟩
        | dead => rw [hb] at hg; simp [renC] at hg
      · rename_i hn
        obtain ⟨c0, ⟨a, cap, l1, l2⟩, l3⟩ := hr.vec _ _ _ _ _ _ hg
        have hval : ∀ ver, (E.great E0' bs vs).val id ver = E.val id ver := fun ver => by simp only [Env.great, hn]
        exact ⟨c0, ⟨a, cap, by rw [hval]; exact l1, l2.ext hxG (fun g hg => foreign g _ hg hn)⟩, fun v' hv' => by rw [hval]; exact l3 v' hv'⟩
    · intro k t hk
      rcases Nat.lt_or_ge k w'.heap.size with h | h
      · exact h
      · exfalso
        have n0 : E0'.own k = none := by
          cases ho : E0'.own k with
          | none => rfl
          | some t' => have := hr'.own k t' ho; omega
        simp [Env.great, n0, tagG] at hk
    · intro nm st pend fid t params assign body hg
      rw [gBp] at hg
      split at hg
      · rename_i i hi
        obtain ⟨q1, q2⟩ := ixN_some hi
        subst q2
        cases hb : getB h'.blks i with
        | loop st' pend' fid' t' params' assign' body' =>
          rw [hb] at hg
          simp only [renK, Blk.loop.injEq] at hg
          obtain ⟨rfl, rfl, rfl, rfl, rfl, rfl, rfl⟩ := hg
          obtain ⟨tmps, db, a1, a2, a3⟩ := hr'.lp _ _ _ _ _ _ _ _ hb
          exact ⟨tmps, db, by rw [rho' i q1] at a1; exact a1, upL t' tmps a2 (bdB_getL k3 hb), gown i q1 a3⟩
        | dead => rw [hb] at hg; simp [renK] at hg
        | live => rw [hb] at hg; simp [renK] at hg
        | mp => rw [hb] at hg; simp [renK] at hg
      · rename_i hn
        exact (hr.lp _ _ _ _ _ _ _ _ hg).ext hxG (fun ho => ⟨rfl, foreign _ _ ho hn⟩)
    · intro nm m hg
      rw [gBp] at hg
      split at hg
      · rename_i i hi
        obtain ⟨q1, q2⟩ := ixN_some hi
        subst q2
        cases hb : getB h'.blks i with
        | mp m' =>
          rw [hb] at hg
          simp only [renK, Blk.mp.injEq] at hg
          subst hg
          obtain ⟨a2, a3⟩ := hr'.mp _ _ hb
          have hi := bdB_getM k3 hb
          rw [hi] at a3
          obtain ⟨es, a1, a4⟩ := a3
          refine ⟨gown i q1 a2, ?_⟩
          rw [hi]
          exact ⟨es, by rw [rho' i q1] at a1; exact a1, a4⟩
        | dead => rw [hb] at hg; simp [renK] at hg
        | live => rw [hb] at hg; simp [renK] at hg
        | loop => rw [hb] at hg; simp [renK] at hg
      · rename_i hn
        exact (hr.mp _ _ hg).ext hxG (fun ho => ⟨rfl, foreign _ _ ho hn⟩)
  · cases o with
    | ret x =>
      cases e with
      | returned val => exact up x val hout k5
      | panicked _ => exact hout.elim
      | outgrown => exact hout.elim
    | pan x =>
      cases e with
      | panicked chain => obtain ⟨val, h1, h2⟩ := hout; exact ⟨val, h1, up x val h2 k5⟩
      | returned _ => exact hout.elim
      | outgrown => exact hout.elim
    | fin p ts => cases e <;> exact hout.elim
    | stop k t => cases e <;> exact hout.elim
    | rnd v => cases e <;> exact hout.elim


/- ### shifted names -/
mutual
theorem renS_id : ∀ x : SV, renS (fun n => n) (fun n => n) x = x
  | .any => rfl
  | .int _ _ => rfl
  | .bool _ => rfl
  | .str _ => rfl
  | .ptr _ _ => rfl
  | .nilp => rfl
  | .nils _ _ => rfl
  | .rptr sz f => by simp only [renS]; congr 1; funext j; exact renS_id (f j)
  | .row n sz f => by simp only [renS]; congr 1; funext i j; exact renS_id (f i j)
  | .vec _ _ => rfl
  | .vptr _ _ _ _ _ => rfl
  | .vcut _ _ _ _ _ _ => rfl
  | .bsl _ _ _ => rfl
  | .mapp _ => rfl
  | .func g caps => by simp only [renS, renL_id caps]
  | .nilf => rfl
  | .iface t x => by simp only [renS, renS_id x]
  | .nili => rfl
  | .agg l => by simp only [renS, renL_id l]
  | .tup l => by simp only [renS, renL_id l]
  | .yield _ => rfl
  | .meth g first => by simp only [renS, renL_id first]
theorem renL_id : ∀ l : List SV, renL (fun n => n) (fun n => n) l = l
  | [] => rfl
  | x :: l => by simp only [renL, renS_id x, renL_id l]
end
theorem renK_id (x : Blk) : renK (fun n => n) (fun n => n) x = x := by cases x <;> simp only [renK, renL_id]
theorem renC_id (x : Vc) : renC (fun n => n) (fun n => n) x = x := by
  cases x with
  | live ver ty sz n f => simp only [renC]; congr 1; funext i j; exact renS_id _
  | dead => rfl
theorem renO_id : ∀ o : Out, (∀ k t, o ≠ .stop k t) → (∀ p ts, o ≠ .fin p ts) → renO (fun n => n) (fun n => n) o = o
  | .ret x, _, _ => by simp only [renO, renS_id]
  | .pan x, _, _ => by simp only [renO, renS_id]
  | .rnd x, _, _ => by simp only [renO, renS_id]
  | .fin p ts, _, h => absurd rfl (h p ts)
  | .stop k t, h, _ => absurd rfl (h k t)
theorem nmN_range' : ∀ (n p i : Nat), i < n → nmN (List.range' p n) i = p + i
  | 0, p, i, h => absurd h (Nat.not_lt_zero _)
  | n + 1, p, 0, h => by simp [List.range'_succ, nmN]
  | n + 1, p, i + 1, h => by
    rw [List.range'_succ]
    simp only [nmN]
    rw [nmN_range' n (p + 1) i (by omega)]
    omega
theorem lenB_len : ∀ l : List Blk, lenB l = l.length
  | [] => rfl
  | _ :: l => by simp [lenB, lenB_len l]
theorem setB_eq : ∀ (l : List Blk) (n : Nat) (x : Blk), setB l n x = l.set n x
  | [], n, x => by simp [setB]
  | y :: l, 0, x => by simp [setB]
  | y :: l, n + 1, x => by simp [setB, setB_eq l n x]
theorem getB_eq : ∀ (l : List Blk) (n : Nat), getB l n = l.getD n .dead
  | [], n => by simp [getB]
  | x :: l, 0 => by simp [getB]
  | x :: l, n + 1 => by simp [getB, getB_eq l n]
theorem snocB_eq : ∀ (l : List Blk) (x : Blk), snocB l x = l ++ [x]
  | [], x => rfl
  | y :: l, x => by simp [snocB, snocB_eq l x]
theorem putB_mid (b v : Nat → Nat) : ∀ (l X Bp B : List Blk), X.length = l.length → putB b v (List.range' Bp.length l.length) (Bp ++ (X ++ B)) l = Bp ++ (l.map (renK b v) ++ B)
  | [], X, Bp, B, h => by
    obtain rfl : X = [] := List.length_eq_zero_iff.1 h
    simp [putB]
  | y :: l, X, Bp, B, h => by
    cases X with
    | nil => simp at h
    | cons x X =>
      rw [List.length_cons, List.range'_succ]
      simp only [putB]
      rw [setB_eq, List.set_append_right _ _ (Nat.le_refl _), Nat.sub_self]
      have := putB_mid b v l X (Bp ++ [renK b v y]) B (by simpa using h)
      simp only [List.length_append, List.length_cons, List.length_nil, Nat.zero_add, List.append_assoc, List.cons_append, List.nil_append] at this
      simpa using this
theorem putV_mid (b v : Nat → Nat) : ∀ (l X Vp V : List Vc), X.length = l.length → putV b v (List.range' Vp.length l.length) (Vp ++ (X ++ V)) l = Vp ++ (l.map (renC b v) ++ V)
  | [], X, Vp, V, h => by
    obtain rfl : X = [] := List.length_eq_zero_iff.1 h
    simp [putV]
  | y :: l, X, Vp, V, h => by
    cases X with
    | nil => simp at h
    | cons x X =>
      rw [List.length_cons, List.range'_succ]
      simp only [putV]
      rw [setV_eq, List.set_append_right _ _ (Nat.le_refl _), Nat.sub_self]
      have := putV_mid b v l X (Vp ++ [renC b v y]) V (by simpa using h)
      simp only [List.length_append, List.length_cons, List.length_nil, Nat.zero_add, List.append_assoc, List.cons_append, List.nil_append] at this
      simpa using this
theorem matB_mid (b v : Nat → Nat) : ∀ (l Bp B : List Blk), matB b v (List.range' Bp.length l.length) (Bp ++ (l.map (renK b v) ++ B)) l
  | [], Bp, B => by simp [matB]
  | y :: l, Bp, B => by
    rw [List.length_cons, List.range'_succ]
    refine ⟨by rw [getB_eq]; simp [List.getD], ?_⟩
    have := matB_mid b v l (Bp ++ [renK b v y]) B
    simpa using this
theorem matV_mid (b v : Nat → Nat) : ∀ (l Vp V : List Vc), matV b v (List.range' Vp.length l.length) (Vp ++ (l.map (renC b v) ++ V)) l
  | [], Vp, V => by simp [matV]
  | y :: l, Vp, V => by
    rw [List.length_cons, List.range'_succ]
    refine ⟨by rw [getV_eq]; simp [List.getD], ?_⟩
    have := matV_mid b v l (Vp ++ [renC b v y]) V
    simpa using this
/-- A call over a part of what is owned, whose names are shifted. -/
theorem calls_mid {P : Program} {g : Nat} {args0 : List SV} {h0 : HS} {K0 : Out → HS → Prop} (p q : Nat) (hc : CallsS P g args0 h0 K0)
    (ba : BdL h0.blks.length h0.vecs.length args0) (bB : bdB h0.blks.length h0.vecs.length h0.blks) (bV : bdV h0.blks.length h0.vecs.length h0.vecs)
    (hK : ∀ o h', K0 o h' → h'.blks.length = h0.blks.length ∧ h'.vecs.length = h0.vecs.length ∧ bdB h0.blks.length h0.vecs.length h'.blks ∧ bdV h0.blks.length h0.vecs.length h'.vecs ∧ bdO h0.blks.length h0.vecs.length o)
    (Bp B : List Blk) (Vp V : List Vc) (hp : Bp.length = p) (hq : Vp.length = q) :
    CallsS P g (renL (fun n => n + p) (fun n => n + q) args0) ⟨Bp ++ (h0.blks.map (renK (fun n => n + p) (fun n => n + q)) ++ B), Vp ++ (h0.vecs.map (renC (fun n => n + p) (fun n => n + q)) ++ V)⟩
      (fun o h' => ∃ o0 h0', K0 o0 h0' ∧ o = renO (fun n => n + p) (fun n => n + q) o0 ∧ h' = ⟨Bp ++ (h0'.blks.map (renK (fun n => n + p) (fun n => n + q)) ++ B), Vp ++ (h0'.vecs.map (renC (fun n => n + p) (fun n => n + q)) ++ V)⟩) := by
  subst hp hq
  have := calls_ren2 (h := ⟨Bp ++ (h0.blks.map (renK (fun n => n + Bp.length) (fun n => n + Vp.length)) ++ B), Vp ++ (h0.vecs.map (renC (fun n => n + Bp.length) (fun n => n + Vp.length)) ++ V)⟩)
    (List.range' Bp.length h0.blks.length) (List.range' Vp.length h0.vecs.length) (fun n => n + Bp.length) (fun n => n + Vp.length)
    (fun i hi => by rw [List.length_range'] at hi; rw [nmN_range' _ _ _ hi]; omega) (fun i hi => by rw [List.length_range'] at hi; rw [nmN_range' _ _ _ hi]; omega) hc List.nodup_range' List.nodup_range'
    (by simpa using ba) (by simpa using bB) (by simpa using bV) (matB_mid _ _ _ _ _) (matV_mid _ _ _ _ _)
    (fun k hk => by rw [lenB_len]; simp at hk ⊢; omega) (fun k hk => by rw [lenV_len]; simp at hk ⊢; omega)
    (fun o h' hk => by rw [lenB_len, lenV_len]; simpa using hK o h' hk)
  refine calls_mono ?_ this
  rintro o h' ⟨o0, h0', hk, rfl, rfl⟩
  obtain ⟨k1, k2, _⟩ := hK _ _ hk
  refine ⟨o0, h0', hk, rfl, ?_⟩
  simp only
  rw [← k1, ← k2, putB_mid _ _ _ _ _ _ (by simp [k1]), putV_mid _ _ _ _ _ _ (by simp [k2])]
/-- The same; the names stay, others lie behind them. -/
theorem calls_pfx {P : Program} {g : Nat} {args0 : List SV} {h0 : HS} {K0 : Out → HS → Prop} (hc : CallsS P g args0 h0 K0)
    (ba : BdL h0.blks.length h0.vecs.length args0) (bB : bdB h0.blks.length h0.vecs.length h0.blks) (bV : bdV h0.blks.length h0.vecs.length h0.vecs)
    (hK : ∀ o h', K0 o h' → h'.blks.length = h0.blks.length ∧ h'.vecs.length = h0.vecs.length ∧ bdB h0.blks.length h0.vecs.length h'.blks ∧ bdV h0.blks.length h0.vecs.length h'.vecs ∧ bdO h0.blks.length h0.vecs.length o)
    (B : List Blk) (V : List Vc) : CallsS P g args0 ⟨h0.blks ++ B, h0.vecs ++ V⟩ (fun o h' => ∃ o0 h0', K0 o0 h0' ∧ o = renO (fun n => n) (fun n => n) o0 ∧ h' = ⟨h0'.blks ++ B, h0'.vecs ++ V⟩) := by
  have := calls_mid 0 0 hc ba bB bV hK [] B [] V rfl rfl
  simp only [Nat.add_zero, renL_id, List.nil_append] at this
  have e1 : ∀ l : List Blk, l.map (renK (fun n => n) (fun n => n)) = l := fun l => by rw [show (renK (fun n => n) (fun n => n)) = id from funext renK_id]; simp
  have e2 : ∀ l : List Vc, l.map (renC (fun n => n) (fun n => n)) = l := fun l => by rw [show (renC (fun n => n) (fun n => n)) = id from funext renC_id]; simp
  simpa only [e1, e2] using this
/-- Of what a call leaves, some is forgotten; whatever it ends with. -/
theorem calls_trim2 {P : Program} {g : Nat} {args : List SV} {h : HS} {K K' : Out → HS → Prop} (hc : CallsS P g args h K)
    (ht : ∀ o h', K o h' → ∃ x y o' h'', ((o = .ret x ∧ o' = .ret y) ∨ (o = .pan x ∧ o' = .pan y)) ∧ K' o' h'' ∧ SubS [x] h' ([y], h'') ∧ (lenB h.blks ≤ lenB h''.blks ∧ lenB h''.blks ≤ lenB h'.blks) ∧ (lenV h.vecs ≤ lenV h''.vecs ∧ lenV h''.vecs ≤ lenV h'.vecs)) : CallsS P g args h K' := by
  intro E w vals hr hd
  refine (hc E w vals hr hd).mono ?_
  rintro e w' ⟨o, h', E', hk, hr', hx, hout⟩
  obtain ⟨x, y, o', h'', ho, hk', hsub, ⟨hB, hB2⟩, ⟨hV, hV2⟩⟩ := ht o h' hk
  have key : ∀ val : Value, Den E' w' x val → ∃ E2, RelH E2 h'' w' ∧ Ext E w E2 w' ∧ Den E2 w' y val := fun val hout => by
    have hd1 : DenA E' w' [x] #[val] := ⟨rfl, fun i z u hz hu => by
      cases i with
      | zero => simp at hz hu; subst hz hu; exact hout
      | succ i => simp at hz⟩
    obtain ⟨g1, g2⟩ := hsub.go hd1 hr' (lenB h''.blks) (lenV h''.vecs) rfl rfl (by rw [hr'.nb]; exact hB2) (by rw [hr'.nv]; exact hV2)
    exact ⟨_, g2, ⟨hx.os, hx.tape, hx.output, hx.size, by simp only []; rw [hr.nb]; exact hB, by simp only []; rw [hr.nv]; exact hV, hx.rho, hx.val, hx.keep, hx.oth⟩, g1.2 0 y val rfl rfl⟩
  rcases ho with ⟨rfl, rfl⟩ | ⟨rfl, rfl⟩
  · cases e with
    | returned val =>
      obtain ⟨E2, r1, r2, r3⟩ := key val hout
      exact ⟨_, _, E2, hk', r1, r2, r3⟩
    | panicked _ => exact hout.elim
    | outgrown => exact hout.elim
  · cases e with
    | panicked chain =>
      obtain ⟨val, h1, h2⟩ := hout
      obtain ⟨E2, r1, r2, r3⟩ := key val h2
      exact ⟨_, _, E2, hk', r1, r2, val, h1, r3⟩
    | returned _ => exact hout.elim
    | outgrown => exact hout.elim
/- ### families -/
def fam (pre : List Vc) (N : Nat) (f : Nat → Vc) (post : List Vc) : List Vc := pre ++ (tabV f N ++ post)
/-- The name of the i-th of a family, and of the k-th behind it. -/
def fI (b i : Nat) : Nat := b + i
def fP (b N k : Nat) : Nat := b + N + k
def updV (f : Nat → Vc) (i : Nat) (x : Vc) : Nat → Vc := fun j => if j = i then x else f j
theorem updV_same (f : Nat → Vc) (i : Nat) (x : Vc) : updV f i x i = x := by simp [updV]
theorem updV_upd (f : Nat → Vc) (i : Nat) (x y : Vc) : updV (updV f i x) i y = updV f i y := by funext j; simp only [updV]; split <;> rfl
theorem updV_ne {f : Nat → Vc} {i j : Nat} {x : Vc} (h : j ≠ i) : updV f i x j = f j := by simp [updV, h]
variable {pre : List Vc} {N : Nat} {f : Nat → Vc} {post : List Vc}
theorem fam_lenV : lenV (fam pre N f post) = fP (lenV pre) N (lenV post) := by
  simp [fam, lenV_len, tabV_len, fP]; omega
theorem getV_fI {b i : Nat} (hb : lenV pre = b) (hi : i < N) : getV (fam pre N f post) (fI b i) = f i := by
  subst hb
  rw [getV_eq, lenV_len, fam, fI, List.getD_eq_getElem?_getD, List.getElem?_append_right (by omega), Nat.add_sub_cancel_left, List.getElem?_append_left (by rw [tabV_len]; exact hi), tabV_get f N i hi]
  rfl
theorem getV_fP {b k : Nat} (hb : lenV pre = b) : getV (fam pre N f post) (fP b N k) = getV post k := by
  subst hb
  rw [getV_eq, getV_eq, lenV_len, fam, fP, List.getD_eq_getElem?_getD, List.getD_eq_getElem?_getD, List.getElem?_append_right (by omega), List.getElem?_append_right (by rw [tabV_len]; omega), tabV_len]
  congr 2; omega
theorem getV_fL {n : Nat} (h : n < lenV pre) : getV (fam pre N f post) n = getV pre n := by
  rw [lenV_len] at h
  rw [getV_eq, getV_eq, fam, List.getD_eq_getElem?_getD, List.getD_eq_getElem?_getD, List.getElem?_append_left h]
theorem setV_fI {b i : Nat} {x : Vc} (hb : lenV pre = b) (hi : i < N) : setV (fam pre N f post) (fI b i) x = fam pre N (updV f i x) post := by
  have := setV_fam pre f N i x hi
  rw [hb] at this
  rw [setV_eq] at this ⊢
  rw [fam, ← List.append_assoc, List.set_append_left _ _ (by simp [tabV_len, fI, ← hb, lenV_len]; omega)]
  rw [show fI b i = b + i from rfl, this]
  simp only [fam, List.append_assoc]
  rfl
theorem setV_fP {b k : Nat} {x : Vc} (hb : lenV pre = b) : setV (fam pre N f post) (fP b N k) x = fam pre N f (setV post k x) := by
  subst hb
  rw [setV_eq, setV_eq, lenV_len, fam, fP, List.set_append_right _ _ (by omega), List.set_append_right _ _ (by rw [tabV_len]; omega), tabV_len, fam]
  congr 3; omega
theorem setV_fL {n : Nat} {x : Vc} (h : n < lenV pre) : setV (fam pre N f post) n x = fam (setV pre n x) N f post := by
  rw [lenV_len] at h
  rw [setV_eq, setV_eq, fam, List.set_append_left _ _ h, fam]
theorem snocV_fam' {x : Vc} : snocV (fam pre N f post) x = fam pre N f (snocV post x) := by
  rw [snocV_eq, snocV_eq, fam, fam]; simp
/-- The family gets one more. -/
theorem fam_grow {x : Vc} : fam pre N f [x] = fam pre (N + 1) (updV f N x) [] := by
  simp only [fam, tabV, List.append_nil]
  rw [tabV_congr (f := updV f N x) (g := f) N (fun i hi => updV_ne (by omega)), updV_same]
theorem fam_growV {x : Vc} {V : List Vc} : fam pre N f (x :: V) = fam pre (N + 1) (updV f N x) V := by
  simp only [fam, tabV]
  rw [tabV_congr (f := updV f N x) (g := f) N (fun i hi => updV_ne (by omega)), updV_same]
  simp
theorem fam_zero : fam pre 0 f post = pre ++ post := by simp [fam, tabV]
theorem subV_famI {pre' post' : List Vc} {g : Nat → Vc} (hl : lenV pre = lenV pre') (h1 : subV pre pre') (h2 : ∀ i, i < N → subVk (f i) (g i)) (h3 : subV post post') : subV (fam pre N f post) (fam pre' N g post') := by
  rw [lenV_len, lenV_len] at hl
  exact subV_app hl h1 (subV_app (by rw [tabV_len, tabV_len]) (subV_tab N h2) h3)
theorem bdV_famI {L M : Nat} (h1 : bdV L M pre) (h2 : ∀ i, i < N → bdV L M [f i]) (h3 : bdV L M post) : bdV L M (fam pre N f post) := bdV_app h1 (bdV_app (bdV_tab N h2) h3)
theorem fam_congr {g : Nat → Vc} (h : ∀ i, i < N → f i = g i) : fam pre N f post = fam pre N g post := by rw [fam, fam, tabV_congr N h]
theorem fam_map (F : Vc → Vc) : (fam pre N f post).map F = fam (pre.map F) N (fun i => F (f i)) (post.map F) := by
  have : ∀ n, (tabV f n).map F = tabV (fun i => F (f i)) n := fun n => by
    induction n with
    | zero => rfl
    | succ n ih => simp [tabV, ih]
  simp [fam, this]
theorem fam_app (Vp V : List Vc) : Vp ++ (fam pre N f [] ++ V) = fam (Vp ++ pre) N f V := by simp [fam]
theorem fam_len : (fam pre N f post).length = pre.length + N + post.length := by simp [fam, tabV_len]; omega
theorem fI_add (b i q : Nat) : fI b i + q = fI (b + q) i := by simp only [fI]; omega
end Go.Eng
end

/- A call that is handed nothing of the caller's own: what it leaves behind is the caller's own, by names behind the others. -/
section
namespace Go.Eng
open Go.RowKit
set_option linter.unusedVariables false
def appB (b v : Nat → Nat) : List Blk → List Blk → List Blk
  | [], [] => []
  | [], x :: k => renK b v x :: appB b v [] k
  | x :: l, k => x :: appB b v l k
def appV (b v : Nat → Nat) : List Vc → List Vc → List Vc
  | [], [] => []
  | [], x :: k => renC b v x :: appV b v [] k
  | x :: l, k => x :: appV b v l k
theorem lenB_app (b v : Nat → Nat) : ∀ (l k : List Blk), lenB (appB b v l k) = lenB l + lenB k
  | [], [] => by simp [appB, lenB]
  | [], x :: k => by simp only [appB, lenB, lenB_app b v [] k]; omega
  | x :: l, k => by simp only [appB, lenB, lenB_app b v l k]; omega
theorem lenV_app (b v : Nat → Nat) : ∀ (l k : List Vc), lenV (appV b v l k) = lenV l + lenV k
  | [], [] => by simp [appV, lenV]
  | [], x :: k => by simp only [appV, lenV, lenV_app b v [] k]; omega
  | x :: l, k => by simp only [appV, lenV, lenV_app b v l k]; omega
theorem getB_app (b v : Nat → Nat) : ∀ (l k : List Blk) (n : Nat), getB (appB b v l k) n = if n < lenB l then getB l n else renK b v (getB k (n - lenB l))
  | [], [], n => by simp [appB, getB, lenB, renK]
  | [], x :: k, 0 => by simp [appB, getB, lenB]
  | [], x :: k, n + 1 => by
    have := getB_app b v [] k n
    simp only [lenB, Nat.not_lt_zero, if_false, Nat.sub_zero] at this ⊢
    simp only [appB, getB, this]
  | x :: l, k, 0 => by simp [appB, getB, lenB]
  | x :: l, k, n + 1 => by
    simp only [appB, getB, getB_app b v l k n, lenB, Nat.add_lt_add_iff_right, Nat.add_sub_add_right]
theorem getV_app (b v : Nat → Nat) : ∀ (l k : List Vc) (n : Nat), getV (appV b v l k) n = if n < lenV l then getV l n else renC b v (getV k (n - lenV l))
  | [], [], n => by simp [appV, getV, lenV, renC]
  | [], x :: k, 0 => by simp [appV, getV, lenV]
  | [], x :: k, n + 1 => by
    have := getV_app b v [] k n
    simp only [lenV, Nat.not_lt_zero, if_false, Nat.sub_zero] at this ⊢
    simp only [appV, getV, this]
  | x :: l, k, 0 => by simp [appV, getV, lenV]
  | x :: l, k, n + 1 => by
    simp only [appV, getV, getV_app b v l k n, lenV, Nat.add_lt_add_iff_right, Nat.add_sub_add_right]
def tagU (L M : Nat) (old new : Option Tag) : Option Tag :=
  match old with
  | some t => some t
  | none => match new with
    | some (.blk i) => some (.blk (i + L))
    | some (.vec i) => some (.vec (i + M))
    | some .other => some .other
    | none => none
/-- The caller's ghost and the callee's, one behind the other. -/
def Env.grow (E E0 : Env) : Env :=
  { nb := E0.nb + E.nb, rho := fun i => if i < E.nb then E.rho i else E0.rho (i - E.nb), nv := E0.nv + E.nv, val := fun i ver => if i < E.nv then E.val i ver else E0.val (i - E.nv) ver, own := fun k => tagU E.nb E.nv (E.own k) (E0.own k) }
theorem calls_grow {P : Program} {g : Nat} {args : List SV} {K0 : Out → HS → Prop} (hc : CallsS P g args ⟨[], []⟩ K0) (ba : BdL 0 0 args)
    (hK : ∀ o h', K0 o h' → bdB (lenB h'.blks) (lenV h'.vecs) h'.blks ∧ bdV (lenB h'.blks) (lenV h'.vecs) h'.vecs ∧ bdO (lenB h'.blks) (lenV h'.vecs) o) (h : HS) :
    CallsS P g args h (fun o h' => ∃ o0 h0', K0 o0 h0' ∧ o = renO (· + lenB h.blks) (· + lenV h.vecs) o0 ∧ h' = ⟨appB (· + lenB h.blks) (· + lenV h.vecs) h.blks h0'.blks, appV (· + lenB h.blks) (· + lenV h.vecs) h.vecs h0'.vecs⟩) := by
  intro E w vals hr hd
  have hd' : DenA E.sub w args vals := ⟨hd.1, fun i x u hx hu => (hd.2 i x u hx hu).turn (BdL_get ba i x hx) (fun nm hn => by simp [Env.sub] at hn) (fun id ver y hi => by simp [Env.sub] at hi)
    (fun b _ ho => by simp [Env.sub, ho])⟩
  refine (hc E.sub w vals (sub_rel hr) hd').mono ?_
  rintro e w' ⟨o, h', E', hk, hr', hx, hout⟩
  obtain ⟨k3, k4, k5⟩ := hK o h' hk
  have e1 : E'.nb = lenB h'.blks := hr'.nb
  have e2 : E'.nv = lenV h'.vecs := hr'.nv
  rw [← hr.nb, ← hr.nv]
  have kept : ∀ k t, E.own k = some t → w'.heap[k]? = w.heap[k]? ∧ (E.grow E').own k = E.own k ∧ E'.own k = some .other := fun k t ho => by
    obtain ⟨q1, q2⟩ := hx.oth k (by simp [Env.sub, ho])
    exact ⟨q2, by simp [Env.grow, ho, tagU], q1⟩
  have free : ∀ k, E'.own k = none → E.own k = none := fun k ho => by
    cases hE : E.own k with
    | none => rfl
    | some t => rw [(kept k t hE).2.2] at ho; cases ho
  have hxG : Ext E w (E.grow E') w' := by
    refine ⟨hx.os, hx.tape, hx.output, hx.size, by simp [Env.grow], by simp [Env.grow], fun nm hn => by simp [Env.grow, hn], fun id ver x hi hv => by simp [Env.grow, hi, hv], fun k hk ho => ?_, fun k ho => ?_⟩
    · obtain ⟨q1, q2⟩ := hx.keep k hk (by simp [Env.sub, ho])
      exact ⟨by simp [Env.grow, ho, q1, tagU], q2⟩
    · obtain ⟨q1, q2, _⟩ := kept k _ ho
      exact ⟨by rw [q2, ho], q1⟩
  have up := fun (x : SV) (u : Value) (hd : Den E' w' x u) (hb : Bd (lenB h'.blks) (lenV h'.vecs) x) =>
    Den.ren (E := E.grow E') (E0 := E') (b := (· + E.nb)) (v := (· + E.nv)) hd hb (fun nm hn _ => ⟨by simp only [Env.grow]; omega, by simp only [Env.grow]; rw [if_neg (by omega), Nat.add_sub_cancel]⟩) (fun id ver y hi _ hy => ⟨by simp only [Env.grow]; omega, by simp only [Env.grow]; rw [if_neg (by omega), Nat.add_sub_cancel]; exact hy⟩)
      (fun k _ hk => by simp [Env.grow, free k hk, hk, tagU])
  have upL := fun (l : List SV) (us : Array Value) (hd : DenA E' w' l us) (hb : BdL (lenB h'.blks) (lenV h'.vecs) l) => (show DenA (E.grow E') w' (renL (· + E.nb) (· + E.nv) l) us from
    ⟨by rw [hd.1, renL_eq]; simp, fun i x u hx hu => by
      rw [renL_eq, List.getElem?_map, Option.map_eq_some_iff] at hx
      obtain ⟨y, hy, rfl⟩ := hx
      exact up y u (hd.2 i y u hy hu) (BdL_get hb i y hy)⟩)
  have new : ∀ k t, E'.own k = some t → (match t with | .other => False | _ => True) → E.own k = none := fun k t ho ht => by
    cases hE : E.own k with
    | none => rfl
    | some t' => rw [(kept k t' hE).2.2] at ho; cases ho; exact ht.elim
  have gown : ∀ i, E'.own (E'.rho i) = some (.blk i) → (E.grow E').own (E'.rho i) = some (.blk (i + E.nb)) := fun i ho => by
    have := new _ _ ho trivial
    simp [Env.grow, ho, this, tagU]
  refine ⟨renO (· + E.nb) (· + E.nv) o, _, E.grow E', ⟨o, h', hk, rfl, rfl⟩, ?_, hxG, ?_⟩
  · have gBp := getB_app (· + E.nb) (· + E.nv) h.blks h'.blks
    have gVp := getV_app (· + E.nb) (· + E.nv) h.vecs h'.vecs
    have hnb := hr.nb
    have hnv := hr.nv
    refine ⟨by rw [lenB_app]; simp only [Env.grow]; omega, by rw [lenV_app]; simp only [Env.grow]; omega, ?_, ?_, ?_, ?_, ?_⟩
    · intro nm ty c hg
      simp only at hg
      rw [gBp] at hg
      split at hg
      · rename_i hlt
        obtain ⟨cs, a1, a2, a3, a4⟩ := hr.blk _ _ _ hg
        obtain ⟨f1, f2, _⟩ := kept _ _ a4
        have hr0 : (E.grow E').rho nm = E.rho nm := by simp only [Env.grow]; rw [if_pos (by omega)]
        exact ⟨cs, by rw [hr0]; exact f1.trans a1, a2.ext hxG, a3, by rw [hr0]; exact f2.trans a4⟩
      · rename_i hlt
        have hr0 : (E.grow E').rho nm = E'.rho (nm - lenB h.blks) := by simp only [Env.grow]; rw [if_neg (by omega), hnb]
        cases hb : getB h'.blks (nm - lenB h.blks) with
        | live ty' c' =>
          rw [hb] at hg
          simp only [renK, Blk.live.injEq] at hg
          obtain ⟨rfl, rfl⟩ := hg
          obtain ⟨cs, a1, a2, a3, a4⟩ := hr'.blk _ _ _ hb
          refine ⟨cs, by rw [hr0]; exact a1, upL c' cs a2 (bdB_get k3 hb), a3, ?_⟩
          rw [hr0, gown _ a4, hnb]
          congr 2
          omega
        | dead => rw [hb] at hg; simp [renK] at hg
        | loop => rw [hb] at hg; simp [renK] at hg
        | mp => rw [hb] at hg; simp [renK] at hg
    · intro id ver ty sz n f hg
      simp only at hg
      rw [gVp] at hg
      split at hg
      · rename_i hlt
        obtain ⟨c0, ⟨a, cap, l1, l2⟩, l3⟩ := hr.vec _ _ _ _ _ _ hg
        have hval : ∀ ver, (E.grow E').val id ver = E.val id ver := fun ver => by simp only [Env.grow]; rw [if_pos (by omega)]
        exact ⟨c0, ⟨a, cap, by rw [hval]; exact l1, l2.ext hxG (fun g hg => ⟨(kept g _ hg).1, (kept g _ hg).2.1⟩)⟩, fun v' hv' => by rw [hval]; exact l3 v' hv'⟩
      · rename_i hlt
        have hval : ∀ ver, (E.grow E').val id ver = E'.val (id - lenV h.vecs) ver := fun ver => by simp only [Env.grow]; rw [if_neg (by omega), hnv]
        cases hb : getV h'.vecs (id - lenV h.vecs) with
        | live ver' ty' sz' n' f' =>
          rw [hb] at hg
          simp only [renC, Vc.live.injEq] at hg
          obtain ⟨rfl, rfl, rfl, rfl, rfl⟩ := hg
          obtain ⟨c0, ⟨a, cap, l1, l2⟩, l3⟩ := hr'.vec _ _ _ _ _ _ hb
          refine ⟨c0, ⟨a, cap, by rw [hval]; exact l1, ?_⟩, fun v' hv' => by rw [hval]; exact l3 v' hv'⟩
          rcases l2 with hk | ⟨g1, o, cur, p1, p2, p3, p4, p5, p6, p7, p8⟩
          · exact .inl hk
          · refine .inr ⟨g1, o, cur, p1, p2, p3, p4, p5, ?_, p7, fun a j u hi hj hu => up _ _ (p8 a j u hi hj hu) (bdV_get k4 hb a j hi hj)⟩
            have := new _ _ p6 trivial
            simp only [Env.grow, this, p6, tagU]
            congr 2
            omega
        | dead => rw [hb] at hg; simp [renC] at hg
    · intro k t hk
      simp only [Env.grow] at hk
      cases hE : E.own k with
      | some t' => exact Nat.lt_of_lt_of_le (hr.own k t' hE) hx.size
      | none =>
        cases hE' : E'.own k with
        | none => rw [hE, hE'] at hk; simp [tagU] at hk
        | some t' => exact hr'.own k t' hE'
    · intro nm st pend fid t params assign body hg
      simp only at hg
      rw [gBp] at hg
      split at hg
      · rename_i hlt
        have hr0 : (E.grow E').rho nm = E.rho nm := by simp only [Env.grow]; rw [if_pos (by omega)]
        exact (hr.lp _ _ _ _ _ _ _ _ hg).ext hxG (fun ho => ⟨hr0, (kept _ _ ho).1, (kept _ _ ho).2.1⟩)
      · rename_i hlt
        have hr0 : (E.grow E').rho nm = E'.rho (nm - lenB h.blks) := by simp only [Env.grow]; rw [if_neg (by omega), hnb]
        cases hb : getB h'.blks (nm - lenB h.blks) with
        | loop st' pend' fid' t' params' assign' body' =>
          rw [hb] at hg
          simp only [renK, Blk.loop.injEq] at hg
          obtain ⟨rfl, rfl, rfl, rfl, rfl, rfl, rfl⟩ := hg
          obtain ⟨tmps, db, a1, a2, a3⟩ := hr'.lp _ _ _ _ _ _ _ _ hb
          refine ⟨tmps, db, by rw [hr0]; exact a1, upL t' tmps a2 (bdB_getL k3 hb), ?_⟩
          rw [hr0, gown _ a3, hnb]
          congr 2
          omega
        | dead => rw [hb] at hg; simp [renK] at hg
        | live => rw [hb] at hg; simp [renK] at hg
        | mp => rw [hb] at hg; simp [renK] at hg
    · intro nm m hg
      simp only at hg
      rw [gBp] at hg
      split at hg
      · rename_i hlt
        have hr0 : (E.grow E').rho nm = E.rho nm := by simp only [Env.grow]; rw [if_pos (by omega)]
        exact (hr.mp _ _ hg).ext hxG (fun ho => ⟨hr0, (kept _ _ ho).1, (kept _ _ ho).2.1⟩)
      · rename_i hlt
        have hr0 : (E.grow E').rho nm = E'.rho (nm - lenB h.blks) := by simp only [Env.grow]; rw [if_neg (by omega), hnb]
        cases hb : getB h'.blks (nm - lenB h.blks) with
        | mp m' =>
          rw [hb] at hg
          simp only [renK, Blk.mp.injEq] at hg
          subst hg
          obtain ⟨a2, a3⟩ := hr'.mp _ _ hb
          have hi := bdB_getM k3 hb
          rw [hi] at a3
          obtain ⟨es, a1, a4⟩ := a3
          refine ⟨?_, ?_⟩
          · rw [hr0, gown _ a2, hnb]
            congr 2
            omega
          · rw [hi]
            exact ⟨es, by rw [hr0]; exact a1, a4⟩
        | dead => rw [hb] at hg; simp [renK] at hg
        | live => rw [hb] at hg; simp [renK] at hg
        | loop => rw [hb] at hg; simp [renK] at hg
  · cases o with
    | ret v =>
      cases e with
      | returned val => exact up _ _ hout k5
      | panicked _ => exact hout.elim
      | outgrown => exact hout.elim
    | pan v =>
      cases e with
      | panicked chain => obtain ⟨val, h1, h2⟩ := hout; exact ⟨val, h1, up _ _ h2 k5⟩
      | returned _ => exact hout.elim
      | outgrown => exact hout.elim
    | _ => cases e <;> exact hout.elim
end Go.Eng
end
